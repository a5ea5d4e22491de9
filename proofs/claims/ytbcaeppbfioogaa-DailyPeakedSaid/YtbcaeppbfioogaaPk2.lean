/-
  What functions of the Go text compute, as plain functions, and that they do, part 2 of 3. Conditions: what each theorem names.
-/
import Derived.Test.YtbcaeppbfioogaaPk1
import Derived.Test.YtbcaeppbfioogaaProg
set_option linter.unusedVariables false
set_option linter.unusedSimpArgs false
set_option maxRecDepth 100000
set_option maxHeartbeats 4000000
namespace Go.Nilo
open Go.Proofs


def law07_lists_b5 (N : Nat) (l : List api_Span) (low : List Int) (high : List Int) (x : Int) : Option (Step ((List Int) × (List Int) × Int) ((List Int) × (List Int))) :=
  cond (decide (x < ((l.length : Nat) : Int)))
  (Option.bind (getI l x) fun e_1 =>
  Option.bind (room ((low ++ [e_1.Lo])).length) fun un =>
  Option.bind (room ((high ++ [e_1.Hi])).length) fun un_1 =>
  some (.cont ((low ++ [e_1.Lo]), (high ++ [e_1.Hi]), W (x + 1))))
  (some (.brk (low, high, x)))
def law07_lists (N : Nat) (l : List api_Span) : Option ((List Int) × (List Int)) :=
  Option.bind (loopO (fun s5 => law07_lists_b5 N l s5.1 s5.2.1 s5.2.2) N (([] : List Int), ([] : List Int), 0)) fun x5 =>
  exK x5 (fun s5 => some (s5.1, s5.2.1)) some
theorem law07_lists_ok {N : Nat} {G : Pers} {Lf : List Ent} {w : World} (l : List api_Span) {l_p : Option Addr} {l_c : Nat} (h_l : Rd G 2 l_p l_c (l.map enc_api_Span)) (hc : Ctx G (Lf) w) {res : (List Int) × (List Int)} (hF : law07_lists N l = some res) : Calls Try.prog 40 #[.slice l_p l.length l_c] w (fun e w => ∃ (p'1 : Option Addr) (c'1 : Nat) (p'2 : Option Addr) (c'2 : Nat), e = .returned (.tuple #[.slice p'1 res.1.length c'1, .slice p'2 res.2.length c'2]) ∧ Ctx G (.row p'1 c'1 (res.1.map encI_i64) 3 1 :: .row p'2 c'2 (res.2.map encI_i64) 3 1 :: Lf) w) := by
  unfold law07_lists at hF
  refine fnIn (args := [.slice l_p l.length l_c]) Try.func40 rfl Try.ntmps40 rfl fun a hf => ?_
  refine wp_seq_k fun K1 h1 => ?_
  refine cReg ?_
  refine stP hf rfl rfl rfl (pA rfl) fun a hf => ?_
  refine stP hf rfl rfl rfl (pA rfl) fun a hf => ?_
  refine cNil ?_
  refine h1 _ _ ?_
  refine wp_seq_k fun K2 h2 => ?_
  refine cReg ?_
  refine stP hf rfl rfl rfl (pA rfl) fun a hf => ?_
  refine stP hf rfl rfl rfl (pA rfl) fun a hf => ?_
  refine cNil ?_
  refine h2 _ _ ?_
  refine wp_seq_k fun K3 h3 => ?_
  refine wp_seq_k fun K4 h4 => ?_
  refine cReg ?_
  refine stP hf rfl rfl rfl (pM rfl) fun a hf => ?_
  refine stP hf rfl rfl rfl (pLenS Try.underlying25 rfl) fun a hf => ?_
  refine stP hf rfl rfl rfl (pM rfl) fun a hf => ?_
  refine cNil ?_
  refine h4 _ _ ?_
  refine wp_block ?_
  obtain ⟨x5, hx5, hF⟩ := bnd_some hF
  let S5 : ((List Int) × (List Int) × Int) → Act → World → Prop := (fun (zz : (List Int) × (List Int) × Int) a w => ∃ (p_1 : Option Addr) (c_1 : Nat) (p_2 : Option Addr) (c_2 : Nat), Has 27 a [(4, .slice p_1 zz.1.length c_1), (5, .slice p_2 zz.2.1.length c_2), (8, .slice l_p l.length l_c), (9, .int .i64 ((l.length : Nat) : Int)), (10, .int .i64 zz.2.2)] ∧ Ctx G (.row p_2 c_2 (zz.2.1.map encI_i64) 3 1 :: .row p_1 c_1 (zz.1.map encI_i64) 3 1 :: Lf) w)
  have hr5 : ∀ (zz : (List Int) × (List Int) × Int) a w, x5 = .go zz → S5 zz a w → K3 a w := by
    rintro ⟨low, high, x⟩ a w rfl ⟨p_1, c_1, p_2, c_2, hf, hc⟩
    replace hF := exK_go hF
    refine h3 _ _ ?_
    refine wp_seq_k fun K6 h6 => ?_
    refine cReg ?_
    refine stP hf rfl rfl rfl (pM rfl) fun a hf => ?_
    refine stP hf rfl rfl rfl (pM rfl) fun a hf => ?_
    refine stP hf rfl rfl rfl (pA rfl) fun a hf => ?_
    refine stP hf rfl rfl rfl (pA rfl) fun a hf => ?_
    refine cNil ?_
    refine h6 _ _ ?_
    refine wp_ret ?_
    obtain rfl := Option.some.inj hF
    replace hc := hc.pick k0
    replace hc := hc.pick k1
    exact fnOut2 (by simp) rfl Try.results40 hf hc (show look _ 2 = _ from rfl) (show look _ 3 = _ from rfl) ⟨p_1, c_1, p_2, c_2, rfl, hc⟩
  have ho5 : ∀ r, x5 = .out r → r = res := by
    rintro r rfl
    exact Option.some.inj hF
  replace hc := hc.nilRow 3 1
  replace hc := hc.nilRow 3 1
  refine cLoop N (loopW (S := S5) (x := x5) ?_ N (([] : List Int), ([] : List Int), 0) _ _ ⟨none, 0, none, 0, hf.keep ⟨rfl, rfl, rfl, rfl, rfl, trivial⟩, hc⟩ hx5)
  clear hF hf hc
  rintro ⟨low, high, x⟩ st5 a w KB5 ⟨p_1, c_1, p_2, c_2, hf, hc⟩ hF hfin5 hK5
  unfold law07_lists_b5 at hF
  refine wp_seq_k fun K7 h7 => ?_
  refine cReg ?_
  refine stP hf rfl rfl rfl (pLt rfl rfl) fun a hf => ?_
  refine cNil ?_
  refine h7 _ _ ?_
  refine wp_seq_k fun K8 h8 => ?_
  refine cCond (b := (decide (x < ((l.length : Nat) : Int)))) hf rfl (fun hb => ?_) (fun hb => ?_)
  · replace hF := condT hb hF
    clear hb
    refine wp_skip ?_
    refine h8 _ _ ?_
    refine wp_seq_k fun K9 h9 => ?_
    refine wp_block ?_
    refine wp_seq_k fun K10 h10 => ?_
    refine cReg ?_
    obtain ⟨e_1, he_1, hF⟩ := bnd_some hF
    obtain ⟨b_1, o, qa, qp⟩ := h_l.atm he_1
    refine stP hf rfl rfl rfl (pIA Try.underlying25 sz_30 rfl rfl qa) fun a hf => ?_
    refine stE hf hc rfl rfl rfl (eLdN (vs := [.int .i64 e_1.Lo, .int .i64 e_1.Hi]) ag_30 rfl rfl (cells_pc qp (n := 2) (o' := 0) rfl)) fun a w hf hc => ?_
    refine stAl (cs := [.int .i64 0, .int .i64 0]) hf hc rfl rfl zr_30 rfl fun b_2 a w hf hc => ?_
    refine stSt (vs := [.int .i64 e_1.Lo, .int .i64 e_1.Hi]) hf hc rfl rfl rfl rfl sz_30 rfl rfl u0 fun w hc => ?_
    refine cNil ?_
    refine h10 _ _ ?_
    obtain ⟨un, hun, hF⟩ := bnd_some hF
    obtain ⟨un_1, hun_1, hF⟩ := bnd_some hF
    replace hc := hc.nilRow 0 0
    replace hc := hc.nilRow 0 0
    refine regionE (fun θ => [⟨none, some 10, 4, .slice p_1 low.length c_1⟩, ⟨none, some 11, 5, .slice p_2 high.length c_2⟩, ⟨none, none, 7, .pointer (some ⟨b_2, 0, none⟩)⟩, ⟨none, none, 8, .slice l_p l.length l_c⟩, ⟨none, none, 9, .int .i64 ((l.length : Nat) : Int)⟩, ⟨none, none, 10, .int .i64 x⟩, ⟨some 0, none, 14, .slice p_1 low.length c_1⟩, ⟨some 1, none, 15, .pointer (some ⟨b_2, 0, none⟩)⟩, ⟨some 2, none, 16, .int .i64 e_1.Lo⟩, ⟨some 3, none, 17, .slice (some ⟨(θ 24).b, 0, none⟩) 1 1⟩, ⟨some 4, none, 18, .slice ((θ 32).p) ((low ++ [e_1.Lo]).length) ((θ 32).c)⟩, ⟨some 5, none, 19, .slice p_2 high.length c_2⟩, ⟨some 6, none, 20, .pointer (some ⟨b_2, 1, none⟩)⟩, ⟨some 7, none, 21, .int .i64 e_1.Hi⟩, ⟨some 8, none, 22, .slice (some ⟨(θ 64).b, 0, none⟩) 1 1⟩, ⟨some 9, none, 23, .slice ((θ 72).p) ((high ++ [e_1.Hi]).length) ((θ 72).c)⟩, ⟨some 10, none, 4, .slice ((θ 32).p) ((low ++ [e_1.Lo]).length) ((θ 32).c)⟩, ⟨some 11, none, 5, .slice ((θ 72).p) ((high ++ [e_1.Hi]).length) ((θ 72).c)⟩]) (fun E θ => (bif E 8 then .row (some ⟨(θ 64).b, 0, none⟩) 1 (([e_1.Hi] : List Int).map encI_i64) 3 1 else .row none 0 [] 0 0) :: (bif E 3 then .row (some ⟨(θ 24).b, 0, none⟩) 1 (([e_1.Lo] : List Int).map encI_i64) 3 1 else .row none 0 [] 0 0) :: .box b_2 [.int .i64 e_1.Lo, .int .i64 e_1.Hi] 30 :: (bif E 9 then .row ((θ 72).p) ((θ 72).c) ((high ++ [e_1.Hi]).map encI_i64) 3 1 else .row p_2 c_2 (high.map encI_i64) 3 1) :: (bif E 4 then .row ((θ 32).p) ((θ 32).c) ((low ++ [e_1.Lo]).map encI_i64) 3 1 else .row p_1 c_1 (low.map encI_i64) 3 1) :: Lf) [(10, 0), (10, 4), (11, 5), (11, 9)] (fun a w => ∃ (p_5 : Option Addr) (c_5 : Nat) (p_6 : Option Addr) (c_6 : Nat) (b_5 : Nat) (b_6 : Nat), Has 27 a [(8, .slice l_p l.length l_c), (9, .int .i64 ((l.length : Nat) : Int)), (10, .int .i64 x), (4, .slice p_5 ((low ++ [e_1.Lo]).length) c_5), (5, .slice p_6 ((high ++ [e_1.Hi]).length) c_6)] ∧ Ctx G (.row (some ⟨b_5, 0, none⟩) 1 (([e_1.Hi] : List Int).map encI_i64) 3 1 :: .row (some ⟨b_6, 0, none⟩) 1 (([e_1.Lo] : List Int).map encI_i64) 3 1 :: .box b_2 [.int .i64 e_1.Lo, .int .i64 e_1.Hi] 30 :: .row p_6 c_6 ((high ++ [e_1.Hi]).map encI_i64) 3 1 :: .row p_5 c_5 ((low ++ [e_1.Lo]).map encI_i64) 3 1 :: Lf) w) follows_mx (by kernel_rfl) (by kernel_rfl) (HasE.of hf ⟨rfl, rfl, rfl, rfl, rfl, rfl, trivial, trivial, trivial, trivial, trivial, trivial, trivial, trivial, trivial, trivial, trivial, trivial, trivial⟩) hc ⟨?_, ?_, ?_, ?_, ?_, ?_, ?_, ?_, ?_, ?_, ?_, ?_, trivial⟩ ?_ ?_
    · intro E θ a w hD hi hp he hc
      have e10 := hD.f 0 rfl hi
      have hf := he.h0
      replace hf := hf.more he 0 rfl (onN e10)
      refine stP hf rfl rfl rfl (pM rfl) fun a hf => ?_
      refine cNil ?_
      refine xThenN ?_
      intro ds u hau
      refine ⟨θ, he.put0 hi hau hf rfl 6 rfl rfl, ?_⟩
      exact hc
    · intro E θ a w hD hi hp he hc
      have hf := he.h0
      replace hf := hf.more he 2 rfl onT
      refine stP hf rfl rfl rfl (pFA fa_30_0 rfl) fun a hf => ?_
      refine cNil ?_
      refine xThenN ?_
      intro ds u hau
      refine ⟨θ, he.put0 hi hau hf rfl 7 rfl rfl, ?_⟩
      exact hc
    · intro E θ a w hD hi hp he hc
      have e1 := hp.of (k := 1) rfl
      have hf := he.h0
      replace hf := hf.more he 7 rfl (onP e1)
      refine stE hf hc rfl rfl rfl (eLd1 sc_3 rfl (cell_box m2 rfl)) fun a w hf hc => ?_
      refine cNil ?_
      refine xThenN ?_
      intro ds u hau
      refine ⟨θ, he.put0 hi hau hf rfl 8 rfl rfl, ?_⟩
      exact hc
    · intro E θ a w hD hi hp he hc
      have e2 := hp.of (k := 2) rfl
      try dsimp only at hc
      rw [hi] at hc
      have hf := he.h0
      replace hf := hf.more he 8 rfl (onP e2)
      refine stBS (rows := ([e_1.Lo] : List Int).map encI_i64) (vs := [(0, .int .i64 e_1.Lo)]) hf hc rfl rfl sl_39 rfl ⟨rfl, rfl, rfl, trivial⟩ rfl rfl fun b_3 a w hf hc => ?_
      refine cNil ?_
      refine xThenN ?_
      intro ds u hau
      replace hc := hc.drop k2
      replace hc := hc.pick k0
      replace hc := hc.pick k1
      refine ⟨(setT θ 24 ⟨b_3, none, 0⟩), he.put hi hau hf rfl [] trivial ⟨qq, qq, qq, qq, qq, qq, qq, qq, qq, qq, qq, qq, qq, qq, qq, qq, qq, qq, trivial⟩, ?_⟩
      try dsimp only
      rw [updE_self E 3]
      exact hc
    · intro E θ a w hD hi hp he hc
      have e0 := hp.of (k := 0) rfl
      have e3 := hp.of (k := 3) rfl
      have e10 := hD.f 1 rfl hi
      try dsimp only at hc
      rw [e3, hi] at hc
      have hf := he.h0
      replace hf := hf.more he 6 rfl (onP e0)
      replace hf := hf.more he 9 rfl (onP e3)
      refine stApm (xs := low) (ys := ([e_1.Lo] : List Int)) hf hc rfl rfl sl_39 rfl rfl rfl rfl rfl one_encI_i64 (src_row hc m1) (fun _ _ => u4) (by simpa using room_spec hun) fun p_3 c_3 a w hf hc => ?_
      refine cNil ?_
      refine xThenN ?_
      intro ds u hau
      refine ⟨(setT θ 32 ⟨0, p_3, c_3⟩), he.put hi hau hf rfl [10] ⟨⟨e10, rfl⟩, trivial⟩ ⟨qq, qq, qq, qq, qq, qq, qq, qq, qq, qq, qq, qq, qq, qq, qq, qq, trivial, qq, trivial⟩, ?_⟩
      try dsimp only
      rw [updE_tru 4 e3, updE_self E 4]
      exact hc
    · intro E θ a w hD hi hp he hc
      have e11 := hD.f 2 rfl hi
      have hf := he.h0
      replace hf := hf.more he 1 rfl (onN e11)
      refine stP hf rfl rfl rfl (pM rfl) fun a hf => ?_
      refine cNil ?_
      refine xThenN ?_
      intro ds u hau
      refine ⟨θ, he.put0 hi hau hf rfl 11 rfl rfl, ?_⟩
      exact hc
    · intro E θ a w hD hi hp he hc
      have hf := he.h0
      replace hf := hf.more he 2 rfl onT
      refine stP hf rfl rfl rfl (pFA fa_30_1 rfl) fun a hf => ?_
      refine cNil ?_
      refine xThenN ?_
      intro ds u hau
      refine ⟨θ, he.put0 hi hau hf rfl 12 rfl rfl, ?_⟩
      exact hc
    · intro E θ a w hD hi hp he hc
      have e6 := hp.of (k := 6) rfl
      have hf := he.h0
      replace hf := hf.more he 12 rfl (onP e6)
      refine stE hf hc rfl rfl rfl (eLd1 sc_3 rfl (cell_box m2 rfl)) fun a w hf hc => ?_
      refine cNil ?_
      refine xThenN ?_
      intro ds u hau
      refine ⟨θ, he.put0 hi hau hf rfl 13 rfl rfl, ?_⟩
      exact hc
    · intro E θ a w hD hi hp he hc
      have e7 := hp.of (k := 7) rfl
      try dsimp only at hc
      rw [hi] at hc
      have hf := he.h0
      replace hf := hf.more he 13 rfl (onP e7)
      refine stBS (rows := ([e_1.Hi] : List Int).map encI_i64) (vs := [(0, .int .i64 e_1.Hi)]) hf hc rfl rfl sl_39 rfl ⟨rfl, rfl, rfl, trivial⟩ rfl rfl fun b_4 a w hf hc => ?_
      refine cNil ?_
      refine xThenN ?_
      intro ds u hau
      replace hc := hc.drop k1
      refine ⟨(setT θ 64 ⟨b_4, none, 0⟩), he.put hi hau hf rfl [] trivial ⟨qq, qq, qq, qq, qq, qq, qq, qq, qq, qq, qq, qq, qq, qq, qq, qq, qq, qq, trivial⟩, ?_⟩
      try dsimp only
      rw [updE_self E 8]
      exact hc
    · intro E θ a w hD hi hp he hc
      have e5 := hp.of (k := 5) rfl
      have e8 := hp.of (k := 8) rfl
      have e11 := hD.f 3 rfl hi
      try dsimp only at hc
      rw [e8, hi] at hc
      have hf := he.h0
      replace hf := hf.more he 11 rfl (onP e5)
      replace hf := hf.more he 14 rfl (onP e8)
      refine stApm (xs := high) (ys := ([e_1.Hi] : List Int)) hf hc rfl rfl sl_39 rfl rfl rfl rfl rfl one_encI_i64 (src_row hc m0) (fun _ _ => u3) (by simpa using room_spec hun_1) fun p_4 c_4 a w hf hc => ?_
      refine cNil ?_
      refine xThenN ?_
      intro ds u hau
      refine ⟨(setT θ 72 ⟨0, p_4, c_4⟩), he.put hi hau hf rfl [11] ⟨⟨e11, rfl⟩, trivial⟩ ⟨qq, qq, qq, qq, qq, qq, qq, qq, qq, qq, qq, qq, qq, qq, qq, qq, qq, trivial, trivial⟩, ?_⟩
      try dsimp only
      rw [updE_tru 9 e8, updE_self E 9]
      exact hc
    · intro E θ a w hD hi hp he hc
      have e4 := hp.of (k := 4) rfl
      have hf := he.h0
      replace hf := hf.more he 10 rfl (onP e4)
      refine stP hf rfl rfl rfl (pA rfl) fun a hf => ?_
      refine cNil ?_
      refine xThenN ?_
      intro ds u hau
      refine ⟨θ, he.put0 hi hau hf rfl 16 rfl rfl, ?_⟩
      exact hc
    · intro E θ a w hD hi hp he hc
      have e9 := hp.of (k := 9) rfl
      have hf := he.h0
      replace hf := hf.more he 15 rfl (onP e9)
      refine stP hf rfl rfl rfl (pA rfl) fun a hf => ?_
      refine cNil ?_
      refine xThenN ?_
      intro ds u hau
      refine ⟨θ, he.put0 hi hau hf rfl 17 rfl rfl, ?_⟩
      exact hc
    · intro E θ a w hall he hc
      have hf := he.h0
      have e3 := hall 3 rfl
      have e4 := hall 4 rfl
      have e8 := hall 8 rfl
      have e9 := hall 9 rfl
      have e10 := hall 10 rfl
      have e11 := hall 11 rfl
      replace hf := hf.more he 17 rfl (onP e11)
      replace hf := hf.more he 16 rfl (onP e10)
      replace hf := hf.more he 5 rfl (onT)
      replace hf := hf.more he 4 rfl (onT)
      replace hf := hf.more he 3 rfl (onT)
      try dsimp only at hc
      rw [e3, e4, e8, e9] at hc
      exact ⟨(θ 32).p, (θ 32).c, (θ 72).p, (θ 72).c, (θ 64).b, (θ 24).b, hf.keep ⟨rfl, rfl, rfl, rfl, rfl, trivial⟩, hc⟩
    rintro a w ⟨p_5, c_5, p_6, c_6, b_5, b_6, hf, hc⟩
    refine h9 _ _ ?_
    refine cReg ?_
    refine stP hf rfl rfl rfl (pAdd rfl rfl) fun a hf => ?_
    refine stP hf rfl rfl rfl (pM rfl) fun a hf => ?_
    refine cNil ?_
    replace hc := hc.drop k2
    replace hc := hc.drop k1
    replace hc := hc.drop k0
    exact hK5 ((low ++ [e_1.Lo]), (high ++ [e_1.Hi]), W (x + 1)) _ _ (Option.some.inj hF).symm ⟨p_5, c_5, p_6, c_6, hf.keep ⟨rfl, rfl, rfl, rfl, rfl, trivial⟩, hc⟩
  · replace hF := condF hb hF
    clear hb
    refine wp_exit ?_
    refine xThen ?_
    refine xThen ?_
    have he := Option.some.inj hF
    rw [← he] at hfin5
    refine cHit ?_
    exact hr5 _ _ _ hfin5 ⟨p_1, c_1, p_2, c_2, hf.keep ⟨rfl, rfl, rfl, rfl, rfl, trivial⟩, hc⟩

def slices_Index_Lint_int_b4 (N : Nat) (s_ : List Int) (v : Int) (x : Int) : Option (Step (Int) (Int)) :=
  cond (decide (x < ((s_.length : Nat) : Int)))
  (Option.bind (getI s_ x) fun e_1 =>
  cond (v == e_1)
  (some (.ret x))
  (some (.cont (W (x + 1)))))
  (some (.brk x))
def slices_Index_Lint_int (N : Nat) (s_ : List Int) (v : Int) : Option (Int) :=
  Option.bind (loopO (fun s4 => slices_Index_Lint_int_b4 N s_ v s4) N 0) fun x4 =>
  exK x4 (fun s4 => some (-1)) some
theorem slices_Index_Lint_int_ok {N : Nat} {G : Pers} {Lf : List Ent} {w : World} (s_ : List Int) (v : Int) {s__p : Option Addr} {s__c : Nat} (h_s_ : Rd G 1 s__p s__c (s_.map encI_i64)) (hc : Ctx G (Lf) w) {res : Int} (hF : slices_Index_Lint_int N s_ v = some res) : Calls Try.prog 73 #[.slice s__p s_.length s__c, .int .i64 v] w (fun e w => e = .returned (.int .i64 res) ∧ Ctx G (Lf) w) := by
  unfold slices_Index_Lint_int at hF
  refine fnIn (args := [.slice s__p s_.length s__c, .int .i64 v]) Try.func73 rfl Try.ntmps73 rfl fun a hf => ?_
  refine wp_seq_k fun K1 h1 => ?_
  refine cReg ?_
  refine stP hf rfl rfl rfl (pA rfl) fun a hf => ?_
  refine cNil ?_
  refine h1 _ _ ?_
  refine wp_seq_k fun K2 h2 => ?_
  refine wp_seq_k fun K3 h3 => ?_
  refine cReg ?_
  refine stP hf rfl rfl rfl (pM rfl) fun a hf => ?_
  refine stP hf rfl rfl rfl (pLenS Try.underlying39 rfl) fun a hf => ?_
  refine stP hf rfl rfl rfl (pM rfl) fun a hf => ?_
  refine cNil ?_
  refine h3 _ _ ?_
  refine wp_block ?_
  obtain ⟨x4, hx4, hF⟩ := bnd_some hF
  let S4 : Int → Act → World → Prop := (fun (zz : Int) a w => Has 19 a [(0, .slice s__p s_.length s__c), (1, .int .i64 v), (7, .int .i64 ((s_.length : Nat) : Int)), (8, .int .i64 zz)] ∧ Ctx G (Lf) w)
  have hr4 : ∀ (zz : Int) a w, x4 = .go zz → S4 zz a w → K2 a w := by
    rintro x a w rfl ⟨hf, hc⟩
    replace hF := exK_go hF
    refine h2 _ _ ?_
    refine wp_seq_k fun K5 h5 => ?_
    refine cReg ?_
    refine stP hf rfl rfl rfl (pA rfl) fun a hf => ?_
    refine cNil ?_
    refine h5 _ _ ?_
    refine wp_ret ?_
    obtain rfl := Option.some.inj hF
    exact fnOut1 (by simp) rfl Try.results73 hf hc (show look _ 4 = _ from rfl) ⟨rfl, hc⟩
  have ho4 : ∀ r, x4 = .out r → r = res := by
    rintro r rfl
    exact Option.some.inj hF
  refine cLoop N (loopW (S := S4) (x := x4) ?_ N 0 _ _ ⟨hf.keep ⟨rfl, rfl, rfl, rfl, trivial⟩, hc⟩ hx4)
  clear hF hf hc
  rintro x st4 a w KB4 ⟨hf, hc⟩ hF hfin4 hK4
  unfold slices_Index_Lint_int_b4 at hF
  refine wp_seq_k fun K6 h6 => ?_
  refine cReg ?_
  refine stP hf rfl rfl rfl (pLt rfl rfl) fun a hf => ?_
  refine cNil ?_
  refine h6 _ _ ?_
  refine wp_seq_k fun K7 h7 => ?_
  refine cCond (b := (decide (x < ((s_.length : Nat) : Int)))) hf rfl (fun hb => ?_) (fun hb => ?_)
  · replace hF := condT hb hF
    clear hb
    refine wp_skip ?_
    refine h7 _ _ ?_
    refine wp_seq_k fun K8 h8 => ?_
    refine wp_block ?_
    refine wp_seq_k fun K9 h9 => ?_
    refine cReg ?_
    refine stP hf rfl rfl rfl (pM rfl) fun a hf => ?_
    refine stP hf rfl rfl rfl (pA rfl) fun a hf => ?_
    refine cNil ?_
    refine h9 _ _ ?_
    refine wp_seq_k fun K10 h10 => ?_
    refine cReg ?_
    refine stP hf rfl rfl rfl (pM rfl) fun a hf => ?_
    refine stP hf rfl rfl rfl (pM rfl) fun a hf => ?_
    refine stP hf rfl rfl rfl (pM rfl) fun a hf => ?_
    obtain ⟨e_1, he_1, hF⟩ := bnd_some hF
    obtain ⟨b_1, o, qa, qp⟩ := h_s_.atm he_1
    refine stP hf rfl rfl rfl (pIA Try.underlying39 sz_3 rfl rfl qa) fun a hf => ?_
    refine stE hf hc rfl rfl rfl (eLd1 sc_3 rfl (cell_pc (j := 0) qp rfl)) fun a w hf hc => ?_
    refine stP hf rfl rfl rfl (pEq rfl rfl) fun a hf => ?_
    refine cNil ?_
    refine h10 _ _ ?_
    refine cCond (b := (v == e_1)) hf rfl (fun hb => ?_) (fun hb => ?_)
    · replace hF := condT hb hF
      clear hb
      refine wp_seq_k fun K11 h11 => ?_
      refine cReg ?_
      refine stP hf rfl rfl rfl (pM rfl) fun a hf => ?_
      refine stP hf rfl rfl rfl (pA rfl) fun a hf => ?_
      refine cNil ?_
      refine h11 _ _ ?_
      refine wp_ret ?_
      refine xBlkR ?_
      refine xThenR ?_
      refine xThenR ?_
      have he := Option.some.inj hF
      rw [← he] at hfin4
      replace hF := ho4 _ hfin4
      refine xBlkR ?_
      refine xThenR ?_
      obtain rfl := hF
      exact fnOut1 (by simp) rfl Try.results73 hf hc (show look _ 4 = _ from rfl) ⟨rfl, hc⟩
    · replace hF := condF hb hF
      clear hb
      refine wp_skip ?_
      refine h8 _ _ ?_
      refine cReg ?_
      refine stP hf rfl rfl rfl (pAdd rfl rfl) fun a hf => ?_
      refine stP hf rfl rfl rfl (pM rfl) fun a hf => ?_
      refine cNil ?_
      exact hK4 (W (x + 1)) _ _ (Option.some.inj hF).symm ⟨hf.keep ⟨rfl, rfl, rfl, rfl, trivial⟩, hc⟩
  · replace hF := condF hb hF
    clear hb
    refine wp_exit ?_
    refine xThen ?_
    refine xThen ?_
    have he := Option.some.inj hF
    rw [← he] at hfin4
    refine cHit ?_
    exact hr4 _ _ _ hfin4 ⟨hf.keep ⟨rfl, rfl, rfl, rfl, trivial⟩, hc⟩

def slices_Contains_Lint_int (N : Nat) (s_ : List Int) (v : Int) : Option (Bool) :=
  Option.bind (slices_Index_Lint_int N s_ v) fun r =>
  some (decide (0 ≤ r))
theorem slices_Contains_Lint_int_ok {N : Nat} {G : Pers} {Lf : List Ent} {w : World} (s_ : List Int) (v : Int) {s__p : Option Addr} {s__c : Nat} (h_s_ : Rd G 1 s__p s__c (s_.map encI_i64)) (hc : Ctx G (Lf) w) {res : Bool} (hF : slices_Contains_Lint_int N s_ v = some res) : Calls Try.prog 32 #[.slice s__p s_.length s__c, .int .i64 v] w (fun e w => e = .returned (.bool res) ∧ Ctx G (Lf) w) := by
  unfold slices_Contains_Lint_int at hF
  refine fnIn (args := [.slice s__p s_.length s__c, .int .i64 v]) Try.func32 rfl Try.ntmps32 rfl fun a hf => ?_
  refine wp_seq_k fun K1 h1 => ?_
  refine cReg ?_
  refine stP hf rfl rfl rfl (pA rfl) fun a hf => ?_
  refine cNil ?_
  refine h1 _ _ ?_
  refine wp_seq_k fun K2 h2 => ?_
  refine cReg ?_
  refine stP hf rfl rfl rfl (pM rfl) fun a hf => ?_
  refine stP hf rfl rfl rfl (pM rfl) fun a hf => ?_
  obtain ⟨r, hr, hF⟩ := bnd_some hF
  refine stE hf hc rfl rfl rfl (eC (v := .int .i64 r) (vs := [.slice s__p s_.length s__c, .int .i64 v]) (caps := []) en_73 rfl rfl rfl rfl (fun w hc => slices_Index_Lint_int_ok s_ v h_s_ hc hr)) fun a w hf hc => ?_
  refine stP hf rfl rfl rfl (pGe rfl rfl) fun a hf => ?_
  refine stP hf rfl rfl rfl (pA rfl) fun a hf => ?_
  refine cNil ?_
  refine h2 _ _ ?_
  refine wp_ret ?_
  obtain rfl := Option.some.inj hF
  exact fnOut1 (by simp) rfl Try.results32 hf hc (show look _ 4 = _ from rfl) ⟨rfl, hc⟩

def daily_every_int_1 (x : Int) : Bool :=
  (!(daily_flow x))
theorem daily_every_int_1_ok {G : Pers} {Lf : List Ent} {w : World} (x : Int) {b_ : Nat}  (hc : Ctx G (.box b_ [.func (.func 74) #[] #[]] 138 :: Lf) w) {res : Bool} (hF : daily_every_int_1 x = res) : Calls Try.prog 103 #[.int .i64 x, .pointer (some ⟨b_, 0, none⟩)] w (fun e w => e = .returned (.bool res) ∧ Ctx G (.box b_ [.func (.func 74) #[] #[]] 138 :: Lf) w) := by
  unfold daily_every_int_1 at hF
  refine fnIn (args := [.int .i64 x, .pointer (some ⟨b_, 0, none⟩)]) Try.func103 rfl Try.ntmps103 rfl fun a hf => ?_
  refine wp_seq_k fun K1 h1 => ?_
  refine cReg ?_
  refine stP hf rfl rfl rfl (pA rfl) fun a hf => ?_
  refine cNil ?_
  refine h1 _ _ ?_
  refine wp_seq_k fun K2 h2 => ?_
  refine cReg ?_
  refine stE hf hc rfl rfl rfl (eLd1 sc_138 rfl (cell_box m0 rfl)) fun a w hf hc => ?_
  refine stP hf rfl rfl rfl (pM rfl) fun a hf => ?_
  refine stE hf hc rfl rfl rfl (eC (v := .bool (daily_flow x)) (vs := [.int .i64 x]) (caps := []) en_74 rfl rfl rfl rfl (fun w hc => daily_flow_ok x hc rfl)) fun a w hf hc => ?_
  refine stP hf rfl rfl rfl (pNot rfl) fun a hf => ?_
  refine stP hf rfl rfl rfl (pA rfl) fun a hf => ?_
  refine cNil ?_
  refine h2 _ _ ?_
  refine wp_ret ?_
  obtain rfl := hF
  exact fnOut1 (by simp) rfl Try.results103 hf hc (show look _ 3 = _ from rfl) ⟨rfl, hc⟩

def slices_IndexFunc_Lint_int_b4 (N : Nat) (s_ : List Int) (x : Int) : Option (Step (Int) (Int)) :=
  cond (decide (x < ((s_.length : Nat) : Int)))
  (Option.bind (getI s_ x) fun e_1 =>
  cond (daily_every_int_1 e_1)
  (some (.ret x))
  (some (.cont (W (x + 1)))))
  (some (.brk x))
def slices_IndexFunc_Lint_int (N : Nat) (s_ : List Int) : Option (Int) :=
  Option.bind (loopO (fun s4 => slices_IndexFunc_Lint_int_b4 N s_ s4) N 0) fun x4 =>
  exK x4 (fun s4 => some (-1)) some
theorem slices_IndexFunc_Lint_int_ok {N : Nat} {G : Pers} {Lf : List Ent} {w : World} (s_ : List Int) {s__p : Option Addr} {s__c : Nat} {b_ : Nat} (h_s_ : Rd G 1 s__p s__c (s_.map encI_i64)) (hc : Ctx G (.box b_ [.func (.func 74) #[] #[]] 138 :: Lf) w) {res : Int} (hF : slices_IndexFunc_Lint_int N s_ = some res) : Calls Try.prog 126 #[.slice s__p s_.length s__c, .func (.func 103) #[] #[.pointer (some ⟨b_, 0, none⟩)]] w (fun e w => e = .returned (.int .i64 res) ∧ Ctx G (.box b_ [.func (.func 74) #[] #[]] 138 :: Lf) w) := by
  unfold slices_IndexFunc_Lint_int at hF
  refine fnIn (args := [.slice s__p s_.length s__c, .func (.func 103) #[] #[.pointer (some ⟨b_, 0, none⟩)]]) Try.func126 rfl Try.ntmps126 rfl fun a hf => ?_
  refine wp_seq_k fun K1 h1 => ?_
  refine cReg ?_
  refine stP hf rfl rfl rfl (pA rfl) fun a hf => ?_
  refine cNil ?_
  refine h1 _ _ ?_
  refine wp_seq_k fun K2 h2 => ?_
  refine wp_seq_k fun K3 h3 => ?_
  refine cReg ?_
  refine stP hf rfl rfl rfl (pM rfl) fun a hf => ?_
  refine stP hf rfl rfl rfl (pLenS Try.underlying39 rfl) fun a hf => ?_
  refine stP hf rfl rfl rfl (pM rfl) fun a hf => ?_
  refine cNil ?_
  refine h3 _ _ ?_
  refine wp_block ?_
  obtain ⟨x4, hx4, hF⟩ := bnd_some hF
  let S4 : Int → Act → World → Prop := (fun (zz : Int) a w => Has 19 a [(0, .slice s__p s_.length s__c), (1, .func (.func 103) #[] #[.pointer (some ⟨b_, 0, none⟩)]), (7, .int .i64 ((s_.length : Nat) : Int)), (8, .int .i64 zz)] ∧ Ctx G (.box b_ [.func (.func 74) #[] #[]] 138 :: Lf) w)
  have hr4 : ∀ (zz : Int) a w, x4 = .go zz → S4 zz a w → K2 a w := by
    rintro x a w rfl ⟨hf, hc⟩
    replace hF := exK_go hF
    refine h2 _ _ ?_
    refine wp_seq_k fun K5 h5 => ?_
    refine cReg ?_
    refine stP hf rfl rfl rfl (pA rfl) fun a hf => ?_
    refine cNil ?_
    refine h5 _ _ ?_
    refine wp_ret ?_
    obtain rfl := Option.some.inj hF
    exact fnOut1 (by simp) rfl Try.results126 hf hc (show look _ 4 = _ from rfl) ⟨rfl, hc⟩
  have ho4 : ∀ r, x4 = .out r → r = res := by
    rintro r rfl
    exact Option.some.inj hF
  refine cLoop N (loopW (S := S4) (x := x4) ?_ N 0 _ _ ⟨hf.keep ⟨rfl, rfl, rfl, rfl, trivial⟩, hc⟩ hx4)
  clear hF hf hc
  rintro x st4 a w KB4 ⟨hf, hc⟩ hF hfin4 hK4
  unfold slices_IndexFunc_Lint_int_b4 at hF
  refine wp_seq_k fun K6 h6 => ?_
  refine cReg ?_
  refine stP hf rfl rfl rfl (pLt rfl rfl) fun a hf => ?_
  refine cNil ?_
  refine h6 _ _ ?_
  refine wp_seq_k fun K7 h7 => ?_
  refine cCond (b := (decide (x < ((s_.length : Nat) : Int)))) hf rfl (fun hb => ?_) (fun hb => ?_)
  · replace hF := condT hb hF
    clear hb
    refine wp_skip ?_
    refine h7 _ _ ?_
    refine wp_seq_k fun K8 h8 => ?_
    refine wp_block ?_
    refine wp_seq_k fun K9 h9 => ?_
    refine cReg ?_
    refine stP hf rfl rfl rfl (pM rfl) fun a hf => ?_
    refine stP hf rfl rfl rfl (pA rfl) fun a hf => ?_
    refine cNil ?_
    refine h9 _ _ ?_
    refine wp_seq_k fun K10 h10 => ?_
    refine cReg ?_
    refine stP hf rfl rfl rfl (pM rfl) fun a hf => ?_
    refine stP hf rfl rfl rfl (pM rfl) fun a hf => ?_
    refine stP hf rfl rfl rfl (pM rfl) fun a hf => ?_
    obtain ⟨e_1, he_1, hF⟩ := bnd_some hF
    obtain ⟨b_1, o, qa, qp⟩ := h_s_.atm he_1
    refine stP hf rfl rfl rfl (pIA Try.underlying39 sz_3 rfl rfl qa) fun a hf => ?_
    refine stE hf hc rfl rfl rfl (eLd1 sc_3 rfl (cell_pc (j := 0) qp rfl)) fun a w hf hc => ?_
    refine stE hf hc rfl rfl rfl (eC (v := .bool (daily_every_int_1 e_1)) (vs := [.int .i64 e_1]) (caps := [.pointer (some ⟨b_, 0, none⟩)]) en_103 rfl rfl rfl rfl (fun w hc => (daily_every_int_1_ok e_1 (hc.pick k0) rfl).mono fun e w h => ⟨h.1, (h.2.unpick k0)⟩)) fun a w hf hc => ?_
    refine cNil ?_
    refine h10 _ _ ?_
    refine cCond (b := (daily_every_int_1 e_1)) hf rfl (fun hb => ?_) (fun hb => ?_)
    · replace hF := condT hb hF
      clear hb
      refine wp_seq_k fun K11 h11 => ?_
      refine cReg ?_
      refine stP hf rfl rfl rfl (pM rfl) fun a hf => ?_
      refine stP hf rfl rfl rfl (pA rfl) fun a hf => ?_
      refine cNil ?_
      refine h11 _ _ ?_
      refine wp_ret ?_
      refine xBlkR ?_
      refine xThenR ?_
      refine xThenR ?_
      have he := Option.some.inj hF
      rw [← he] at hfin4
      replace hF := ho4 _ hfin4
      refine xBlkR ?_
      refine xThenR ?_
      obtain rfl := hF
      exact fnOut1 (by simp) rfl Try.results126 hf hc (show look _ 4 = _ from rfl) ⟨rfl, hc⟩
    · replace hF := condF hb hF
      clear hb
      refine wp_skip ?_
      refine h8 _ _ ?_
      refine cReg ?_
      refine stP hf rfl rfl rfl (pAdd rfl rfl) fun a hf => ?_
      refine stP hf rfl rfl rfl (pM rfl) fun a hf => ?_
      refine cNil ?_
      exact hK4 (W (x + 1)) _ _ (Option.some.inj hF).symm ⟨hf.keep ⟨rfl, rfl, rfl, rfl, trivial⟩, hc⟩
  · replace hF := condF hb hF
    clear hb
    refine wp_exit ?_
    refine xThen ?_
    refine xThen ?_
    have he := Option.some.inj hF
    rw [← he] at hfin4
    refine cHit ?_
    exact hr4 _ _ _ hfin4 ⟨hf.keep ⟨rfl, rfl, rfl, rfl, trivial⟩, hc⟩

def slices_ContainsFunc_Lint_int (N : Nat) (s_ : List Int) : Option (Bool) :=
  Option.bind (slices_IndexFunc_Lint_int N s_) fun r =>
  some (decide (0 ≤ r))
theorem slices_ContainsFunc_Lint_int_ok {N : Nat} {G : Pers} {Lf : List Ent} {w : World} (s_ : List Int) {s__p : Option Addr} {s__c : Nat} {b_ : Nat} (h_s_ : Rd G 1 s__p s__c (s_.map encI_i64)) (hc : Ctx G (.box b_ [.func (.func 74) #[] #[]] 138 :: Lf) w) {res : Bool} (hF : slices_ContainsFunc_Lint_int N s_ = some res) : Calls Try.prog 102 #[.slice s__p s_.length s__c, .func (.func 103) #[] #[.pointer (some ⟨b_, 0, none⟩)]] w (fun e w => e = .returned (.bool res) ∧ Ctx G (.box b_ [.func (.func 74) #[] #[]] 138 :: Lf) w) := by
  unfold slices_ContainsFunc_Lint_int at hF
  refine fnIn (args := [.slice s__p s_.length s__c, .func (.func 103) #[] #[.pointer (some ⟨b_, 0, none⟩)]]) Try.func102 rfl Try.ntmps102 rfl fun a hf => ?_
  refine wp_seq_k fun K1 h1 => ?_
  refine cReg ?_
  refine stP hf rfl rfl rfl (pA rfl) fun a hf => ?_
  refine cNil ?_
  refine h1 _ _ ?_
  refine wp_seq_k fun K2 h2 => ?_
  refine cReg ?_
  refine stP hf rfl rfl rfl (pM rfl) fun a hf => ?_
  refine stP hf rfl rfl rfl (pM rfl) fun a hf => ?_
  obtain ⟨r, hr, hF⟩ := bnd_some hF
  refine stE hf hc rfl rfl rfl (eC (v := .int .i64 r) (vs := [.slice s__p s_.length s__c, .func (.func 103) #[] #[.pointer (some ⟨b_, 0, none⟩)]]) (caps := []) en_126 rfl rfl rfl rfl (fun w hc => (slices_IndexFunc_Lint_int_ok s_ h_s_ (hc.pick k0) hr).mono fun e w h => ⟨h.1, (h.2.unpick k0)⟩)) fun a w hf hc => ?_
  refine stP hf rfl rfl rfl (pGe rfl rfl) fun a hf => ?_
  refine stP hf rfl rfl rfl (pA rfl) fun a hf => ?_
  refine cNil ?_
  refine h2 _ _ ?_
  refine wp_ret ?_
  obtain rfl := Option.some.inj hF
  exact fnOut1 (by simp) rfl Try.results102 hf hc (show look _ 4 = _ from rfl) ⟨rfl, hc⟩

def daily_every_int (N : Nat) (l : List Int) : Option (Bool) :=
  Option.bind (slices_ContainsFunc_Lint_int N l) fun r =>
  some (!r)
theorem daily_every_int_ok {N : Nat} {G : Pers} {Lf : List Ent} {w : World} (l : List Int) {l_p : Option Addr} {l_c : Nat} (h_l : Rd G 1 l_p l_c (l.map encI_i64)) (hc : Ctx G (Lf) w) {res : Bool} (hF : daily_every_int N l = some res) : Calls Try.prog 77 #[.slice l_p l.length l_c, .func (.func 74) #[] #[]] w (fun e w => e = .returned (.bool res) ∧ Ctx G (Lf) w) := by
  unfold daily_every_int at hF
  refine fnIn (args := [.slice l_p l.length l_c, .func (.func 74) #[] #[]]) Try.func77 rfl Try.ntmps77 rfl fun a hf => ?_
  refine wp_seq_k fun K1 h1 => ?_
  refine cReg ?_
  refine stBx (cs := [.func (.func 74) #[] #[]]) hf hc rfl rfl rfl rfl fun b_1 a w hf hc => ?_
  refine stP hf rfl rfl rfl (pA rfl) fun a hf => ?_
  refine cNil ?_
  refine h1 _ _ ?_
  refine wp_seq_k fun K2 h2 => ?_
  refine cReg ?_
  refine stP hf rfl rfl rfl (pM rfl) fun a hf => ?_
  refine stP hf rfl rfl rfl (pMF (us := [.pointer (some ⟨b_1, 0, none⟩)]) rfl rfl) fun a hf => ?_
  obtain ⟨r, hr, hF⟩ := bnd_some hF
  refine stE hf hc rfl rfl rfl (eC (v := .bool r) (vs := [.slice l_p l.length l_c, .func (.func 103) #[] #[.pointer (some ⟨b_1, 0, none⟩)]]) (caps := []) en_102 rfl rfl rfl rfl (fun w hc => (slices_ContainsFunc_Lint_int_ok l h_l (hc.pick k0) hr).mono fun e w h => ⟨h.1, (h.2.unpick k0)⟩)) fun a w hf hc => ?_
  refine stP hf rfl rfl rfl (pNot rfl) fun a hf => ?_
  refine stP hf rfl rfl rfl (pA rfl) fun a hf => ?_
  refine cNil ?_
  refine h2 _ _ ?_
  refine wp_ret ?_
  obtain rfl := Option.some.inj hF
  replace hc := hc.drop k0
  exact fnOut1 (by simp) rfl Try.results77 hf hc (show look _ 4 = _ from rfl) ⟨rfl, hc⟩

def daily_Holds_j19 (N : Nat) (l : List Int) (x : Int) (x_1 : Int) (x_2 : Int) : Option (Step (Int) (Int × Int)) :=
  Option.bind (getI l x) fun e_2 =>
  cond (!(daily_in e_2 x_1 x_2))
  (some (.ret (x, 0)))
  (some (.cont (W (x + 1))))
def daily_Holds_b12 (N : Nat) (r : daily_Record) (l : List Int) (x : Int) : Option (Step (Int) (Int × Int)) :=
  cond (decide (x < ((r.Days.length : Nat) : Int)))
  (Option.bind (getI r.Days x) fun e_1 =>
  Option.bind (daily_Value_span N e_1) fun r_2 =>
  cond (decide (0 < x))
  (Option.bind (getI l (W (x - 1))) fun e_3 =>
  Option.bind (getI l (W (x - 1))) fun e_4 =>
  daily_Holds_j19 N l x (max r_2.Lo (W (e_3 - r.Fall))) (min r_2.Hi (W (e_4 + r.Rise))))
  (daily_Holds_j19 N l x r_2.Lo r_2.Hi))
  (some (.brk x))
def daily_Holds (N : Nat) (r : daily_Record) (l : List Int) : Option (Int × Int) :=
  Option.bind (daily_Check N r) fun r_0 =>
  cond (r_0 != 0)
  (some (0, r_0))
  (cond (((l.length : Nat) : Int) != ((r.Days.length : Nat) : Int))
  (some (0, 2))
  (Option.bind (daily_every_int N l) fun r_1 =>
  cond (!r_1)
  (some (0, 4))
  (Option.bind (loopO (fun s12 => daily_Holds_b12 N r l s12) N 0) fun x12 =>
  exK x12 (fun s12 => some ((-1), 0)) some)))
theorem daily_Holds_ok {N : Nat} {G : Pers} {Lf : List Ent} {w : World} (r : daily_Record) (l : List Int) {r_Days_p : Option Addr} {r_Days_c : Nat} {l_p : Option Addr} {l_c : Nat} (h_r_Days : Rd G 3 r_Days_p r_Days_c (r.Days.map enc_daily_Value)) (h_l : Rd G 1 l_p l_c (l.map encI_i64)) (hc : Ctx G (Lf) w) {res : Int × Int} (hF : daily_Holds N r l = some res) : Calls Try.prog 36 #[.agg #[.int .i64 r.Rise, .int .i64 r.Fall, .slice r_Days_p r.Days.length r_Days_c], .slice l_p l.length l_c] w (fun e w => e = .returned (.tuple #[.int .i64 res.1, .int .i64 res.2]) ∧ Ctx G (Lf) w) := by
  unfold daily_Holds at hF
  refine fnIn (args := [.agg #[.int .i64 r.Rise, .int .i64 r.Fall, .slice r_Days_p r.Days.length r_Days_c], .slice l_p l.length l_c]) Try.func36 rfl Try.ntmps36 rfl fun a hf => ?_
  refine wp_seq_k fun K1 h1 => ?_
  refine cReg ?_
  refine stBx (cs := [.int .i64 r.Rise, .int .i64 r.Fall, .slice r_Days_p r.Days.length r_Days_c]) hf hc rfl rfl rfl rfl fun b_1 a w hf hc => ?_
  refine stP hf rfl rfl rfl (pA rfl) fun a hf => ?_
  refine stP hf rfl rfl rfl (pA rfl) fun a hf => ?_
  refine cNil ?_
  refine h1 _ _ ?_
  refine wp_seq_k fun K2 h2 => ?_
  refine cReg ?_
  refine stE hf hc rfl rfl rfl (eLdN (vs := [.int .i64 r.Rise, .int .i64 r.Fall, .slice r_Days_p r.Days.length r_Days_c]) ag_24 rfl rfl (cells_box (n := 3) m0 rfl)) fun a w hf hc => ?_
  obtain ⟨r_0, hr_0, hF⟩ := bnd_some hF
  refine stE hf hc rfl rfl rfl (eC (v := .int .i64 r_0) (vs := [.agg #[.int .i64 r.Rise, .int .i64 r.Fall, .slice r_Days_p r.Days.length r_Days_c]]) (caps := []) en_34 rfl rfl rfl rfl (fun w hc => daily_Check_ok r h_r_Days hc hr_0)) fun a w hf hc => ?_
  refine stP hf rfl rfl rfl (pA rfl) fun a hf => ?_
  refine cNil ?_
  refine h2 _ _ ?_
  refine wp_seq_k fun K3 h3 => ?_
  refine wp_block ?_
  refine wp_seq_k fun K4 h4 => ?_
  refine cReg ?_
  refine stP hf rfl rfl rfl (pM rfl) fun a hf => ?_
  refine stP hf rfl rfl rfl (pNe rfl rfl) fun a hf => ?_
  refine stP hf rfl rfl rfl (pA rfl) fun a hf => ?_
  refine cNil ?_
  refine h4 _ _ ?_
  refine cCond (b := (r_0 != 0)) hf rfl (fun hb => ?_) (fun hb => ?_)
  · replace hF := condT hb hF
    clear hb
    refine wp_seq_k fun K5 h5 => ?_
    refine cReg ?_
    refine stP hf rfl rfl rfl (pM rfl) fun a hf => ?_
    refine stP hf rfl rfl rfl (pA rfl) fun a hf => ?_
    refine stP hf rfl rfl rfl (pA rfl) fun a hf => ?_
    refine cNil ?_
    refine h5 _ _ ?_
    refine wp_ret ?_
    refine xBlkR ?_
    refine xThenR ?_
    obtain rfl := Option.some.inj hF
    replace hc := hc.drop k0
    exact fnOut2 (by simp) rfl Try.results36 hf hc (show look _ 4 = _ from rfl) (show look _ 5 = _ from rfl) ⟨rfl, hc⟩
  · replace hF := condF hb hF
    clear hb
    refine wp_seq_k fun K6 h6 => ?_
    refine cReg ?_
    refine stP hf rfl rfl rfl (pM rfl) fun a hf => ?_
    refine stP hf rfl rfl rfl (pLenS Try.underlying39 rfl) fun a hf => ?_
    refine stP hf rfl rfl rfl (pFA fa_24_2 rfl) fun a hf => ?_
    refine stE hf hc rfl rfl rfl (eLd1 sc_22 rfl (cell_box m0 rfl)) fun a w hf hc => ?_
    refine stP hf rfl rfl rfl (pLenS Try.underlying22 rfl) fun a hf => ?_
    refine stP hf rfl rfl rfl (pNe rfl rfl) fun a hf => ?_
    refine stP hf rfl rfl rfl (pA rfl) fun a hf => ?_
    refine cNil ?_
    refine h6 _ _ ?_
    refine cCond (b := (((l.length : Nat) : Int) != ((r.Days.length : Nat) : Int))) hf rfl (fun hb => ?_) (fun hb => ?_)
    · replace hF := condT hb hF
      clear hb
      refine wp_seq_k fun K7 h7 => ?_
      refine cReg ?_
      refine stP hf rfl rfl rfl (pA rfl) fun a hf => ?_
      refine stP hf rfl rfl rfl (pA rfl) fun a hf => ?_
      refine cNil ?_
      refine h7 _ _ ?_
      refine wp_ret ?_
      refine xBlkR ?_
      refine xThenR ?_
      obtain rfl := Option.some.inj hF
      replace hc := hc.drop k0
      exact fnOut2 (by simp) rfl Try.results36 hf hc (show look _ 4 = _ from rfl) (show look _ 5 = _ from rfl) ⟨rfl, hc⟩
    · replace hF := condF hb hF
      clear hb
      refine wp_seq_k fun K8 h8 => ?_
      refine cReg ?_
      refine stP hf rfl rfl rfl (pM rfl) fun a hf => ?_
      obtain ⟨r_1, hr_1, hF⟩ := bnd_some hF
      refine stE hf hc rfl rfl rfl (eC (v := .bool r_1) (vs := [.slice l_p l.length l_c, .func (.func 74) #[] #[]]) (caps := []) en_77 rfl rfl rfl rfl (fun w hc => daily_every_int_ok l h_l hc hr_1)) fun a w hf hc => ?_
      refine stP hf rfl rfl rfl (pNot rfl) fun a hf => ?_
      refine stP hf rfl rfl rfl (pA rfl) fun a hf => ?_
      refine cNil ?_
      refine h8 _ _ ?_
      refine cCond (b := (!r_1)) hf rfl (fun hb => ?_) (fun hb => ?_)
      · replace hF := condT hb hF
        clear hb
        refine wp_seq_k fun K9 h9 => ?_
        refine cReg ?_
        refine stP hf rfl rfl rfl (pA rfl) fun a hf => ?_
        refine stP hf rfl rfl rfl (pA rfl) fun a hf => ?_
        refine cNil ?_
        refine h9 _ _ ?_
        refine wp_ret ?_
        refine xBlkR ?_
        refine xThenR ?_
        obtain rfl := Option.some.inj hF
        replace hc := hc.drop k0
        exact fnOut2 (by simp) rfl Try.results36 hf hc (show look _ 4 = _ from rfl) (show look _ 5 = _ from rfl) ⟨rfl, hc⟩
      · replace hF := condF hb hF
        clear hb
        refine wp_skip ?_
        refine h3 _ _ ?_
        refine wp_seq_k fun K10 h10 => ?_
        refine wp_seq_k fun K11 h11 => ?_
        refine cReg ?_
        refine stP hf rfl rfl rfl (pFA fa_24_2 rfl) fun a hf => ?_
        refine stE hf hc rfl rfl rfl (eLd1 sc_22 rfl (cell_box m0 rfl)) fun a w hf hc => ?_
        refine stP hf rfl rfl rfl (pLenS Try.underlying22 rfl) fun a hf => ?_
        refine stP hf rfl rfl rfl (pM rfl) fun a hf => ?_
        refine cNil ?_
        refine h11 _ _ ?_
        refine wp_block ?_
        obtain ⟨x12, hx12, hF⟩ := bnd_some hF
        let S12 : Int → Act → World → Prop := (fun (zz : Int) a w => Has 74 a [(1, .slice l_p l.length l_c), (2, .pointer (some ⟨b_1, 0, none⟩)), (28, .slice r_Days_p r.Days.length r_Days_c), (29, .int .i64 ((r.Days.length : Nat) : Int)), (30, .int .i64 zz)] ∧ Ctx G (.box b_1 [.int .i64 r.Rise, .int .i64 r.Fall, .slice r_Days_p r.Days.length r_Days_c] 24 :: Lf) w)
        have hr12 : ∀ (zz : Int) a w, x12 = .go zz → S12 zz a w → K10 a w := by
          rintro x a w rfl ⟨hf, hc⟩
          replace hF := exK_go hF
          refine h10 _ _ ?_
          refine wp_seq_k fun K13 h13 => ?_
          refine cReg ?_
          refine stP hf rfl rfl rfl (pA rfl) fun a hf => ?_
          refine stP hf rfl rfl rfl (pA rfl) fun a hf => ?_
          refine cNil ?_
          refine h13 _ _ ?_
          refine wp_ret ?_
          obtain rfl := Option.some.inj hF
          replace hc := hc.drop k0
          exact fnOut2 (by simp) rfl Try.results36 hf hc (show look _ 4 = _ from rfl) (show look _ 5 = _ from rfl) ⟨rfl, hc⟩
        have ho12 : ∀ r, x12 = .out r → r = res := by
          rintro r rfl
          exact Option.some.inj hF
        refine cLoop N (loopW (S := S12) (x := x12) ?_ N 0 _ _ ⟨hf.keep ⟨rfl, rfl, rfl, rfl, rfl, trivial⟩, hc⟩ hx12)
        clear hF hf hc
        rintro x st12 a w KB12 ⟨hf, hc⟩ hF hfin12 hK12
        unfold daily_Holds_b12 at hF
        refine wp_seq_k fun K14 h14 => ?_
        refine cReg ?_
        refine stP hf rfl rfl rfl (pLt rfl rfl) fun a hf => ?_
        refine cNil ?_
        refine h14 _ _ ?_
        refine wp_seq_k fun K15 h15 => ?_
        refine cCond (b := (decide (x < ((r.Days.length : Nat) : Int)))) hf rfl (fun hb => ?_) (fun hb => ?_)
        · replace hF := condT hb hF
          clear hb
          refine wp_skip ?_
          refine h15 _ _ ?_
          refine wp_seq_k fun K16 h16 => ?_
          refine wp_block ?_
          refine wp_seq_k fun K17 h17 => ?_
          refine cReg ?_
          refine stP hf rfl rfl rfl (pM rfl) fun a hf => ?_
          obtain ⟨e_1, he_1, hF⟩ := bnd_some hF
          obtain ⟨b_2, o, qa, qp⟩ := h_r_Days.atm he_1
          refine stP hf rfl rfl rfl (pIA Try.underlying22 sz_56 rfl rfl qa) fun a hf => ?_
          refine stE hf hc rfl rfl rfl (eLdN (vs := [.bool e_1.Known, .int .i64 e_1.Flow.Lo, .int .i64 e_1.Flow.Hi]) ag_56 rfl rfl (cells_pc qp (n := 3) (o' := 0) rfl)) fun a w hf hc => ?_
          refine stAl (cs := [.bool false, .int .i64 0, .int .i64 0]) hf hc rfl rfl zr_56 rfl fun b_3 a w hf hc => ?_
          refine stP hf rfl rfl rfl (pA rfl) fun a hf => ?_
          refine stSt (vs := [.bool e_1.Known, .int .i64 e_1.Flow.Lo, .int .i64 e_1.Flow.Hi]) hf hc rfl rfl rfl rfl sz_56 rfl rfl u0 fun w hc => ?_
          refine cNil ?_
          refine h17 _ _ ?_
          refine wp_seq_k fun K18 h18 => ?_
          refine cReg ?_
          refine stE hf hc rfl rfl rfl (eLdN (vs := [.bool e_1.Known, .int .i64 e_1.Flow.Lo, .int .i64 e_1.Flow.Hi]) ag_56 rfl rfl (cells_box (n := 3) m0 rfl)) fun a w hf hc => ?_
          obtain ⟨r_2, hr_2, hF⟩ := bnd_some hF
          refine stE hf hc rfl rfl rfl (eC (v := .agg #[.int .i64 r_2.Lo, .int .i64 r_2.Hi]) (vs := [.agg #[.bool e_1.Known, .int .i64 e_1.Flow.Lo, .int .i64 e_1.Flow.Hi]]) (caps := []) en_72 rfl rfl rfl rfl (fun w hc => daily_Value_span_ok e_1 hc hr_2)) fun a w hf hc => ?_
          refine stAl (cs := [.int .i64 0, .int .i64 0]) hf hc rfl rfl zr_30 rfl fun b_4 a w hf hc => ?_
          refine stSt (vs := [.int .i64 r_2.Lo, .int .i64 r_2.Hi]) hf hc rfl rfl rfl rfl sz_30 rfl rfl u0 fun w hc => ?_
          refine cNil ?_
          refine h18 _ _ ?_
          refine wp_seq_k fun K19 h19 => ?_
          have hj19 : ∀ (x_1 : Int) (x_2 : Int) a w, Has 74 a [(1, .slice l_p l.length l_c), (2, .pointer (some ⟨b_1, 0, none⟩)), (7, .int .i64 x), (9, .pointer (some ⟨b_4, 0, none⟩)), (28, .slice r_Days_p r.Days.length r_Days_c), (29, .int .i64 ((r.Days.length : Nat) : Int)), (30, .int .i64 x)] → Ctx G (.box b_4 [.int .i64 x_1, .int .i64 x_2] 30 :: .box b_1 [.int .i64 r.Rise, .int .i64 r.Fall, .slice r_Days_p r.Days.length r_Days_c] 24 :: Lf) w → daily_Holds_j19 N l x x_1 x_2 = some st12 → K19 a w := by
            repeat (clear hF)
            repeat (clear hc)
            repeat (clear hf)
            intro x_1 x_2 a w hf hc hF
            unfold daily_Holds_j19 at hF
            refine h19 _ _ ?_
            refine wp_seq_k fun K20 h20 => ?_
            obtain ⟨e_2, he_2, hF⟩ := bnd_some hF
            obtain ⟨b_5, o_1, qa_1, qp_1⟩ := h_l.atm he_2
            refine cQ hc follows_mx (by kernel_rfl) ?_
            refine qE hf rfl rfl rfl (Pu.ev (pM rfl)) fun a hf => ?_
            refine qE hf rfl rfl rfl (Pu.ev (pM rfl)) fun a hf => ?_
            refine qE hf rfl rfl rfl (Pu.ev (pIA Try.underlying39 sz_3 rfl rfl qa_1)) fun a hf => ?_
            refine qE hf rfl rfl rfl (eLd1 sc_3 rfl (cell_pc (j := 0) qp_1 rfl)) fun a hf => ?_
            refine qE hf rfl rfl rfl (Pu.ev (pFA fa_30_0 rfl)) fun a hf => ?_
            refine qE hf rfl rfl rfl (eLd1 sc_3 rfl (cell_box m0 rfl)) fun a hf => ?_
            refine qE hf rfl rfl rfl (Pu.ev (pFA fa_30_1 rfl)) fun a hf => ?_
            refine qE hf rfl rfl rfl (eLd1 sc_3 rfl (cell_box m0 rfl)) fun a hf => ?_
            refine qE hf rfl rfl rfl (eC (v := .bool (daily_in e_2 x_1 x_2)) (vs := [.int .i64 e_2, .int .i64 x_1, .int .i64 x_2]) (caps := []) en_60 rfl rfl rfl rfl (fun w hc => daily_in_ok e_2 x_1 x_2 hc rfl)) fun a hf => ?_
            refine qE hf rfl rfl rfl (Pu.ev (pNot rfl)) fun a hf => ?_
            intro w hc
            refine h20 _ _ ?_
            refine cCond (b := (!(daily_in e_2 x_1 x_2))) hf rfl (fun hb => ?_) (fun hb => ?_)
            · replace hF := condT hb hF
              clear hb
              refine wp_seq_k fun K21 h21 => ?_
              refine cReg ?_
              refine stP hf rfl rfl rfl (pM rfl) fun a hf => ?_
              refine stP hf rfl rfl rfl (pA rfl) fun a hf => ?_
              refine stP hf rfl rfl rfl (pA rfl) fun a hf => ?_
              refine cNil ?_
              refine h21 _ _ ?_
              refine wp_ret ?_
              refine xBlkR ?_
              refine xThenR ?_
              refine xThenR ?_
              have he := Option.some.inj hF
              rw [← he] at hfin12
              replace hF := ho12 _ hfin12
              refine xBlkR ?_
              refine xThenR ?_
              obtain rfl := hF
              replace hc := hc.drop k1
              replace hc := hc.drop k0
              exact fnOut2 (by simp) rfl Try.results36 hf hc (show look _ 4 = _ from rfl) (show look _ 5 = _ from rfl) ⟨rfl, hc⟩
            · replace hF := condF hb hF
              clear hb
              refine wp_skip ?_
              refine h16 _ _ ?_
              refine cReg ?_
              refine stP hf rfl rfl rfl (pAdd rfl rfl) fun a hf => ?_
              refine stP hf rfl rfl rfl (pM rfl) fun a hf => ?_
              refine cNil ?_
              replace hc := hc.drop k0
              exact hK12 (W (x + 1)) _ _ (Option.some.inj hF).symm ⟨hf.keep ⟨rfl, rfl, rfl, rfl, rfl, trivial⟩, hc⟩
          refine wp_seq_k fun K22 h22 => ?_
          refine cReg ?_
          refine stP hf rfl rfl rfl (pM rfl) fun a hf => ?_
          refine stP hf rfl rfl rfl (pGt rfl rfl) fun a hf => ?_
          refine cNil ?_
          refine h22 _ _ ?_
          refine cCond (b := (decide (0 < x))) hf rfl (fun hb => ?_) (fun hb => ?_)
          · replace hF := condT hb hF
            clear hb
            obtain ⟨e_3, he_3, hF⟩ := bnd_some hF
            obtain ⟨b_6, o_2, qa_2, qp_2⟩ := h_l.atm he_3
            obtain ⟨e_4, he_4, hF⟩ := bnd_some hF
            obtain ⟨b_7, o_3, qa_3, qp_3⟩ := h_l.atm he_4
            refine regionE (fun θ => (⟨none, none, 1, .slice l_p l.length l_c⟩ :: ⟨none, none, 2, .pointer (some ⟨b_1, 0, none⟩)⟩ :: ⟨none, none, 7, .int .i64 x⟩ :: ⟨none, none, 9, .pointer (some ⟨b_4, 0, none⟩)⟩ :: ⟨none, none, 28, .slice r_Days_p r.Days.length r_Days_c⟩ :: ⟨none, none, 29, .int .i64 ((r.Days.length : Nat) : Int)⟩ :: ⟨none, none, 30, .int .i64 x⟩ :: ⟨some 0, none, 39, .pointer (some ⟨b_4, 0, none⟩)⟩ :: ⟨some 1, none, 40, .int .i64 r_2.Lo⟩ :: ⟨some 2, none, 41, .slice l_p l.length l_c⟩ :: ⟨some 3, none, 42, .int .i64 x⟩ :: ⟨some 4, none, 43, .int .i64 (W (x - 1))⟩ :: ⟨some 5, none, 44, .pointer (some ⟨b_6, o_2, none⟩)⟩ :: ⟨some 6, none, 45, .int .i64 e_3⟩ :: ⟨some 7, none, 46, .pointer (some ⟨b_1, 1, none⟩)⟩ :: ⟨some 8, none, 47, .int .i64 r.Fall⟩ :: ⟨some 9, none, 48, .int .i64 (W (e_3 - r.Fall))⟩ :: ⟨some 10, none, 49, .int .i64 (max r_2.Lo (W (e_3 - r.Fall)))⟩ :: ⟨some 11, none, 50, .pointer (some ⟨b_4, 1, none⟩)⟩ :: ⟨some 12, none, 51, .int .i64 r_2.Hi⟩ :: ⟨some 13, none, 52, .slice l_p l.length l_c⟩ :: ⟨some 14, none, 53, .int .i64 x⟩ :: ⟨some 15, none, 54, .int .i64 (W (x - 1))⟩ :: ⟨some 16, none, 55, .pointer (some ⟨b_7, o_3, none⟩)⟩ :: ⟨some 17, none, 56, .int .i64 e_4⟩ :: ⟨some 18, none, 57, .pointer (some ⟨b_1, 0, none⟩)⟩ :: ⟨some 19, none, 58, .int .i64 r.Rise⟩ :: ⟨some 20, none, 59, .int .i64 (W (e_4 + r.Rise))⟩ :: ⟨some 21, none, 60, .int .i64 (min r_2.Hi (W (e_4 + r.Rise)))⟩ :: ⟨some 22, none, 61, .agg #[.int .i64 (max r_2.Lo (W (e_3 - r.Fall))), .int .i64 (min r_2.Hi (W (e_4 + r.Rise)))]⟩ :: [])) (fun E θ => (bif E 23 then .box b_4 [.int .i64 (max r_2.Lo (W (e_3 - r.Fall))), .int .i64 (min r_2.Hi (W (e_4 + r.Rise)))] 30 else .box b_4 [.int .i64 r_2.Lo, .int .i64 r_2.Hi] 30) :: .box b_3 [.bool e_1.Known, .int .i64 e_1.Flow.Lo, .int .i64 e_1.Flow.Hi] 56 :: .box b_1 [.int .i64 r.Rise, .int .i64 r.Fall, .slice r_Days_p r.Days.length r_Days_c] 24 :: Lf) [(23, 1), (23, 12)] (fun a w => Has 74 a [(1, .slice l_p l.length l_c), (2, .pointer (some ⟨b_1, 0, none⟩)), (7, .int .i64 x), (9, .pointer (some ⟨b_4, 0, none⟩)), (28, .slice r_Days_p r.Days.length r_Days_c), (29, .int .i64 ((r.Days.length : Nat) : Int)), (30, .int .i64 x)] ∧ Ctx G (.box b_4 [.int .i64 (max r_2.Lo (W (e_3 - r.Fall))), .int .i64 (min r_2.Hi (W (e_4 + r.Rise)))] 30 :: .box b_3 [.bool e_1.Known, .int .i64 e_1.Flow.Lo, .int .i64 e_1.Flow.Hi] 56 :: .box b_1 [.int .i64 r.Rise, .int .i64 r.Fall, .slice r_Days_p r.Days.length r_Days_c] 24 :: Lf) w) follows_mx (by kernel_rfl) (by kernel_rfl) (HasE.of hf ⟨rfl, rfl, rfl, rfl, rfl, rfl, rfl, trivial, trivial, trivial, trivial, trivial, trivial, trivial, trivial, trivial, trivial, trivial, trivial, trivial, trivial, trivial, trivial, trivial, trivial, trivial, trivial, trivial, trivial, trivial, trivial⟩) hc ⟨?_, ?_, ?_, ?_, ?_, ?_, ?_, ?_, ?_, ?_, ?_, ?_, ?_, ?_, ?_, ?_, ?_, ?_, ?_, ?_, ?_, ?_, ?_, ?_, trivial⟩ ?_ ?_
            · intro E θ a w hD hi hp he hc
              have hf := he.h0
              replace hf := hf.more he 3 rfl onT
              refine stP hf rfl rfl rfl (pFA fa_30_0 rfl) fun a hf => ?_
              refine cNil ?_
              refine xThenN ?_
              intro ds u hau
              refine ⟨θ, he.put0 hi hau hf rfl 7 rfl rfl, ?_⟩
              exact hc
            · intro E θ a w hD hi hp he hc
              have e0 := hp.of (k := 0) rfl
              have e23 := hD.f 0 rfl hi
              try dsimp only at hc
              rw [e23] at hc
              have hf := he.h0
              replace hf := hf.more he 7 rfl (onP e0)
              refine stE hf hc rfl rfl rfl (eLd1 sc_3 rfl (cell_box m0 rfl)) fun a w hf hc => ?_
              refine cNil ?_
              refine xThenN ?_
              intro ds u hau
              refine ⟨θ, he.put0 hi hau hf rfl 8 rfl rfl, ?_⟩
              try dsimp only
              rw [updE_fls 1 e23 rfl]
              exact hc
            · intro E θ a w hD hi hp he hc
              have hf := he.h0
              replace hf := hf.more he 0 rfl onT
              refine stP hf rfl rfl rfl (pM rfl) fun a hf => ?_
              refine cNil ?_
              refine xThenN ?_
              intro ds u hau
              refine ⟨θ, he.put0 hi hau hf rfl 9 rfl rfl, ?_⟩
              exact hc
            · intro E θ a w hD hi hp he hc
              have hf := he.h0
              replace hf := hf.more he 2 rfl onT
              refine stP hf rfl rfl rfl (pM rfl) fun a hf => ?_
              refine cNil ?_
              refine xThenN ?_
              intro ds u hau
              refine ⟨θ, he.put0 hi hau hf rfl 10 rfl rfl, ?_⟩
              exact hc
            · intro E θ a w hD hi hp he hc
              have e3 := hp.of (k := 3) rfl
              have hf := he.h0
              replace hf := hf.more he 10 rfl (onP e3)
              refine stP hf rfl rfl rfl (pSub rfl rfl) fun a hf => ?_
              refine cNil ?_
              refine xThenN ?_
              intro ds u hau
              refine ⟨θ, he.put0 hi hau hf rfl 11 rfl rfl, ?_⟩
              exact hc
            · intro E θ a w hD hi hp he hc
              have e2 := hp.of (k := 2) rfl
              have e4 := hp.of (k := 4) rfl
              have hf := he.h0
              replace hf := hf.more he 9 rfl (onP e2)
              replace hf := hf.more he 11 rfl (onP e4)
              refine stP hf rfl rfl rfl (pIA Try.underlying39 sz_3 rfl rfl qa_2) fun a hf => ?_
              refine cNil ?_
              refine xThenN ?_
              intro ds u hau
              refine ⟨θ, he.put0 hi hau hf rfl 12 rfl rfl, ?_⟩
              exact hc
            · intro E θ a w hD hi hp he hc
              have e5 := hp.of (k := 5) rfl
              have hf := he.h0
              replace hf := hf.more he 12 rfl (onP e5)
              refine stE hf hc rfl rfl rfl (eLd1 sc_3 rfl (cell_pc (j := 0) qp_2 rfl)) fun a w hf hc => ?_
              refine cNil ?_
              refine xThenN ?_
              intro ds u hau
              refine ⟨θ, he.put0 hi hau hf rfl 13 rfl rfl, ?_⟩
              exact hc
            · intro E θ a w hD hi hp he hc
              have hf := he.h0
              replace hf := hf.more he 1 rfl onT
              refine stP hf rfl rfl rfl (pFA fa_24_1 rfl) fun a hf => ?_
              refine cNil ?_
              refine xThenN ?_
              intro ds u hau
              refine ⟨θ, he.put0 hi hau hf rfl 14 rfl rfl, ?_⟩
              exact hc
            · intro E θ a w hD hi hp he hc
              have e7 := hp.of (k := 7) rfl
              have hf := he.h0
              replace hf := hf.more he 14 rfl (onP e7)
              refine stE hf hc rfl rfl rfl (eLd1 sc_3 rfl (cell_box m2 rfl)) fun a w hf hc => ?_
              refine cNil ?_
              refine xThenN ?_
              intro ds u hau
              refine ⟨θ, he.put0 hi hau hf rfl 15 rfl rfl, ?_⟩
              exact hc
            · intro E θ a w hD hi hp he hc
              have e6 := hp.of (k := 6) rfl
              have e8 := hp.of (k := 8) rfl
              have hf := he.h0
              replace hf := hf.more he 13 rfl (onP e6)
              replace hf := hf.more he 15 rfl (onP e8)
              refine stP hf rfl rfl rfl (pSub rfl rfl) fun a hf => ?_
              refine cNil ?_
              refine xThenN ?_
              intro ds u hau
              refine ⟨θ, he.put0 hi hau hf rfl 16 rfl rfl, ?_⟩
              exact hc
            · intro E θ a w hD hi hp he hc
              have e1 := hp.of (k := 1) rfl
              have e9 := hp.of (k := 9) rfl
              have hf := he.h0
              replace hf := hf.more he 8 rfl (onP e1)
              replace hf := hf.more he 16 rfl (onP e9)
              refine stP hf rfl rfl rfl (pMax2 rfl rfl) fun a hf => ?_
              refine cNil ?_
              refine xThenN ?_
              intro ds u hau
              refine ⟨θ, he.put0 hi hau hf rfl 17 rfl rfl, ?_⟩
              exact hc
            · intro E θ a w hD hi hp he hc
              have hf := he.h0
              replace hf := hf.more he 3 rfl onT
              refine stP hf rfl rfl rfl (pFA fa_30_1 rfl) fun a hf => ?_
              refine cNil ?_
              refine xThenN ?_
              intro ds u hau
              refine ⟨θ, he.put0 hi hau hf rfl 18 rfl rfl, ?_⟩
              exact hc
            · intro E θ a w hD hi hp he hc
              have e11 := hp.of (k := 11) rfl
              have e23 := hD.f 1 rfl hi
              try dsimp only at hc
              rw [e23] at hc
              have hf := he.h0
              replace hf := hf.more he 18 rfl (onP e11)
              refine stE hf hc rfl rfl rfl (eLd1 sc_3 rfl (cell_box m0 rfl)) fun a w hf hc => ?_
              refine cNil ?_
              refine xThenN ?_
              intro ds u hau
              refine ⟨θ, he.put0 hi hau hf rfl 19 rfl rfl, ?_⟩
              try dsimp only
              rw [updE_fls 12 e23 rfl]
              exact hc
            · intro E θ a w hD hi hp he hc
              have hf := he.h0
              replace hf := hf.more he 0 rfl onT
              refine stP hf rfl rfl rfl (pM rfl) fun a hf => ?_
              refine cNil ?_
              refine xThenN ?_
              intro ds u hau
              refine ⟨θ, he.put0 hi hau hf rfl 20 rfl rfl, ?_⟩
              exact hc
            · intro E θ a w hD hi hp he hc
              have hf := he.h0
              replace hf := hf.more he 2 rfl onT
              refine stP hf rfl rfl rfl (pM rfl) fun a hf => ?_
              refine cNil ?_
              refine xThenN ?_
              intro ds u hau
              refine ⟨θ, he.put0 hi hau hf rfl 21 rfl rfl, ?_⟩
              exact hc
            · intro E θ a w hD hi hp he hc
              have e14 := hp.of (k := 14) rfl
              have hf := he.h0
              replace hf := hf.more he 21 rfl (onP e14)
              refine stP hf rfl rfl rfl (pSub rfl rfl) fun a hf => ?_
              refine cNil ?_
              refine xThenN ?_
              intro ds u hau
              refine ⟨θ, he.put0 hi hau hf rfl 22 rfl rfl, ?_⟩
              exact hc
            · intro E θ a w hD hi hp he hc
              have e13 := hp.of (k := 13) rfl
              have e15 := hp.of (k := 15) rfl
              have hf := he.h0
              replace hf := hf.more he 20 rfl (onP e13)
              replace hf := hf.more he 22 rfl (onP e15)
              refine stP hf rfl rfl rfl (pIA Try.underlying39 sz_3 rfl rfl qa_3) fun a hf => ?_
              refine cNil ?_
              refine xThenN ?_
              intro ds u hau
              refine ⟨θ, he.put0 hi hau hf rfl 23 rfl rfl, ?_⟩
              exact hc
            · intro E θ a w hD hi hp he hc
              have e16 := hp.of (k := 16) rfl
              have hf := he.h0
              replace hf := hf.more he 23 rfl (onP e16)
              refine stE hf hc rfl rfl rfl (eLd1 sc_3 rfl (cell_pc (j := 0) qp_3 rfl)) fun a w hf hc => ?_
              refine cNil ?_
              refine xThenN ?_
              intro ds u hau
              refine ⟨θ, he.put0 hi hau hf rfl 24 rfl rfl, ?_⟩
              exact hc
            · intro E θ a w hD hi hp he hc
              have hf := he.h0
              replace hf := hf.more he 1 rfl onT
              refine stP hf rfl rfl rfl (pFA fa_24_0 rfl) fun a hf => ?_
              refine cNil ?_
              refine xThenN ?_
              intro ds u hau
              refine ⟨θ, he.put0 hi hau hf rfl 25 rfl rfl, ?_⟩
              exact hc
            · intro E θ a w hD hi hp he hc
              have e18 := hp.of (k := 18) rfl
              have hf := he.h0
              replace hf := hf.more he 25 rfl (onP e18)
              refine stE hf hc rfl rfl rfl (eLd1 sc_3 rfl (cell_box m2 rfl)) fun a w hf hc => ?_
              refine cNil ?_
              refine xThenN ?_
              intro ds u hau
              refine ⟨θ, he.put0 hi hau hf rfl 26 rfl rfl, ?_⟩
              exact hc
            · intro E θ a w hD hi hp he hc
              have e17 := hp.of (k := 17) rfl
              have e19 := hp.of (k := 19) rfl
              have hf := he.h0
              replace hf := hf.more he 24 rfl (onP e17)
              replace hf := hf.more he 26 rfl (onP e19)
              refine stP hf rfl rfl rfl (pAdd rfl rfl) fun a hf => ?_
              refine cNil ?_
              refine xThenN ?_
              intro ds u hau
              refine ⟨θ, he.put0 hi hau hf rfl 27 rfl rfl, ?_⟩
              exact hc
            · intro E θ a w hD hi hp he hc
              have e12 := hp.of (k := 12) rfl
              have e20 := hp.of (k := 20) rfl
              have hf := he.h0
              replace hf := hf.more he 19 rfl (onP e12)
              replace hf := hf.more he 27 rfl (onP e20)
              refine stP hf rfl rfl rfl (pMin2 rfl rfl) fun a hf => ?_
              refine cNil ?_
              refine xThenN ?_
              intro ds u hau
              refine ⟨θ, he.put0 hi hau hf rfl 28 rfl rfl, ?_⟩
              exact hc
            · intro E θ a w hD hi hp he hc
              have e10 := hp.of (k := 10) rfl
              have e21 := hp.of (k := 21) rfl
              have hf := he.h0
              replace hf := hf.more he 17 rfl (onP e10)
              replace hf := hf.more he 28 rfl (onP e21)
              refine stP hf rfl rfl rfl (pBuildS (cells := [.int .i64 (max r_2.Lo (W (e_3 - r.Fall))), .int .i64 (min r_2.Hi (W (e_4 + r.Rise)))]) bt_30 rfl rfl) fun a hf => ?_
              refine cNil ?_
              refine xThenN ?_
              intro ds u hau
              refine ⟨θ, he.put0 hi hau hf rfl 29 rfl rfl, ?_⟩
              exact hc
            · intro E θ a w hD hi hp he hc
              have e22 := hp.of (k := 22) rfl
              try dsimp only at hc
              rw [hi] at hc
              have hf := he.h0
              replace hf := hf.more he 3 rfl onT
              replace hf := hf.more he 29 rfl (onP e22)
              refine stSt (vs := [.int .i64 (max r_2.Lo (W (e_3 - r.Fall))), .int .i64 (min r_2.Hi (W (e_4 + r.Rise)))]) hf hc rfl rfl rfl rfl sz_30 rfl rfl u0 fun w hc => ?_
              refine cNil ?_
              refine xThenN ?_
              intro ds u hau
              refine ⟨θ, he.stay0 hi hau hf rfl, ?_⟩
              try dsimp only
              rw [updE_self E 23]
              exact hc
            · intro E θ a w hall he hc
              have hf := he.h0
              have e23 := hall 23 rfl
              replace hf := hf.more he 6 rfl (onT)
              replace hf := hf.more he 5 rfl (onT)
              replace hf := hf.more he 4 rfl (onT)
              replace hf := hf.more he 3 rfl (onT)
              replace hf := hf.more he 2 rfl (onT)
              replace hf := hf.more he 1 rfl (onT)
              replace hf := hf.more he 0 rfl (onT)
              try dsimp only at hc
              rw [e23] at hc
              exact ⟨hf.keep ⟨rfl, rfl, rfl, rfl, rfl, rfl, rfl, trivial⟩, hc⟩
            rintro a w ⟨hf, hc⟩
            replace hc := hc.drop k1
            exact hj19 (max r_2.Lo (W (e_3 - r.Fall))) (min r_2.Hi (W (e_4 + r.Rise))) _ _  (hf.keep ⟨rfl, rfl, rfl, rfl, rfl, rfl, rfl, trivial⟩) hc hF
          · replace hF := condF hb hF
            clear hb
            refine wp_skip ?_
            replace hc := hc.drop k1
            exact hj19 r_2.Lo r_2.Hi _ _  (hf.keep ⟨rfl, rfl, rfl, rfl, rfl, rfl, rfl, trivial⟩) hc hF
        · replace hF := condF hb hF
          clear hb
          refine wp_exit ?_
          refine xThen ?_
          refine xThen ?_
          have he := Option.some.inj hF
          rw [← he] at hfin12
          refine cHit ?_
          exact hr12 _ _ _ hfin12 ⟨hf.keep ⟨rfl, rfl, rfl, rfl, rfl, trivial⟩, hc⟩

def law07_Four (N : Nat) (least : Int) : Option (daily_Record) :=
  Option.bind (law07_known N 20 30) fun r =>
  Option.bind (law07_known N least 90) fun r_1 =>
  some (⟨10, 5, ([r, (⟨false, (⟨0, 0⟩ : api_Span)⟩ : daily_Value), (⟨false, (⟨0, 0⟩ : api_Span)⟩ : daily_Value), r_1] : List daily_Value)⟩ : daily_Record)
theorem law07_Four_ok {N : Nat} {G : Pers} {Lf : List Ent} {w : World} (least : Int)   (hc : Ctx G (Lf) w) {res : daily_Record} (hF : law07_Four N least = some res) : Calls Try.prog 58 #[.int .i64 least] w (fun e w => ∃ (p'1 : Option Addr) (c'1 : Nat), e = .returned (.agg #[.int .i64 res.Rise, .int .i64 res.Fall, .slice p'1 res.Days.length c'1]) ∧ Ctx G (.row p'1 c'1 (res.Days.map enc_daily_Value) 56 3 :: Lf) w) := by
  unfold law07_Four at hF
  refine fnIn (args := [.int .i64 least]) Try.func58 rfl Try.ntmps58 rfl fun a hf => ?_
  refine wp_seq_k fun K1 h1 => ?_
  refine cReg ?_
  refine stAl (cs := [.int .i64 0, .int .i64 0, .slice none 0 0]) hf hc rfl rfl zr_24 rfl fun b_1 a w hf hc => ?_
  refine cNil ?_
  refine h1 _ _ ?_
  refine wp_seq_k fun K2 h2 => ?_
  refine cReg ?_
  obtain ⟨r, hr, hF⟩ := bnd_some hF
  refine stE hf hc rfl rfl rfl (eC (v := .agg #[.bool r.Known, .int .i64 r.Flow.Lo, .int .i64 r.Flow.Hi]) (vs := [.int .i64 20, .int .i64 30]) (caps := []) en_27 rfl rfl rfl rfl (fun w hc => law07_known_ok 20 30 hc hr)) fun a w hf hc => ?_
  refine stP hf rfl rfl rfl (pBuildS (cells := [.bool false, .int .i64 0, .int .i64 0]) bt_56 rfl rfl) fun a hf => ?_
  refine stP hf rfl rfl rfl (pBuildS (cells := [.bool false, .int .i64 0, .int .i64 0]) bt_56 rfl rfl) fun a hf => ?_
  refine stP hf rfl rfl rfl (pM rfl) fun a hf => ?_
  obtain ⟨r_1, hr_1, hF⟩ := bnd_some hF
  refine stE hf hc rfl rfl rfl (eC (v := .agg #[.bool r_1.Known, .int .i64 r_1.Flow.Lo, .int .i64 r_1.Flow.Hi]) (vs := [.int .i64 least, .int .i64 90]) (caps := []) en_27 rfl rfl rfl rfl (fun w hc => law07_known_ok least 90 hc hr_1)) fun a w hf hc => ?_
  refine stBS (rows := ([r, (⟨false, (⟨0, 0⟩ : api_Span)⟩ : daily_Value), (⟨false, (⟨0, 0⟩ : api_Span)⟩ : daily_Value), r_1] : List daily_Value).map enc_daily_Value) (vs := [(0, .agg #[.bool r.Known, .int .i64 r.Flow.Lo, .int .i64 r.Flow.Hi]), (1, .agg #[.bool false, .int .i64 0, .int .i64 0]), (2, .agg #[.bool false, .int .i64 0, .int .i64 0]), (3, .agg #[.bool r_1.Known, .int .i64 r_1.Flow.Lo, .int .i64 r_1.Flow.Hi])]) hf hc rfl rfl sl_22 rfl ⟨rfl, rfl, rfl, rfl, rfl, rfl, rfl, rfl, rfl, rfl, rfl, rfl, trivial⟩ rfl rfl fun b_2 a w hf hc => ?_
  refine stP hf rfl rfl rfl (pBuildS (cells := [.int .i64 10, .int .i64 5, .slice (some ⟨b_2, 0, none⟩) 4 4]) bt_24 rfl rfl) fun a hf => ?_
  refine stSt (vs := [.int .i64 10, .int .i64 5, .slice (some ⟨b_2, 0, none⟩) 4 4]) hf hc rfl rfl rfl rfl sz_24 rfl rfl u1 fun w hc => ?_
  refine cNil ?_
  refine h2 _ _ ?_
  refine wp_ret ?_
  obtain rfl := Option.some.inj hF
  exact fnOut1 (by simp) rfl Try.results58 hf hc (rv_cellN (vs := [.int .i64 10, .int .i64 5, .slice (some ⟨b_2, 0, none⟩) 4 4]) ag_24 rfl rfl (cells_box (n := 3) m1 rfl)) ⟨(some ⟨b_2, 0, none⟩), 4, rfl, (hc.drop k1)⟩

def daily_sum_b5 (N : Nat) (l : List Int) (out : Int) (x : Int) : Option (Step (Int × Int) (Int)) :=
  cond (decide (x < ((l.length : Nat) : Int)))
  (Option.bind (getI l x) fun e_1 =>
  some (.cont (W (out + e_1), W (x + 1))))
  (some (.brk (out, x)))
def daily_sum (N : Nat) (l : List Int) : Option (Int) :=
  Option.bind (loopO (fun s5 => daily_sum_b5 N l s5.1 s5.2) N (0, 0)) fun x5 =>
  exK x5 (fun s5 => some s5.1) some
theorem daily_sum_ok {N : Nat} {G : Pers} {Lf : List Ent} {w : World} (l : List Int) {l_p : Option Addr} {l_c : Nat} (h_l : Rd G 1 l_p l_c (l.map encI_i64)) (hc : Ctx G (Lf) w) {res : Int} (hF : daily_sum N l = some res) : Calls Try.prog 63 #[.slice l_p l.length l_c] w (fun e w => e = .returned (.int .i64 res) ∧ Ctx G (Lf) w) := by
  unfold daily_sum at hF
  refine fnIn (args := [.slice l_p l.length l_c]) Try.func63 rfl Try.ntmps63 rfl fun a hf => ?_
  refine wp_seq_k fun K1 h1 => ?_
  refine cReg ?_
  refine stP hf rfl rfl rfl (pA rfl) fun a hf => ?_
  refine cNil ?_
  refine h1 _ _ ?_
  refine wp_seq_k fun K2 h2 => ?_
  refine cReg ?_
  refine stP hf rfl rfl rfl (pA rfl) fun a hf => ?_
  refine cNil ?_
  refine h2 _ _ ?_
  refine wp_seq_k fun K3 h3 => ?_
  refine wp_seq_k fun K4 h4 => ?_
  refine cReg ?_
  refine stP hf rfl rfl rfl (pM rfl) fun a hf => ?_
  refine stP hf rfl rfl rfl (pLenS Try.underlying39 rfl) fun a hf => ?_
  refine stP hf rfl rfl rfl (pM rfl) fun a hf => ?_
  refine cNil ?_
  refine h4 _ _ ?_
  refine wp_block ?_
  obtain ⟨x5, hx5, hF⟩ := bnd_some hF
  let S5 : (Int × Int) → Act → World → Prop := (fun (zz : Int × Int) a w => Has 17 a [(3, .int .i64 zz.1), (6, .slice l_p l.length l_c), (7, .int .i64 ((l.length : Nat) : Int)), (8, .int .i64 zz.2)] ∧ Ctx G (Lf) w)
  have hr5 : ∀ (zz : Int × Int) a w, x5 = .go zz → S5 zz a w → K3 a w := by
    rintro ⟨out, x⟩ a w rfl ⟨hf, hc⟩
    replace hF := exK_go hF
    refine h3 _ _ ?_
    refine wp_seq_k fun K6 h6 => ?_
    refine cReg ?_
    refine stP hf rfl rfl rfl (pM rfl) fun a hf => ?_
    refine stP hf rfl rfl rfl (pA rfl) fun a hf => ?_
    refine cNil ?_
    refine h6 _ _ ?_
    refine wp_ret ?_
    obtain rfl := Option.some.inj hF
    exact fnOut1 (by simp) rfl Try.results63 hf hc (show look _ 2 = _ from rfl) ⟨rfl, hc⟩
  have ho5 : ∀ r, x5 = .out r → r = res := by
    rintro r rfl
    exact Option.some.inj hF
  refine cLoop N (loopW (S := S5) (x := x5) ?_ N (0, 0) _ _ ⟨hf.keep ⟨rfl, rfl, rfl, rfl, trivial⟩, hc⟩ hx5)
  clear hF hf hc
  rintro ⟨out, x⟩ st5 a w KB5 ⟨hf, hc⟩ hF hfin5 hK5
  unfold daily_sum_b5 at hF
  refine wp_seq_k fun K7 h7 => ?_
  refine cReg ?_
  refine stP hf rfl rfl rfl (pLt rfl rfl) fun a hf => ?_
  refine cNil ?_
  refine h7 _ _ ?_
  refine wp_seq_k fun K8 h8 => ?_
  refine cCond (b := (decide (x < ((l.length : Nat) : Int)))) hf rfl (fun hb => ?_) (fun hb => ?_)
  · replace hF := condT hb hF
    clear hb
    refine wp_skip ?_
    refine h8 _ _ ?_
    refine wp_seq_k fun K9 h9 => ?_
    refine wp_block ?_
    refine wp_seq_k fun K10 h10 => ?_
    refine cReg ?_
    obtain ⟨e_1, he_1, hF⟩ := bnd_some hF
    obtain ⟨b_1, o, qa, qp⟩ := h_l.atm he_1
    refine stP hf rfl rfl rfl (pIA Try.underlying39 sz_3 rfl rfl qa) fun a hf => ?_
    refine stE hf hc rfl rfl rfl (eLd1 sc_3 rfl (cell_pc (j := 0) qp rfl)) fun a w hf hc => ?_
    refine stP hf rfl rfl rfl (pA rfl) fun a hf => ?_
    refine cNil ?_
    refine h10 _ _ ?_
    refine cReg ?_
    refine stP hf rfl rfl rfl (pM rfl) fun a hf => ?_
    refine stP hf rfl rfl rfl (pM rfl) fun a hf => ?_
    refine stP hf rfl rfl rfl (pAdd rfl rfl) fun a hf => ?_
    refine stP hf rfl rfl rfl (pA rfl) fun a hf => ?_
    refine cNil ?_
    refine h9 _ _ ?_
    refine cReg ?_
    refine stP hf rfl rfl rfl (pAdd rfl rfl) fun a hf => ?_
    refine stP hf rfl rfl rfl (pM rfl) fun a hf => ?_
    refine cNil ?_
    exact hK5 (W (out + e_1), W (x + 1)) _ _ (Option.some.inj hF).symm ⟨hf.keep ⟨rfl, rfl, rfl, rfl, trivial⟩, hc⟩
  · replace hF := condF hb hF
    clear hb
    refine wp_exit ?_
    refine xThen ?_
    refine xThen ?_
    have he := Option.some.inj hF
    rw [← he] at hfin5
    refine cHit ?_
    exact hr5 _ _ _ hfin5 ⟨hf.keep ⟨rfl, rfl, rfl, rfl, trivial⟩, hc⟩

def daily_Volume (N : Nat) (r : daily_Record) (from_ : Int) (to_ : Int) : Option (api_Span × Int) :=
  Option.bind (daily_Check N r) fun r_0 =>
  cond (r_0 != 0)
  (some ((⟨0, 0⟩ : api_Span), r_0))
  (cond ((!(daily_in from_ 0 to_)) || (decide (((r.Days.length : Nat) : Int) ≤ to_)))
  (some ((⟨0, 0⟩ : api_Span), 2))
  (Option.bind (daily_agreed N r) (sumK (fun r_1 => cond (r_1 != 0)
  (some ((⟨0, 0⟩ : api_Span), r_1))
  (none))
  (fun r_2 => cond (r_2.2.2.2 != 0)
  (some ((⟨0, 0⟩ : api_Span), r_2.2.2.2))
  (Option.bind (subO r_2.2.2.1 from_ (W (to_ + 1))) fun sub =>
  Option.bind (daily_ends N sub) fun r_3 =>
  Option.bind (daily_sum N r_3) fun r_4 =>
  Option.bind (daily_ends_s2 N sub) fun r_5 =>
  Option.bind (daily_sum N r_5) fun r_6 =>
  some ((⟨r_4, r_6⟩ : api_Span), 0))))))
theorem daily_Volume_ok {N : Nat} {G : Pers} {Lf : List Ent} {w : World} (r : daily_Record) (from_ : Int) (to_ : Int) {r_Days_p : Option Addr} {r_Days_c : Nat} (h_r_Days : Rd G 3 r_Days_p r_Days_c (r.Days.map enc_daily_Value)) (hc : Ctx G (Lf) w) {res : api_Span × Int} (hF : daily_Volume N r from_ to_ = some res) : Calls Try.prog 15 #[.agg #[.int .i64 r.Rise, .int .i64 r.Fall, .slice r_Days_p r.Days.length r_Days_c], .int .i64 from_, .int .i64 to_] w (fun e w => e = .returned (.tuple #[.agg #[.int .i64 res.1.Lo, .int .i64 res.1.Hi], .int .i64 res.2]) ∧ Ctx G (Lf) w) := by
  unfold daily_Volume at hF
  refine fnIn (args := [.agg #[.int .i64 r.Rise, .int .i64 r.Fall, .slice r_Days_p r.Days.length r_Days_c], .int .i64 from_, .int .i64 to_]) Try.func15 rfl Try.ntmps15 rfl fun a hf => ?_
  refine wp_seq_k fun K1 h1 => ?_
  refine cReg ?_
  refine stBx (cs := [.int .i64 r.Rise, .int .i64 r.Fall, .slice r_Days_p r.Days.length r_Days_c]) hf hc rfl rfl rfl rfl fun b_1 a w hf hc => ?_
  refine stAl (cs := [.int .i64 0, .int .i64 0]) hf hc rfl rfl zr_30 rfl fun b_2 a w hf hc => ?_
  refine stP hf rfl rfl rfl (pA rfl) fun a hf => ?_
  refine cNil ?_
  refine h1 _ _ ?_
  refine wp_seq_k fun K2 h2 => ?_
  refine wp_seq_k fun K3 h3 => ?_
  refine cReg ?_
  refine stE hf hc rfl rfl rfl (eLdN (vs := [.int .i64 r.Rise, .int .i64 r.Fall, .slice r_Days_p r.Days.length r_Days_c]) ag_24 rfl rfl (cells_box (n := 3) m1 rfl)) fun a w hf hc => ?_
  obtain ⟨r_0, hr_0, hF⟩ := bnd_some hF
  refine stE hf hc rfl rfl rfl (eC (v := .int .i64 r_0) (vs := [.agg #[.int .i64 r.Rise, .int .i64 r.Fall, .slice r_Days_p r.Days.length r_Days_c]]) (caps := []) en_34 rfl rfl rfl rfl (fun w hc => daily_Check_ok r h_r_Days hc hr_0)) fun a w hf hc => ?_
  refine stP hf rfl rfl rfl (pA rfl) fun a hf => ?_
  refine cNil ?_
  refine h3 _ _ ?_
  refine wp_seq_k fun K4 h4 => ?_
  refine cReg ?_
  refine stP hf rfl rfl rfl (pM rfl) fun a hf => ?_
  refine stP hf rfl rfl rfl (pNe rfl rfl) fun a hf => ?_
  refine cNil ?_
  refine h4 _ _ ?_
  refine cCond (b := (r_0 != 0)) hf rfl (fun hb => ?_) (fun hb => ?_)
  · replace hF := condT hb hF
    clear hb
    refine wp_seq_k fun K5 h5 => ?_
    refine cReg ?_
    refine stP hf rfl rfl rfl (pBuildS (cells := [.int .i64 0, .int .i64 0]) bt_30 rfl rfl) fun a hf => ?_
    refine stP hf rfl rfl rfl (pM rfl) fun a hf => ?_
    refine stSt (vs := [.int .i64 0, .int .i64 0]) hf hc rfl rfl rfl rfl sz_30 rfl rfl u0 fun w hc => ?_
    refine stP hf rfl rfl rfl (pA rfl) fun a hf => ?_
    refine cNil ?_
    refine h5 _ _ ?_
    refine wp_ret ?_
    refine xThenR ?_
    obtain rfl := Option.some.inj hF
    replace hc := hc.drop k1
    exact fnOut2 (by simp) rfl Try.results15 hf hc (rv_cellN (vs := [.int .i64 0, .int .i64 0]) ag_30 rfl rfl (cells_box (n := 2) m0 rfl)) (show look _ 7 = _ from rfl) ⟨rfl, (hc.drop k0)⟩
  · replace hF := condF hb hF
    clear hb
    refine wp_skip ?_
    refine h2 _ _ ?_
    refine wp_seq_k fun K6 h6 => ?_
    refine wp_seq_k fun K7 h7 => ?_
    refine cReg ?_
    refine stP hf rfl rfl rfl (pM rfl) fun a hf => ?_
    refine stP hf rfl rfl rfl (pM rfl) fun a hf => ?_
    refine stE hf hc rfl rfl rfl (eC (v := .bool (daily_in from_ 0 to_)) (vs := [.int .i64 from_, .int .i64 0, .int .i64 to_]) (caps := []) en_60 rfl rfl rfl rfl (fun w hc => daily_in_ok from_ 0 to_ hc rfl)) fun a w hf hc => ?_
    refine stP hf rfl rfl rfl (pNot rfl) fun a hf => ?_
    refine stP hf rfl rfl rfl (pM rfl) fun a hf => ?_
    refine stCut 6 (fun a w => Has 60 a [(1, .int .i64 from_), (2, .int .i64 to_), (3, .pointer (some ⟨b_1, 0, none⟩)), (6, .pointer (some ⟨b_2, 0, none⟩)), (19, .int .i64 from_), (20, .int .i64 to_), (21, .bool (daily_in from_ 0 to_)), (22, .bool (!(daily_in from_ 0 to_))), (23, .bool (!(daily_in from_ 0 to_))), (29, .bool ((!(daily_in from_ 0 to_)) || (decide (((r.Days.length : Nat) : Int) ≤ to_))))] ∧ Ctx G (.box b_2 [.int .i64 0, .int .i64 0] 30 :: .box b_1 [.int .i64 r.Rise, .int .i64 r.Fall, .slice r_Days_p r.Days.length r_Days_c] 24 :: Lf) w) ?_ ?_
    · cases hb : (!(daily_in from_ 0 to_))
      · rw [hb] at hf
        refine stP hf rfl rfl rfl (pM rfl) fun a hf => ?_
        refine stP hf rfl rfl rfl (pFA fa_24_2 rfl) fun a hf => ?_
        refine stE hf hc rfl rfl rfl (eLd1 sc_22 rfl (cell_box m1 rfl)) fun a w hf hc => ?_
        refine stP hf rfl rfl rfl (pLenS Try.underlying22 rfl) fun a hf => ?_
        refine stP hf rfl rfl rfl (pGe rfl rfl) fun a hf => ?_
        refine stP hf rfl rfl rfl (pPf rfl rfl) fun a hf => ?_
        exact cNil ⟨hf.keep ⟨rfl, rfl, rfl, rfl, rfl, rfl, rfl, rfl, rfl, rfl, trivial⟩, hc⟩
      · rw [hb] at hf
        refine stS hf rfl rfl rfl fun a hf => ?_
        refine stS hf rfl rfl rfl fun a hf => ?_
        refine stS hf rfl rfl rfl fun a hf => ?_
        refine stS hf rfl rfl rfl fun a hf => ?_
        refine stS hf rfl rfl rfl fun a hf => ?_
        refine stP hf rfl rfl rfl (pPt rfl rfl) fun a hf => ?_
        exact cNil ⟨hf.keep ⟨rfl, rfl, rfl, rfl, rfl, rfl, rfl, rfl, rfl, rfl, trivial⟩, hc⟩
    intro a w ⟨hf, hc⟩
    refine cNil ?_
    refine h7 _ _ ?_
    refine cCond (b := ((!(daily_in from_ 0 to_)) || (decide (((r.Days.length : Nat) : Int) ≤ to_)))) hf rfl (fun hb => ?_) (fun hb => ?_)
    · replace hF := condT hb hF
      clear hb
      refine wp_seq_k fun K8 h8 => ?_
      refine cReg ?_
      refine stP hf rfl rfl rfl (pBuildS (cells := [.int .i64 0, .int .i64 0]) bt_30 rfl rfl) fun a hf => ?_
      refine stSt (vs := [.int .i64 0, .int .i64 0]) hf hc rfl rfl rfl rfl sz_30 rfl rfl u0 fun w hc => ?_
      refine stP hf rfl rfl rfl (pA rfl) fun a hf => ?_
      refine cNil ?_
      refine h8 _ _ ?_
      refine wp_ret ?_
      refine xThenR ?_
      obtain rfl := Option.some.inj hF
      replace hc := hc.drop k1
      exact fnOut2 (by simp) rfl Try.results15 hf hc (rv_cellN (vs := [.int .i64 0, .int .i64 0]) ag_30 rfl rfl (cells_box (n := 2) m0 rfl)) (show look _ 7 = _ from rfl) ⟨rfl, (hc.drop k0)⟩
    · replace hF := condF hb hF
      clear hb
      refine wp_skip ?_
      refine h6 _ _ ?_
      refine wp_seq_k fun K9 h9 => ?_
      refine cReg ?_
      refine stE hf hc rfl rfl rfl (eLdN (vs := [.int .i64 r.Rise, .int .i64 r.Fall, .slice r_Days_p r.Days.length r_Days_c]) ag_24 rfl rfl (cells_box (n := 3) m1 rfl)) fun a w hf hc => ?_
      obtain ⟨r_1, hr_1, hF⟩ := bnd_some hF
      cases r_1 with
      | inl r_1 =>
        replace hF := sumKl hF
        refine stC (vs := [.agg #[.int .i64 r.Rise, .int .i64 r.Fall, .slice r_Days_p r.Days.length r_Days_c]]) (caps := []) hf rfl rfl rfl en_61 rfl rfl rfl rfl (daily_agreed_ok r h_r_Days hc hr_1) ?_
        rintro _ w ⟨rfl, hc⟩
        refine ⟨_, rfl, fun a hf => ?_⟩
        refine stP hf rfl rfl rfl (pM rfl) fun a hf => ?_
        refine stP hf rfl rfl rfl (pX rfl rfl) fun a hf => ?_
        refine stP hf rfl rfl rfl (pX rfl rfl) fun a hf => ?_
        refine stP hf rfl rfl rfl (pA rfl) fun a hf => ?_
        refine stP hf rfl rfl rfl (pA rfl) fun a hf => ?_
        refine cNil ?_
        refine h9 _ _ ?_
        refine wp_seq_k fun K10 h10 => ?_
        refine wp_seq_k fun K11 h11 => ?_
        refine cReg ?_
        refine stP hf rfl rfl rfl (pM rfl) fun a hf => ?_
        refine stP hf rfl rfl rfl (pNe rfl rfl) fun a hf => ?_
        refine cNil ?_
        refine h11 _ _ ?_
        refine cCond (b := (r_1 != 0)) hf rfl (fun hb => ?_) (fun hb => ?_)
        · replace hF := condT hb hF
          clear hb
          refine wp_seq_k fun K12 h12 => ?_
          refine cReg ?_
          refine stP hf rfl rfl rfl (pBuildS (cells := [.int .i64 0, .int .i64 0]) bt_30 rfl rfl) fun a hf => ?_
          refine stP hf rfl rfl rfl (pM rfl) fun a hf => ?_
          refine stSt (vs := [.int .i64 0, .int .i64 0]) hf hc rfl rfl rfl rfl sz_30 rfl rfl u0 fun w hc => ?_
          refine stP hf rfl rfl rfl (pA rfl) fun a hf => ?_
          refine cNil ?_
          refine h12 _ _ ?_
          refine wp_ret ?_
          refine xThenR ?_
          obtain rfl := Option.some.inj hF
          replace hc := hc.drop k1
          exact fnOut2 (by simp) rfl Try.results15 hf hc (rv_cellN (vs := [.int .i64 0, .int .i64 0]) ag_30 rfl rfl (cells_box (n := 2) m0 rfl)) (show look _ 7 = _ from rfl) ⟨rfl, (hc.drop k0)⟩
        · replace hF := condF hb hF
          clear hb
          refine wp_skip ?_
          refine h10 _ _ ?_
          refine wp_seq_k fun K13 h13 => ?_
          exact noneO hF
      | inr r_2 =>
        replace hF := sumKr hF
        have hr_2 := hr_1
        refine stC (vs := [.agg #[.int .i64 r.Rise, .int .i64 r.Fall, .slice r_Days_p r.Days.length r_Days_c]]) (caps := []) hf rfl rfl rfl en_61 rfl rfl rfl rfl (daily_agreed_ok r h_r_Days hc hr_2) ?_
        rintro _ w ⟨b_3, p_1, c_1, rfl, hc⟩
        refine ⟨_, rfl, fun a hf => ?_⟩
        refine stP hf rfl rfl rfl (pM rfl) fun a hf => ?_
        refine stP hf rfl rfl rfl (pX rfl rfl) fun a hf => ?_
        refine stP hf rfl rfl rfl (pX rfl rfl) fun a hf => ?_
        refine stP hf rfl rfl rfl (pA rfl) fun a hf => ?_
        refine stP hf rfl rfl rfl (pA rfl) fun a hf => ?_
        refine cNil ?_
        refine h9 _ _ ?_
        refine wp_seq_k fun K14 h14 => ?_
        refine wp_seq_k fun K15 h15 => ?_
        refine cReg ?_
        refine stP hf rfl rfl rfl (pM rfl) fun a hf => ?_
        refine stP hf rfl rfl rfl (pNe rfl rfl) fun a hf => ?_
        refine cNil ?_
        refine h15 _ _ ?_
        refine cCond (b := (r_2.2.2.2 != 0)) hf rfl (fun hb => ?_) (fun hb => ?_)
        · replace hF := condT hb hF
          clear hb
          refine wp_seq_k fun K16 h16 => ?_
          refine cReg ?_
          refine stP hf rfl rfl rfl (pBuildS (cells := [.int .i64 0, .int .i64 0]) bt_30 rfl rfl) fun a hf => ?_
          refine stP hf rfl rfl rfl (pM rfl) fun a hf => ?_
          refine stSt (vs := [.int .i64 0, .int .i64 0]) hf hc rfl rfl rfl rfl sz_30 rfl rfl u2 fun w hc => ?_
          refine stP hf rfl rfl rfl (pA rfl) fun a hf => ?_
          refine cNil ?_
          refine h16 _ _ ?_
          refine wp_ret ?_
          refine xThenR ?_
          obtain rfl := Option.some.inj hF
          replace hc := hc.drop k3
          replace hc := hc.drop k1
          replace hc := hc.drop k0
          exact fnOut2 (by simp) rfl Try.results15 hf hc (rv_cellN (vs := [.int .i64 0, .int .i64 0]) ag_30 rfl rfl (cells_box (n := 2) m0 rfl)) (show look _ 7 = _ from rfl) ⟨rfl, (hc.drop k0)⟩
        · replace hF := condF hb hF
          clear hb
          refine wp_skip ?_
          refine h14 _ _ ?_
          refine wp_seq_k fun K17 h17 => ?_
          have qc := row_cap hc m0
          obtain ⟨sub, hsub, hF⟩ := bnd_some hF
          replace hc := hc.nilRow 0 0
          refine regionE (fun θ => [⟨none, none, 1, .int .i64 from_⟩, ⟨none, none, 2, .int .i64 to_⟩, ⟨none, none, 6, .pointer (some ⟨b_2, 0, none⟩)⟩, ⟨none, none, 9, .pointer (some ⟨b_3, 0, none⟩)⟩, ⟨some 0, none, 40, .pointer (some ⟨b_3, 0, none⟩)⟩, ⟨some 1, none, 41, .pointer (some ⟨b_3, 0, none⟩)⟩, ⟨some 2, none, 42, .pointer (some ⟨b_3, 3, none⟩)⟩, ⟨some 3, none, 43, .slice p_1 r_2.2.2.1.length c_1⟩, ⟨some 4, none, 44, .int .i64 from_⟩, ⟨some 5, none, 45, .int .i64 to_⟩, ⟨some 6, none, 46, .int .i64 (W (to_ + 1))⟩, ⟨some 7, none, 47, .slice (subP p_1 c_1 from_.toNat 2) sub.length (c_1 - from_.toNat)⟩, ⟨some 8, none, 48, .agg #[.func (.func 96) #[] #[], .func (.func 97) #[] #[]]⟩, ⟨some 9, none, 12, .pointer (some ⟨(θ 72).b, 0, none⟩)⟩, ⟨some 10, none, 11, .slice (subP p_1 c_1 from_.toNat 2) sub.length (c_1 - from_.toNat)⟩]) (fun E θ => (bif E 11 then .box (θ 72).b [.func (.func 96) #[] #[], .func (.func 97) #[] #[]] 124 else bif E 9 then .box (θ 72).b [.nilFunc, .nilFunc] 124 else .row none 0 [] 0 0) :: .row p_1 c_1 (r_2.2.2.1.map enc_api_Span) 30 2 :: .box b_3 [.int .i64 r_2.1, .int .i64 r_2.2.1, .slice r_Days_p r.Days.length r_Days_c, .slice p_1 r_2.2.2.1.length c_1] 120 :: .box b_2 [.int .i64 0, .int .i64 0] 30 :: .box b_1 [.int .i64 r.Rise, .int .i64 r.Fall, .slice r_Days_p r.Days.length r_Days_c] 24 :: Lf) [(11, 9)] (fun a w => ∃ (b_5 : Nat), Has 60 a [(6, .pointer (some ⟨b_2, 0, none⟩)), (12, .pointer (some ⟨b_5, 0, none⟩)), (11, .slice (subP p_1 c_1 from_.toNat 2) sub.length (c_1 - from_.toNat))] ∧ Ctx G (.box b_5 [.func (.func 96) #[] #[], .func (.func 97) #[] #[]] 124 :: .row p_1 c_1 (r_2.2.2.1.map enc_api_Span) 30 2 :: .box b_3 [.int .i64 r_2.1, .int .i64 r_2.2.1, .slice r_Days_p r.Days.length r_Days_c, .slice p_1 r_2.2.2.1.length c_1] 120 :: .box b_2 [.int .i64 0, .int .i64 0] 30 :: .box b_1 [.int .i64 r.Rise, .int .i64 r.Fall, .slice r_Days_p r.Days.length r_Days_c] 24 :: Lf) w) follows_mx (by kernel_rfl) (by kernel_rfl) (HasE.of hf ⟨rfl, rfl, rfl, rfl, trivial, trivial, trivial, trivial, trivial, trivial, trivial, trivial, trivial, trivial, trivial, trivial⟩) hc ⟨?_, ?_, ?_, ?_, ?_, ?_, ?_, ?_, ?_, ?_, ?_, ?_, trivial⟩ ?_ ?_
          · intro E θ a w hD hi hp he hc
            have hf := he.h0
            replace hf := hf.more he 3 rfl onT
            refine stP hf rfl rfl rfl (pM rfl) fun a hf => ?_
            refine cNil ?_
            refine xThenN ?_
            intro ds u hau
            refine ⟨θ, he.put0 hi hau hf rfl 4 rfl rfl, ?_⟩
            exact hc
          · intro E θ a w hD hi hp he hc
            have e0 := hp.of (k := 0) rfl
            have hf := he.h0
            replace hf := hf.more he 4 rfl (onP e0)
            refine stP hf rfl rfl rfl (pNC rfl) fun a hf => ?_
            refine cNil ?_
            refine xThenN ?_
            intro ds u hau
            refine ⟨θ, he.put0 hi hau hf rfl 5 rfl rfl, ?_⟩
            exact hc
          · intro E θ a w hD hi hp he hc
            have e1 := hp.of (k := 1) rfl
            have hf := he.h0
            replace hf := hf.more he 5 rfl (onP e1)
            refine stP hf rfl rfl rfl (pFA fa_120_1 rfl) fun a hf => ?_
            refine cNil ?_
            refine xThenN ?_
            intro ds u hau
            refine ⟨θ, he.put0 hi hau hf rfl 6 rfl rfl, ?_⟩
            exact hc
          · intro E θ a w hD hi hp he hc
            have e2 := hp.of (k := 2) rfl
            have hf := he.h0
            replace hf := hf.more he 6 rfl (onP e2)
            refine stE hf hc rfl rfl rfl (eLd1 sc_25 rfl (cell_box m2 rfl)) fun a w hf hc => ?_
            refine cNil ?_
            refine xThenN ?_
            intro ds u hau
            refine ⟨θ, he.put0 hi hau hf rfl 7 rfl rfl, ?_⟩
            exact hc
          · intro E θ a w hD hi hp he hc
            have hf := he.h0
            replace hf := hf.more he 0 rfl onT
            refine stP hf rfl rfl rfl (pM rfl) fun a hf => ?_
            refine cNil ?_
            refine xThenN ?_
            intro ds u hau
            refine ⟨θ, he.put0 hi hau hf rfl 8 rfl rfl, ?_⟩
            exact hc
          · intro E θ a w hD hi hp he hc
            have hf := he.h0
            replace hf := hf.more he 1 rfl onT
            refine stP hf rfl rfl rfl (pM rfl) fun a hf => ?_
            refine cNil ?_
            refine xThenN ?_
            intro ds u hau
            refine ⟨θ, he.put0 hi hau hf rfl 9 rfl rfl, ?_⟩
            exact hc
          · intro E θ a w hD hi hp he hc
            have e5 := hp.of (k := 5) rfl
            have hf := he.h0
            replace hf := hf.more he 9 rfl (onP e5)
            refine stP hf rfl rfl rfl (pAdd rfl rfl) fun a hf => ?_
            refine cNil ?_
            refine xThenN ?_
            intro ds u hau
            refine ⟨θ, he.put0 hi hau hf rfl 10 rfl rfl, ?_⟩
            exact hc
          · intro E θ a w hD hi hp he hc
            have e3 := hp.of (k := 3) rfl
            have e4 := hp.of (k := 4) rfl
            have e6 := hp.of (k := 6) rfl
            have hf := he.h0
            replace hf := hf.more he 7 rfl (onP e3)
            replace hf := hf.more he 8 rfl (onP e4)
            replace hf := hf.more he 10 rfl (onP e6)
            refine stP hf rfl rfl rfl (pSl Try.underlying25 sz_30 rfl rfl qc rfl rfl hsub) fun a hf => ?_
            refine cNil ?_
            refine xThenN ?_
            intro ds u hau
            refine ⟨θ, he.put0 hi hau hf rfl 11 rfl rfl, ?_⟩
            exact hc
          · intro E θ a w hD hi hp he hc
            have hf := he.h0
            refine stE hf hc rfl rfl rfl (eC (v := .agg #[.func (.func 96) #[] #[], .func (.func 97) #[] #[]]) (vs := []) (caps := []) en_62 rfl rfl rfl rfl (fun w hc => daily_both_ok hc rfl)) fun a w hf hc => ?_
            refine cNil ?_
            refine xThenN ?_
            intro ds u hau
            refine ⟨θ, he.put0 hi hau hf rfl 12 rfl rfl, ?_⟩
            exact hc
          · intro E θ a w hD hi hp he hc
            have e11 := hD.f 0 rfl hi
            try dsimp only at hc
            rw [hi, e11] at hc
            have hf := he.h0
            refine stAl (cs := [.nilFunc, .nilFunc]) hf hc rfl rfl zr_124 rfl fun b_4 a w hf hc => ?_
            refine cNil ?_
            refine xThenN ?_
            intro ds u hau
            replace hc := hc.drop k1
            refine ⟨(setT θ 72 ⟨b_4, none, 0⟩), he.put hi hau hf rfl [] trivial ⟨qq, qq, qq, qq, qq, qq, qq, qq, qq, qq, qq, qq, qq, qq, qq, trivial⟩, ?_⟩
            try dsimp only
            rw [updE_self E 9, updE_fls 9 e11 rfl]
            exact hc
          · intro E θ a w hD hi hp he hc
            have e7 := hp.of (k := 7) rfl
            have hf := he.h0
            replace hf := hf.more he 11 rfl (onP e7)
            refine stP hf rfl rfl rfl (pA rfl) fun a hf => ?_
            refine cNil ?_
            refine xThenN ?_
            intro ds u hau
            refine ⟨θ, he.put0 hi hau hf rfl 14 rfl rfl, ?_⟩
            exact hc
          · intro E θ a w hD hi hp he hc
            have e8 := hp.of (k := 8) rfl
            have e9 := hp.of (k := 9) rfl
            try dsimp only at hc
            rw [e9, hi] at hc
            have hf := he.h0
            replace hf := hf.more he 12 rfl (onP e8)
            replace hf := hf.more he 13 rfl (onP e9)
            refine stSt (vs := [.func (.func 96) #[] #[], .func (.func 97) #[] #[]]) hf hc rfl rfl rfl rfl sz_124 rfl rfl u0 fun w hc => ?_
            refine cNil ?_
            refine xThenN ?_
            intro ds u hau
            refine ⟨θ, he.stay0 hi hau hf rfl, ?_⟩
            try dsimp only
            rw [updE_tru 11 e9, updE_self E 11]
            exact hc
          · intro E θ a w hall he hc
            have hf := he.h0
            have e9 := hall 9 rfl
            have e10 := hall 10 rfl
            have e11 := hall 11 rfl
            replace hf := hf.more he 14 rfl (onP e10)
            replace hf := hf.more he 13 rfl (onP e9)
            replace hf := hf.more he 2 rfl (onT)
            try dsimp only at hc
            rw [e9, e11] at hc
            exact ⟨(θ 72).b, hf.keep ⟨rfl, rfl, rfl, trivial⟩, hc⟩
          rintro a w ⟨b_5, hf, hc⟩
          refine h17 _ _ ?_
          refine wp_seq_k fun K18 h18 => ?_
          obtain ⟨r_3, hr_3, hF⟩ := bnd_some hF
          obtain ⟨r_4, hr_4, hF⟩ := bnd_some hF
          obtain ⟨r_5, hr_5, hF⟩ := bnd_some hF
          obtain ⟨r_6, hr_6, hF⟩ := bnd_some hF
          replace hc := hc.nilRow 0 0
          replace hc := hc.nilRow 0 0
          refine regionE (fun θ => [⟨none, none, 6, .pointer (some ⟨b_2, 0, none⟩)⟩, ⟨none, none, 11, .slice (subP p_1 c_1 from_.toNat 2) sub.length (c_1 - from_.toNat)⟩, ⟨none, none, 12, .pointer (some ⟨b_5, 0, none⟩)⟩, ⟨some 0, none, 49, .slice (subP p_1 c_1 from_.toNat 2) sub.length (c_1 - from_.toNat)⟩, ⟨some 1, none, 50, .pointer (some ⟨b_5, 0, none⟩)⟩, ⟨some 2, none, 51, .agg #[.func (.func 96) #[] #[]]⟩, ⟨some 3, none, 52, .slice ((θ 24).p) r_3.length ((θ 24).c)⟩, ⟨some 4, none, 53, .int .i64 r_4⟩, ⟨some 5, none, 54, .slice (subP p_1 c_1 from_.toNat 2) sub.length (c_1 - from_.toNat)⟩, ⟨some 6, none, 55, .pointer (some ⟨b_5, 1, none⟩)⟩, ⟨some 7, none, 56, .agg #[.func (.func 97) #[] #[]]⟩, ⟨some 8, none, 57, .slice ((θ 64).p) r_5.length ((θ 64).c)⟩, ⟨some 9, none, 58, .int .i64 r_6⟩, ⟨some 10, none, 59, .agg #[.int .i64 r_4, .int .i64 r_6]⟩, ⟨some 12, none, 7, .int .i64 0⟩]) (fun E θ => (bif E 8 then .row ((θ 64).p) ((θ 64).c) (r_5.map encI_i64) 3 1 else .row none 0 [] 0 0) :: (bif E 3 then .row ((θ 24).p) ((θ 24).c) (r_3.map encI_i64) 3 1 else .row none 0 [] 0 0) :: .box b_5 [.func (.func 96) #[] #[], .func (.func 97) #[] #[]] 124 :: .row p_1 c_1 (r_2.2.2.1.map enc_api_Span) 30 2 :: .box b_3 [.int .i64 r_2.1, .int .i64 r_2.2.1, .slice r_Days_p r.Days.length r_Days_c, .slice p_1 r_2.2.2.1.length c_1] 120 :: (bif E 11 then .box b_2 [.int .i64 r_4, .int .i64 r_6] 30 else .box b_2 [.int .i64 0, .int .i64 0] 30) :: .box b_1 [.int .i64 r.Rise, .int .i64 r.Fall, .slice r_Days_p r.Days.length r_Days_c] 24 :: Lf) [] (fun a w => ∃ (p_4 : Option Addr) (c_4 : Nat) (p_5 : Option Addr) (c_5 : Nat), Has 60 a [(6, .pointer (some ⟨b_2, 0, none⟩)), (7, .int .i64 0)] ∧ Ctx G (.row p_4 c_4 (r_5.map encI_i64) 3 1 :: .row p_5 c_5 (r_3.map encI_i64) 3 1 :: .box b_5 [.func (.func 96) #[] #[], .func (.func 97) #[] #[]] 124 :: .row p_1 c_1 (r_2.2.2.1.map enc_api_Span) 30 2 :: .box b_3 [.int .i64 r_2.1, .int .i64 r_2.2.1, .slice r_Days_p r.Days.length r_Days_c, .slice p_1 r_2.2.2.1.length c_1] 120 :: .box b_2 [.int .i64 r_4, .int .i64 r_6] 30 :: .box b_1 [.int .i64 r.Rise, .int .i64 r.Fall, .slice r_Days_p r.Days.length r_Days_c] 24 :: Lf) w) follows_mx (by kernel_rfl) (by kernel_rfl) (HasE.of hf ⟨rfl, rfl, rfl, trivial, trivial, trivial, trivial, trivial, trivial, trivial, trivial, trivial, trivial, trivial, trivial, trivial⟩) hc ⟨?_, ?_, ?_, ?_, ?_, ?_, ?_, ?_, ?_, ?_, ?_, ?_, ?_, trivial⟩ ?_ ?_
          · intro E θ a w hD hi hp he hc
            have hf := he.h0
            replace hf := hf.more he 1 rfl onT
            refine stP hf rfl rfl rfl (pM rfl) fun a hf => ?_
            refine cNil ?_
            refine xThenN ?_
            intro ds u hau
            refine ⟨θ, he.put0 hi hau hf rfl 3 rfl rfl, ?_⟩
            exact hc
          · intro E θ a w hD hi hp he hc
            have hf := he.h0
            replace hf := hf.more he 2 rfl onT
            refine stP hf rfl rfl rfl (pIAA Try.underlying124 sz_123 rfl rfl (by decide) (by decide)) fun a hf => ?_
            refine cNil ?_
            refine xThenN ?_
            intro ds u hau
            refine ⟨θ, he.put0 hi hau hf rfl 4 rfl rfl, ?_⟩
            exact hc
          · intro E θ a w hD hi hp he hc
            have e1 := hp.of (k := 1) rfl
            have hf := he.h0
            replace hf := hf.more he 4 rfl (onP e1)
            refine stE hf hc rfl rfl rfl (eLdN (vs := [.func (.func 96) #[] #[]]) ag_123 rfl rfl (cells_box (n := 1) m2 rfl)) fun a w hf hc => ?_
            refine cNil ?_
            refine xThenN ?_
            intro ds u hau
            refine ⟨θ, he.put0 hi hau hf rfl 5 rfl rfl, ?_⟩
            exact hc
          · intro E θ a w hD hi hp he hc
            have e0 := hp.of (k := 0) rfl
            have e2 := hp.of (k := 2) rfl
            try dsimp only at hc
            rw [hi] at hc
            have hf := he.h0
            replace hf := hf.more he 3 rfl (onP e0)
            replace hf := hf.more he 5 rfl (onP e2)
            obtain ⟨G1, hle1, hrd1, hc, hth1⟩ := lend hc k3
            refine stC (vs := [.slice (subP p_1 c_1 from_.toNat 2) sub.length (c_1 - from_.toNat), .agg #[.func (.func 96) #[] #[]]]) (caps := []) hf rfl rfl rfl en_64 rfl rfl rfl rfl (daily_ends_ok sub (Rd.sub hrd1 hsub) hc hr_3) ?_
            rintro _ w ⟨p_2, c_2, rfl, hc⟩
            refine ⟨_, rfl, fun a hf => ?_⟩
            replace hc := hth1 _ _ hc
            refine cNil ?_
            refine xThenN ?_
            intro ds u hau
            replace hc := hc.drop k3
            replace hc := hc.pick k0
            replace hc := hc.pick k3
            replace hc := hc.pick k2
            replace hc := hc.pick k3
            refine ⟨(setT θ 24 ⟨0, p_2, c_2⟩), he.put hi hau hf rfl [] trivial ⟨qq, qq, qq, qq, qq, qq, qq, qq, qq, qq, qq, qq, qq, qq, qq, trivial⟩, ?_⟩
            try dsimp only
            rw [updE_self E 3]
            exact hc
          · intro E θ a w hD hi hp he hc
            have e3 := hp.of (k := 3) rfl
            try dsimp only at hc
            rw [e3] at hc
            have hf := he.h0
            replace hf := hf.more he 6 rfl (onP e3)
            refine stE hf hc rfl rfl rfl (eC (v := .int .i64 r_4) (vs := [.slice ((θ 24).p) r_3.length ((θ 24).c)]) (caps := []) en_63 rfl rfl rfl rfl (fun w hc => by obtain ⟨G1, hle1, hrd1, hc, hth1⟩ := lend hc k1; exact (daily_sum_ok r_3 hrd1 hc hr_4).mono fun e w h => ⟨h.1, ((hth1 _ _ h.2).unpick k1)⟩)) fun a w hf hc => ?_
            refine cNil ?_
            refine xThenN ?_
            intro ds u hau
            refine ⟨θ, he.put0 hi hau hf rfl 7 rfl rfl, ?_⟩
            try dsimp only
            rw [updE_tru 4 e3]
            exact hc
          · intro E θ a w hD hi hp he hc
            have hf := he.h0
            replace hf := hf.more he 1 rfl onT
            refine stP hf rfl rfl rfl (pM rfl) fun a hf => ?_
            refine cNil ?_
            refine xThenN ?_
            intro ds u hau
            refine ⟨θ, he.put0 hi hau hf rfl 8 rfl rfl, ?_⟩
            exact hc
          · intro E θ a w hD hi hp he hc
            have hf := he.h0
            replace hf := hf.more he 2 rfl onT
            refine stP hf rfl rfl rfl (pIAA Try.underlying124 sz_123 rfl rfl (by decide) (by decide)) fun a hf => ?_
            refine cNil ?_
            refine xThenN ?_
            intro ds u hau
            refine ⟨θ, he.put0 hi hau hf rfl 9 rfl rfl, ?_⟩
            exact hc
          · intro E θ a w hD hi hp he hc
            have e6 := hp.of (k := 6) rfl
            have hf := he.h0
            replace hf := hf.more he 9 rfl (onP e6)
            refine stE hf hc rfl rfl rfl (eLdN (vs := [.func (.func 97) #[] #[]]) ag_123 rfl rfl (cells_box (n := 1) m2 rfl)) fun a w hf hc => ?_
            refine cNil ?_
            refine xThenN ?_
            intro ds u hau
            refine ⟨θ, he.put0 hi hau hf rfl 10 rfl rfl, ?_⟩
            exact hc
          · intro E θ a w hD hi hp he hc
            have e5 := hp.of (k := 5) rfl
            have e7 := hp.of (k := 7) rfl
            try dsimp only at hc
            rw [hi] at hc
            have hf := he.h0
            replace hf := hf.more he 8 rfl (onP e5)
            replace hf := hf.more he 10 rfl (onP e7)
            obtain ⟨G1, hle1, hrd1, hc, hth1⟩ := lend hc k3
            refine stC (vs := [.slice (subP p_1 c_1 from_.toNat 2) sub.length (c_1 - from_.toNat), .agg #[.func (.func 97) #[] #[]]]) (caps := []) hf rfl rfl rfl en_64 rfl rfl rfl rfl (daily_ends_s2_ok sub (Rd.sub hrd1 hsub) hc hr_5) ?_
            rintro _ w ⟨p_3, c_3, rfl, hc⟩
            refine ⟨_, rfl, fun a hf => ?_⟩
            replace hc := hth1 _ _ hc
            refine cNil ?_
            refine xThenN ?_
            intro ds u hau
            replace hc := hc.drop k2
            replace hc := hc.pick k0
            replace hc := hc.pick k3
            replace hc := hc.pick k3
            replace hc := hc.pick k3
            refine ⟨(setT θ 64 ⟨0, p_3, c_3⟩), he.put hi hau hf rfl [] trivial ⟨qq, qq, qq, qq, qq, qq, qq, qq, qq, qq, qq, qq, qq, qq, qq, trivial⟩, ?_⟩
            try dsimp only
            rw [updE_self E 8]
            exact hc
          · intro E θ a w hD hi hp he hc
            have e8 := hp.of (k := 8) rfl
            try dsimp only at hc
            rw [e8] at hc
            have hf := he.h0
            replace hf := hf.more he 11 rfl (onP e8)
            refine stE hf hc rfl rfl rfl (eC (v := .int .i64 r_6) (vs := [.slice ((θ 64).p) r_5.length ((θ 64).c)]) (caps := []) en_63 rfl rfl rfl rfl (fun w hc => by obtain ⟨G1, hle1, hrd1, hc, hth1⟩ := lend hc k0; exact (daily_sum_ok r_5 hrd1 hc hr_6).mono fun e w h => ⟨h.1, ((hth1 _ _ h.2).unpick k0)⟩)) fun a w hf hc => ?_
            refine cNil ?_
            refine xThenN ?_
            intro ds u hau
            refine ⟨θ, he.put0 hi hau hf rfl 12 rfl rfl, ?_⟩
            try dsimp only
            rw [updE_tru 9 e8]
            exact hc
          · intro E θ a w hD hi hp he hc
            have e4 := hp.of (k := 4) rfl
            have e9 := hp.of (k := 9) rfl
            have hf := he.h0
            replace hf := hf.more he 7 rfl (onP e4)
            replace hf := hf.more he 12 rfl (onP e9)
            refine stP hf rfl rfl rfl (pBuildS (cells := [.int .i64 r_4, .int .i64 r_6]) bt_30 rfl rfl) fun a hf => ?_
            refine cNil ?_
            refine xThenN ?_
            intro ds u hau
            refine ⟨θ, he.put0 hi hau hf rfl 13 rfl rfl, ?_⟩
            exact hc
          · intro E θ a w hD hi hp he hc
            have e10 := hp.of (k := 10) rfl
            try dsimp only at hc
            rw [hi] at hc
            have hf := he.h0
            replace hf := hf.more he 0 rfl onT
            replace hf := hf.more he 13 rfl (onP e10)
            refine stSt (vs := [.int .i64 r_4, .int .i64 r_6]) hf hc rfl rfl rfl rfl sz_30 rfl rfl u5 fun w hc => ?_
            refine cNil ?_
            refine xThenN ?_
            intro ds u hau
            refine ⟨θ, he.stay0 hi hau hf rfl, ?_⟩
            try dsimp only
            rw [updE_self E 11]
            exact hc
          · intro E θ a w hD hi hp he hc
            have hf := he.h0
            refine stP hf rfl rfl rfl (pA rfl) fun a hf => ?_
            refine cNil ?_
            refine xThenN ?_
            intro ds u hau
            refine ⟨θ, he.put0 hi hau hf rfl 14 rfl rfl, ?_⟩
            exact hc
          · intro E θ a w hall he hc
            have hf := he.h0
            have e3 := hall 3 rfl
            have e8 := hall 8 rfl
            have e11 := hall 11 rfl
            have e12 := hall 12 rfl
            replace hf := hf.more he 14 rfl (onP e12)
            replace hf := hf.more he 0 rfl (onT)
            try dsimp only at hc
            rw [e3, e8, e11] at hc
            exact ⟨(θ 64).p, (θ 64).c, (θ 24).p, (θ 24).c, hf.keep ⟨rfl, rfl, trivial⟩, hc⟩
          rintro a w ⟨p_4, c_4, p_5, c_5, hf, hc⟩
          refine h18 _ _ ?_
          refine wp_ret ?_
          obtain rfl := Option.some.inj hF
          replace hc := hc.drop k6
          replace hc := hc.drop k4
          replace hc := hc.drop k3
          replace hc := hc.drop k2
          replace hc := hc.drop k1
          replace hc := hc.drop k0
          exact fnOut2 (by simp) rfl Try.results15 hf hc (rv_cellN (vs := [.int .i64 r_4, .int .i64 r_6]) ag_30 rfl rfl (cells_box (n := 2) m0 rfl)) (show look _ 7 = _ from rfl) ⟨rfl, (hc.drop k0)⟩

def daily_Clash_b18 (N : Nat) (r : daily_Record) (x : Int) (e_2 : daily_Value) (x_1 : Int) : Option (Step (Int) (Step (Int × Int × Int × Int) (Int × Int × Int))) :=
  cond (decide (x_1 < ((r.Days.length : Nat) : Int)))
  (Option.bind (getI r.Days x_1) fun e_3 =>
  Option.bind (daily_Value_span N e_2) fun r_1 =>
  Option.bind (daily_Value_span N e_3) fun r_2 =>
  cond ((decide (x < x_1)) && ((decide ((W (r_1.Hi + (W (r.Rise * (W (x_1 - x)))))) < r_2.Lo)) || (decide (r_2.Hi < (W (r_1.Lo - (W (r.Fall * (W (x_1 - x))))))))))
  (some (.ret (.brk (x, x_1, 0, x))))
  (some (.cont (W (x_1 + 1)))))
  (some (.brk x_1))
def daily_Clash_b10 (N : Nat) (r : daily_Record) (a_1 : Int) (b_2 : Int) (e_1 : Int) (x : Int) : Option (Step (Int × Int × Int × Int) (Int × Int × Int)) :=
  cond (decide (x < ((r.Days.length : Nat) : Int)))
  (Option.bind (getI r.Days x) fun e_2 =>
  Option.bind (loopO (fun s18 => daily_Clash_b18 N r x e_2 s18) N 0) fun x18 =>
  exK x18 (fun s18 => some (.cont (a_1, b_2, e_1, W (x + 1)))) some)
  (some (.brk (a_1, b_2, e_1, x)))
def daily_Clash (N : Nat) (r : daily_Record) : Option (Int × Int × Int) :=
  Option.bind (daily_Check N r) fun r_0 =>
  cond (r_0 != 0)
  (some (0, 0, r_0))
  (Option.bind (loopO (fun s10 => daily_Clash_b10 N r s10.1 s10.2.1 s10.2.2.1 s10.2.2.2) N (0, 0, 5, 0)) fun x10 =>
  exK x10 (fun s10 => some (s10.1, s10.2.1, s10.2.2.1)) some)
theorem daily_Clash_ok {N : Nat} {G : Pers} {Lf : List Ent} {w : World} (r : daily_Record) {r_Days_p : Option Addr} {r_Days_c : Nat} (h_r_Days : Rd G 3 r_Days_p r_Days_c (r.Days.map enc_daily_Value)) (hc : Ctx G (Lf) w) {res : Int × Int × Int} (hF : daily_Clash N r = some res) : Calls Try.prog 28 #[.agg #[.int .i64 r.Rise, .int .i64 r.Fall, .slice r_Days_p r.Days.length r_Days_c]] w (fun e w => e = .returned (.tuple #[.int .i64 res.1, .int .i64 res.2.1, .int .i64 res.2.2]) ∧ Ctx G (Lf) w) := by
  unfold daily_Clash at hF
  refine fnIn (args := [.agg #[.int .i64 r.Rise, .int .i64 r.Fall, .slice r_Days_p r.Days.length r_Days_c]]) Try.func28 rfl Try.ntmps28 rfl fun a hf => ?_
  refine wp_seq_k fun K1 h1 => ?_
  refine cReg ?_
  refine stBx (cs := [.int .i64 r.Rise, .int .i64 r.Fall, .slice r_Days_p r.Days.length r_Days_c]) hf hc rfl rfl rfl rfl fun b_1 a w hf hc => ?_
  refine stP hf rfl rfl rfl (pA rfl) fun a hf => ?_
  refine stP hf rfl rfl rfl (pA rfl) fun a hf => ?_
  refine stP hf rfl rfl rfl (pA rfl) fun a hf => ?_
  refine cNil ?_
  refine h1 _ _ ?_
  refine wp_scope_straight ?_
  refine wp_seq_k fun K2 h2 => ?_
  refine wp_seq_k fun K3 h3 => ?_
  refine cReg ?_
  refine stE hf hc rfl rfl rfl (eLdN (vs := [.int .i64 r.Rise, .int .i64 r.Fall, .slice r_Days_p r.Days.length r_Days_c]) ag_24 rfl rfl (cells_box (n := 3) m0 rfl)) fun a w hf hc => ?_
  obtain ⟨r_0, hr_0, hF⟩ := bnd_some hF
  refine stE hf hc rfl rfl rfl (eC (v := .int .i64 r_0) (vs := [.agg #[.int .i64 r.Rise, .int .i64 r.Fall, .slice r_Days_p r.Days.length r_Days_c]]) (caps := []) en_34 rfl rfl rfl rfl (fun w hc => daily_Check_ok r h_r_Days hc hr_0)) fun a w hf hc => ?_
  refine stP hf rfl rfl rfl (pA rfl) fun a hf => ?_
  refine cNil ?_
  refine h3 _ _ ?_
  refine wp_seq_k fun K4 h4 => ?_
  refine cReg ?_
  refine stP hf rfl rfl rfl (pM rfl) fun a hf => ?_
  refine stP hf rfl rfl rfl (pNe rfl rfl) fun a hf => ?_
  refine cNil ?_
  refine h4 _ _ ?_
  refine cCond (b := (r_0 != 0)) hf rfl (fun hb => ?_) (fun hb => ?_)
  · replace hF := condT hb hF
    clear hb
    refine wp_seq_k fun K5 h5 => ?_
    refine cReg ?_
    refine stP hf rfl rfl rfl (pM rfl) fun a hf => ?_
    refine stP hf rfl rfl rfl (pA rfl) fun a hf => ?_
    refine stP hf rfl rfl rfl (pA rfl) fun a hf => ?_
    refine stP hf rfl rfl rfl (pA rfl) fun a hf => ?_
    refine cNil ?_
    refine h5 _ _ ?_
    refine wp_ret ?_
    refine xThenR ?_
    refine xScopeR ?_
    obtain rfl := Option.some.inj hF
    replace hc := hc.drop k0
    exact fnOut3 (by simp) rfl Try.results28 hf hc (show look _ 2 = _ from rfl) (show look _ 3 = _ from rfl) (show look _ 4 = _ from rfl) ⟨rfl, hc⟩
  · replace hF := condF hb hF
    clear hb
    refine wp_skip ?_
    refine h2 _ _ ?_
    refine wp_seq_k fun K6 h6 => ?_
    refine cReg ?_
    refine stP hf rfl rfl rfl (pA rfl) fun a hf => ?_
    refine stP hf rfl rfl rfl (pA rfl) fun a hf => ?_
    refine stP hf rfl rfl rfl (pA rfl) fun a hf => ?_
    refine cNil ?_
    refine h6 _ _ ?_
    refine wp_seq_k fun K7 h7 => ?_
    refine wp_label ?_
    refine h7 _ _ ?_
    refine wp_seq_k fun K8 h8 => ?_
    refine wp_seq_k fun K9 h9 => ?_
    refine cReg ?_
    refine stP hf rfl rfl rfl (pFA fa_24_2 rfl) fun a hf => ?_
    refine stE hf hc rfl rfl rfl (eLd1 sc_22 rfl (cell_box m0 rfl)) fun a w hf hc => ?_
    refine stP hf rfl rfl rfl (pLenS Try.underlying22 rfl) fun a hf => ?_
    refine stP hf rfl rfl rfl (pM rfl) fun a hf => ?_
    refine cNil ?_
    refine h9 _ _ ?_
    refine wp_block ?_
    obtain ⟨x10, hx10, hF⟩ := bnd_some hF
    let S10 : (Int × Int × Int × Int) → Act → World → Prop := (fun (zz : Int × Int × Int × Int) a w => Has 78 a [(1, .pointer (some ⟨b_1, 0, none⟩)), (6, .int .i64 zz.1), (7, .int .i64 zz.2.1), (8, .int .i64 zz.2.2.1), (21, .slice r_Days_p r.Days.length r_Days_c), (22, .int .i64 ((r.Days.length : Nat) : Int)), (23, .int .i64 zz.2.2.2)] ∧ Ctx G (.box b_1 [.int .i64 r.Rise, .int .i64 r.Fall, .slice r_Days_p r.Days.length r_Days_c] 24 :: Lf) w)
    have hr10 : ∀ (zz : Int × Int × Int × Int) a w, x10 = .go zz → S10 zz a w → K8 a w := by
      rintro ⟨a_1, b_2, e_1, x⟩ a w rfl ⟨hf, hc⟩
      replace hF := exK_go hF
      refine h8 _ _ ?_
      refine wp_seq_k fun K11 h11 => ?_
      refine cReg ?_
      refine stP hf rfl rfl rfl (pM rfl) fun a hf => ?_
      refine stP hf rfl rfl rfl (pM rfl) fun a hf => ?_
      refine stP hf rfl rfl rfl (pM rfl) fun a hf => ?_
      refine stP hf rfl rfl rfl (pA rfl) fun a hf => ?_
      refine stP hf rfl rfl rfl (pA rfl) fun a hf => ?_
      refine stP hf rfl rfl rfl (pA rfl) fun a hf => ?_
      refine cNil ?_
      refine h11 _ _ ?_
      refine wp_ret ?_
      refine xScopeR ?_
      obtain rfl := Option.some.inj hF
      replace hc := hc.drop k0
      exact fnOut3 (by simp) rfl Try.results28 hf hc (show look _ 2 = _ from rfl) (show look _ 3 = _ from rfl) (show look _ 4 = _ from rfl) ⟨rfl, hc⟩
    have ho10 : ∀ r, x10 = .out r → r = res := by
      rintro r rfl
      exact Option.some.inj hF
    refine cLoop N (loopW (S := S10) (x := x10) ?_ N (0, 0, 5, 0) _ _ ⟨hf.keep ⟨rfl, rfl, rfl, rfl, rfl, rfl, rfl, trivial⟩, hc⟩ hx10)
    clear hF hf hc
    rintro ⟨a_1, b_2, e_1, x⟩ st10 a w KB10 ⟨hf, hc⟩ hF hfin10 hK10
    unfold daily_Clash_b10 at hF
    refine wp_seq_k fun K12 h12 => ?_
    refine cReg ?_
    refine stP hf rfl rfl rfl (pLt rfl rfl) fun a hf => ?_
    refine cNil ?_
    refine h12 _ _ ?_
    refine wp_seq_k fun K13 h13 => ?_
    refine cCond (b := (decide (x < ((r.Days.length : Nat) : Int)))) hf rfl (fun hb => ?_) (fun hb => ?_)
    · replace hF := condT hb hF
      clear hb
      refine wp_skip ?_
      refine h13 _ _ ?_
      refine wp_seq_k fun K14 h14 => ?_
      refine wp_block ?_
      refine wp_seq_k fun K15 h15 => ?_
      refine cReg ?_
      refine stP hf rfl rfl rfl (pM rfl) fun a hf => ?_
      obtain ⟨e_2, he_2, hF⟩ := bnd_some hF
      obtain ⟨b_3, o, qa, qp⟩ := h_r_Days.atm he_2
      refine stP hf rfl rfl rfl (pIA Try.underlying22 sz_56 rfl rfl qa) fun a hf => ?_
      refine stE hf hc rfl rfl rfl (eLdN (vs := [.bool e_2.Known, .int .i64 e_2.Flow.Lo, .int .i64 e_2.Flow.Hi]) ag_56 rfl rfl (cells_pc qp (n := 3) (o' := 0) rfl)) fun a w hf hc => ?_
      refine stAl (cs := [.bool false, .int .i64 0, .int .i64 0]) hf hc rfl rfl zr_56 rfl fun b_4 a w hf hc => ?_
      refine stP hf rfl rfl rfl (pA rfl) fun a hf => ?_
      refine stSt (vs := [.bool e_2.Known, .int .i64 e_2.Flow.Lo, .int .i64 e_2.Flow.Hi]) hf hc rfl rfl rfl rfl sz_56 rfl rfl u0 fun w hc => ?_
      refine cNil ?_
      refine h15 _ _ ?_
      refine wp_seq_k fun K16 h16 => ?_
      refine cReg ?_
      refine stP hf rfl rfl rfl (pFA fa_24_2 rfl) fun a hf => ?_
      refine stE hf hc rfl rfl rfl (eLd1 sc_22 rfl (cell_box m1 rfl)) fun a w hf hc => ?_
      refine stP hf rfl rfl rfl (pLenS Try.underlying22 rfl) fun a hf => ?_
      refine stP hf rfl rfl rfl (pM rfl) fun a hf => ?_
      refine cNil ?_
      refine h16 _ _ ?_
      refine wp_thenK fun K17 h17 => ?_
      refine wp_block ?_
      obtain ⟨x18, hx18, hF⟩ := bnd_some hF
      let S18 : Int → Act → World → Prop := (fun (zz : Int) a w => Has 78 a [(1, .pointer (some ⟨b_1, 0, none⟩)), (6, .int .i64 a_1), (7, .int .i64 b_2), (8, .int .i64 e_1), (9, .int .i64 x), (10, .pointer (some ⟨b_4, 0, none⟩)), (21, .slice r_Days_p r.Days.length r_Days_c), (22, .int .i64 ((r.Days.length : Nat) : Int)), (23, .int .i64 x), (29, .slice r_Days_p r.Days.length r_Days_c), (30, .int .i64 ((r.Days.length : Nat) : Int)), (31, .int .i64 zz)] ∧ Ctx G (.box b_4 [.bool e_2.Known, .int .i64 e_2.Flow.Lo, .int .i64 e_2.Flow.Hi] 56 :: .box b_1 [.int .i64 r.Rise, .int .i64 r.Fall, .slice r_Days_p r.Days.length r_Days_c] 24 :: Lf) w)
      have hr18 : ∀ (zz : Int) a w, x18 = .go zz → S18 zz a w → K17 a w := by
        rintro x_1 a w rfl ⟨hf, hc⟩
        replace hF := exK_go hF
        refine h17 _ _ ?_
        refine h14 _ _ ?_
        refine cReg ?_
        refine stP hf rfl rfl rfl (pAdd rfl rfl) fun a hf => ?_
        refine stP hf rfl rfl rfl (pM rfl) fun a hf => ?_
        refine cNil ?_
        replace hc := hc.drop k0
        exact hK10 (a_1, b_2, e_1, W (x + 1)) _ _ (Option.some.inj hF).symm ⟨hf.keep ⟨rfl, rfl, rfl, rfl, rfl, rfl, rfl, trivial⟩, hc⟩
      have ho18 : ∀ r, x18 = .out r → r = st10 := by
        rintro r rfl
        exact Option.some.inj hF
      refine cLoop N (loopW (S := S18) (x := x18) ?_ N 0 _ _ ⟨hf.keep ⟨rfl, rfl, rfl, rfl, rfl, rfl, rfl, rfl, rfl, rfl, rfl, rfl, trivial⟩, hc⟩ hx18)
      clear hF hf hc
      rintro x_1 st18 a w KB18 ⟨hf, hc⟩ hF hfin18 hK18
      unfold daily_Clash_b18 at hF
      refine wp_seq_k fun K19 h19 => ?_
      refine cReg ?_
      refine stP hf rfl rfl rfl (pLt rfl rfl) fun a hf => ?_
      refine cNil ?_
      refine h19 _ _ ?_
      refine wp_seq_k fun K20 h20 => ?_
      refine cCond (b := (decide (x_1 < ((r.Days.length : Nat) : Int)))) hf rfl (fun hb => ?_) (fun hb => ?_)
      · replace hF := condT hb hF
        clear hb
        refine wp_skip ?_
        refine h20 _ _ ?_
        refine wp_seq_k fun K21 h21 => ?_
        refine wp_block ?_
        refine wp_seq_k fun K22 h22 => ?_
        refine cReg ?_
        refine stP hf rfl rfl rfl (pM rfl) fun a hf => ?_
        obtain ⟨e_3, he_3, hF⟩ := bnd_some hF
        obtain ⟨b_5, o_1, qa_1, qp_1⟩ := h_r_Days.atm he_3
        refine stP hf rfl rfl rfl (pIA Try.underlying22 sz_56 rfl rfl qa_1) fun a hf => ?_
        refine stE hf hc rfl rfl rfl (eLdN (vs := [.bool e_3.Known, .int .i64 e_3.Flow.Lo, .int .i64 e_3.Flow.Hi]) ag_56 rfl rfl (cells_pc qp_1 (n := 3) (o' := 0) rfl)) fun a w hf hc => ?_
        refine stAl (cs := [.bool false, .int .i64 0, .int .i64 0]) hf hc rfl rfl zr_56 rfl fun b_6 a w hf hc => ?_
        refine stP hf rfl rfl rfl (pA rfl) fun a hf => ?_
        refine stSt (vs := [.bool e_3.Known, .int .i64 e_3.Flow.Lo, .int .i64 e_3.Flow.Hi]) hf hc rfl rfl rfl rfl sz_56 rfl rfl u0 fun w hc => ?_
        refine cNil ?_
        refine h22 _ _ ?_
        refine wp_seq_k fun K23 h23 => ?_
        obtain ⟨r_1, hr_1, hF⟩ := bnd_some hF
        obtain ⟨r_2, hr_2, hF⟩ := bnd_some hF
        replace hc := hc.nilRow 0 0
        replace hc := hc.nilRow 0 0
        refine regionE (fun θ => [⟨none, none, 1, .pointer (some ⟨b_1, 0, none⟩)⟩, ⟨none, none, 6, .int .i64 a_1⟩, ⟨none, none, 7, .int .i64 b_2⟩, ⟨none, none, 8, .int .i64 e_1⟩, ⟨none, none, 9, .int .i64 x⟩, ⟨none, none, 10, .pointer (some ⟨b_4, 0, none⟩)⟩, ⟨none, none, 11, .int .i64 x_1⟩, ⟨none, none, 12, .pointer (some ⟨b_6, 0, none⟩)⟩, ⟨none, none, 21, .slice r_Days_p r.Days.length r_Days_c⟩, ⟨none, none, 22, .int .i64 ((r.Days.length : Nat) : Int)⟩, ⟨none, none, 23, .int .i64 x⟩, ⟨none, none, 29, .slice r_Days_p r.Days.length r_Days_c⟩, ⟨none, none, 30, .int .i64 ((r.Days.length : Nat) : Int)⟩, ⟨none, none, 31, .int .i64 x_1⟩, ⟨some 0, none, 36, .agg #[.bool e_2.Known, .int .i64 e_2.Flow.Lo, .int .i64 e_2.Flow.Hi]⟩, ⟨some 1, none, 37, .agg #[.int .i64 r_1.Lo, .int .i64 r_1.Hi]⟩, ⟨some 2, none, 38, .agg #[.bool e_3.Known, .int .i64 e_3.Flow.Lo, .int .i64 e_3.Flow.Hi]⟩, ⟨some 3, none, 39, .agg #[.int .i64 r_2.Lo, .int .i64 r_2.Hi]⟩, ⟨some 4, none, 13, .pointer (some ⟨(θ 32).b, 0, none⟩)⟩, ⟨some 5, none, 14, .pointer (some ⟨(θ 40).b, 0, none⟩)⟩]) (fun E θ => (bif E 7 then .box (θ 40).b [.int .i64 r_2.Lo, .int .i64 r_2.Hi] 30 else bif E 5 then .box (θ 40).b [.int .i64 0, .int .i64 0] 30 else .row none 0 [] 0 0) :: (bif E 6 then .box (θ 32).b [.int .i64 r_1.Lo, .int .i64 r_1.Hi] 30 else bif E 4 then .box (θ 32).b [.int .i64 0, .int .i64 0] 30 else .row none 0 [] 0 0) :: .box b_6 [.bool e_3.Known, .int .i64 e_3.Flow.Lo, .int .i64 e_3.Flow.Hi] 56 :: .box b_4 [.bool e_2.Known, .int .i64 e_2.Flow.Lo, .int .i64 e_2.Flow.Hi] 56 :: .box b_1 [.int .i64 r.Rise, .int .i64 r.Fall, .slice r_Days_p r.Days.length r_Days_c] 24 :: Lf) [(6, 4), (7, 5)] (fun a w => ∃ (b_9 : Nat) (b_10 : Nat), Has 78 a [(1, .pointer (some ⟨b_1, 0, none⟩)), (6, .int .i64 a_1), (7, .int .i64 b_2), (8, .int .i64 e_1), (9, .int .i64 x), (10, .pointer (some ⟨b_4, 0, none⟩)), (11, .int .i64 x_1), (21, .slice r_Days_p r.Days.length r_Days_c), (22, .int .i64 ((r.Days.length : Nat) : Int)), (23, .int .i64 x), (29, .slice r_Days_p r.Days.length r_Days_c), (30, .int .i64 ((r.Days.length : Nat) : Int)), (31, .int .i64 x_1), (13, .pointer (some ⟨b_9, 0, none⟩)), (14, .pointer (some ⟨b_10, 0, none⟩))] ∧ Ctx G (.box b_10 [.int .i64 r_2.Lo, .int .i64 r_2.Hi] 30 :: .box b_9 [.int .i64 r_1.Lo, .int .i64 r_1.Hi] 30 :: .box b_6 [.bool e_3.Known, .int .i64 e_3.Flow.Lo, .int .i64 e_3.Flow.Hi] 56 :: .box b_4 [.bool e_2.Known, .int .i64 e_2.Flow.Lo, .int .i64 e_2.Flow.Hi] 56 :: .box b_1 [.int .i64 r.Rise, .int .i64 r.Fall, .slice r_Days_p r.Days.length r_Days_c] 24 :: Lf) w) follows_mx (by kernel_rfl) (by kernel_rfl) (HasE.of hf ⟨rfl, rfl, rfl, rfl, rfl, rfl, rfl, rfl, rfl, rfl, rfl, rfl, rfl, rfl, trivial, trivial, trivial, trivial, trivial, trivial, trivial⟩) hc ⟨?_, ?_, ?_, ?_, ?_, ?_, ?_, ?_, trivial⟩ ?_ ?_
        · intro E θ a w hD hi hp he hc
          have hf := he.h0
          replace hf := hf.more he 5 rfl onT
          refine stE hf hc rfl rfl rfl (eLdN (vs := [.bool e_2.Known, .int .i64 e_2.Flow.Lo, .int .i64 e_2.Flow.Hi]) ag_56 rfl rfl (cells_box (n := 3) m3 rfl)) fun a w hf hc => ?_
          refine cNil ?_
          refine xThenN ?_
          intro ds u hau
          refine ⟨θ, he.put0 hi hau hf rfl 14 rfl rfl, ?_⟩
          exact hc
        · intro E θ a w hD hi hp he hc
          have e0 := hp.of (k := 0) rfl
          have hf := he.h0
          replace hf := hf.more he 14 rfl (onP e0)
          refine stE hf hc rfl rfl rfl (eC (v := .agg #[.int .i64 r_1.Lo, .int .i64 r_1.Hi]) (vs := [.agg #[.bool e_2.Known, .int .i64 e_2.Flow.Lo, .int .i64 e_2.Flow.Hi]]) (caps := []) en_72 rfl rfl rfl rfl (fun w hc => daily_Value_span_ok e_2 hc hr_1)) fun a w hf hc => ?_
          refine cNil ?_
          refine xThenN ?_
          intro ds u hau
          refine ⟨θ, he.put0 hi hau hf rfl 15 rfl rfl, ?_⟩
          exact hc
        · intro E θ a w hD hi hp he hc
          have hf := he.h0
          replace hf := hf.more he 7 rfl onT
          refine stE hf hc rfl rfl rfl (eLdN (vs := [.bool e_3.Known, .int .i64 e_3.Flow.Lo, .int .i64 e_3.Flow.Hi]) ag_56 rfl rfl (cells_box (n := 3) m2 rfl)) fun a w hf hc => ?_
          refine cNil ?_
          refine xThenN ?_
          intro ds u hau
          refine ⟨θ, he.put0 hi hau hf rfl 16 rfl rfl, ?_⟩
          exact hc
        · intro E θ a w hD hi hp he hc
          have e2 := hp.of (k := 2) rfl
          have hf := he.h0
          replace hf := hf.more he 16 rfl (onP e2)
          refine stE hf hc rfl rfl rfl (eC (v := .agg #[.int .i64 r_2.Lo, .int .i64 r_2.Hi]) (vs := [.agg #[.bool e_3.Known, .int .i64 e_3.Flow.Lo, .int .i64 e_3.Flow.Hi]]) (caps := []) en_72 rfl rfl rfl rfl (fun w hc => daily_Value_span_ok e_3 hc hr_2)) fun a w hf hc => ?_
          refine cNil ?_
          refine xThenN ?_
          intro ds u hau
          refine ⟨θ, he.put0 hi hau hf rfl 17 rfl rfl, ?_⟩
          exact hc
        · intro E θ a w hD hi hp he hc
          have e6 := hD.f 0 rfl hi
          try dsimp only at hc
          rw [hi, e6] at hc
          have hf := he.h0
          refine stAl (cs := [.int .i64 0, .int .i64 0]) hf hc rfl rfl zr_30 rfl fun b_7 a w hf hc => ?_
          refine cNil ?_
          refine xThenN ?_
          intro ds u hau
          replace hc := hc.drop k2
          replace hc := hc.pick k0
          replace hc := hc.pick k1
          refine ⟨(setT θ 32 ⟨b_7, none, 0⟩), he.put hi hau hf rfl [] trivial ⟨qq, qq, qq, qq, qq, qq, qq, qq, qq, qq, qq, qq, qq, qq, qq, qq, qq, qq, qq, qq, trivial⟩, ?_⟩
          try dsimp only
          rw [updE_self E 4, updE_fls 4 e6 rfl]
          exact hc
        · intro E θ a w hD hi hp he hc
          have e7 := hD.f 1 rfl hi
          try dsimp only at hc
          rw [hi, e7] at hc
          have hf := he.h0
          refine stAl (cs := [.int .i64 0, .int .i64 0]) hf hc rfl rfl zr_30 rfl fun b_8 a w hf hc => ?_
          refine cNil ?_
          refine xThenN ?_
          intro ds u hau
          replace hc := hc.drop k1
          refine ⟨(setT θ 40 ⟨b_8, none, 0⟩), he.put hi hau hf rfl [] trivial ⟨qq, qq, qq, qq, qq, qq, qq, qq, qq, qq, qq, qq, qq, qq, qq, qq, qq, qq, qq, qq, trivial⟩, ?_⟩
          try dsimp only
          rw [updE_self E 5, updE_fls 5 e7 rfl]
          exact hc
        · intro E θ a w hD hi hp he hc
          have e1 := hp.of (k := 1) rfl
          have e4 := hp.of (k := 4) rfl
          try dsimp only at hc
          rw [e4, hi] at hc
          have hf := he.h0
          replace hf := hf.more he 15 rfl (onP e1)
          replace hf := hf.more he 18 rfl (onP e4)
          refine stSt (vs := [.int .i64 r_1.Lo, .int .i64 r_1.Hi]) hf hc rfl rfl rfl rfl sz_30 rfl rfl u1 fun w hc => ?_
          refine cNil ?_
          refine xThenN ?_
          intro ds u hau
          refine ⟨θ, he.stay0 hi hau hf rfl, ?_⟩
          try dsimp only
          rw [updE_tru 6 e4, updE_self E 6]
          exact hc
        · intro E θ a w hD hi hp he hc
          have e3 := hp.of (k := 3) rfl
          have e5 := hp.of (k := 5) rfl
          try dsimp only at hc
          rw [e5, hi] at hc
          have hf := he.h0
          replace hf := hf.more he 17 rfl (onP e3)
          replace hf := hf.more he 19 rfl (onP e5)
          refine stSt (vs := [.int .i64 r_2.Lo, .int .i64 r_2.Hi]) hf hc rfl rfl rfl rfl sz_30 rfl rfl u0 fun w hc => ?_
          refine cNil ?_
          refine xThenN ?_
          intro ds u hau
          refine ⟨θ, he.stay0 hi hau hf rfl, ?_⟩
          try dsimp only
          rw [updE_tru 7 e5, updE_self E 7]
          exact hc
        · intro E θ a w hall he hc
          have hf := he.h0
          have e4 := hall 4 rfl
          have e5 := hall 5 rfl
          have e6 := hall 6 rfl
          have e7 := hall 7 rfl
          replace hf := hf.more he 19 rfl (onP e5)
          replace hf := hf.more he 18 rfl (onP e4)
          replace hf := hf.more he 13 rfl (onT)
          replace hf := hf.more he 12 rfl (onT)
          replace hf := hf.more he 11 rfl (onT)
          replace hf := hf.more he 10 rfl (onT)
          replace hf := hf.more he 9 rfl (onT)
          replace hf := hf.more he 8 rfl (onT)
          replace hf := hf.more he 6 rfl (onT)
          replace hf := hf.more he 5 rfl (onT)
          replace hf := hf.more he 4 rfl (onT)
          replace hf := hf.more he 3 rfl (onT)
          replace hf := hf.more he 2 rfl (onT)
          replace hf := hf.more he 1 rfl (onT)
          replace hf := hf.more he 0 rfl (onT)
          try dsimp only at hc
          rw [e4, e5, e6, e7] at hc
          exact ⟨(θ 32).b, (θ 40).b, hf.keep ⟨rfl, rfl, rfl, rfl, rfl, rfl, rfl, rfl, rfl, rfl, rfl, rfl, rfl, rfl, rfl, trivial⟩, hc⟩
        rintro a w ⟨b_9, b_10, hf, hc⟩
        refine h23 _ _ ?_
        refine wp_seq_k fun K24 h24 => ?_
        refine cReg ?_
        refine stP hf rfl rfl rfl (pM rfl) fun a hf => ?_
        refine stP hf rfl rfl rfl (pM rfl) fun a hf => ?_
        refine stP hf rfl rfl rfl (pGt rfl rfl) fun a hf => ?_
        refine stP hf rfl rfl rfl (pM rfl) fun a hf => ?_
        refine stCut 27 (fun a w => Has 78 a [(1, .pointer (some ⟨b_1, 0, none⟩)), (6, .int .i64 a_1), (7, .int .i64 b_2), (8, .int .i64 e_1), (9, .int .i64 x), (10, .pointer (some ⟨b_4, 0, none⟩)), (11, .int .i64 x_1), (21, .slice r_Days_p r.Days.length r_Days_c), (22, .int .i64 ((r.Days.length : Nat) : Int)), (23, .int .i64 x), (29, .slice r_Days_p r.Days.length r_Days_c), (30, .int .i64 ((r.Days.length : Nat) : Int)), (31, .int .i64 x_1), (13, .pointer (some ⟨b_9, 0, none⟩)), (14, .pointer (some ⟨b_10, 0, none⟩)), (40, .int .i64 x_1), (41, .int .i64 x), (42, .bool (decide (x < x_1))), (43, .bool (decide (x < x_1))), (70, .bool ((decide (x < x_1)) && ((decide ((W (r_1.Hi + (W (r.Rise * (W (x_1 - x)))))) < r_2.Lo)) || (decide (r_2.Hi < (W (r_1.Lo - (W (r.Fall * (W (x_1 - x)))))))))))] ∧ Ctx G (.box b_10 [.int .i64 r_2.Lo, .int .i64 r_2.Hi] 30 :: .box b_9 [.int .i64 r_1.Lo, .int .i64 r_1.Hi] 30 :: .box b_6 [.bool e_3.Known, .int .i64 e_3.Flow.Lo, .int .i64 e_3.Flow.Hi] 56 :: .box b_4 [.bool e_2.Known, .int .i64 e_2.Flow.Lo, .int .i64 e_2.Flow.Hi] 56 :: .box b_1 [.int .i64 r.Rise, .int .i64 r.Fall, .slice r_Days_p r.Days.length r_Days_c] 24 :: Lf) w) ?_ ?_
        · cases hb : (decide (x < x_1))
          · rw [hb] at hf
            refine stS hf rfl rfl rfl fun a hf => ?_
            refine stS hf rfl rfl rfl fun a hf => ?_
            refine stS hf rfl rfl rfl fun a hf => ?_
            refine stS hf rfl rfl rfl fun a hf => ?_
            refine stS hf rfl rfl rfl fun a hf => ?_
            refine stS hf rfl rfl rfl fun a hf => ?_
            refine stS hf rfl rfl rfl fun a hf => ?_
            refine stS hf rfl rfl rfl fun a hf => ?_
            refine stS hf rfl rfl rfl fun a hf => ?_
            refine stS hf rfl rfl rfl fun a hf => ?_
            refine stS hf rfl rfl rfl fun a hf => ?_
            refine stS hf rfl rfl rfl fun a hf => ?_
            refine stS hf rfl rfl rfl fun a hf => ?_
            refine stS hf rfl rfl rfl fun a hf => ?_
            refine stS hf rfl rfl rfl fun a hf => ?_
            refine stS hf rfl rfl rfl fun a hf => ?_
            refine stS hf rfl rfl rfl fun a hf => ?_
            refine stS hf rfl rfl rfl fun a hf => ?_
            refine stS hf rfl rfl rfl fun a hf => ?_
            refine stS hf rfl rfl rfl fun a hf => ?_
            refine stS hf rfl rfl rfl fun a hf => ?_
            refine stS hf rfl rfl rfl fun a hf => ?_
            refine stS hf rfl rfl rfl fun a hf => ?_
            refine stS hf rfl rfl rfl fun a hf => ?_
            refine stS hf rfl rfl rfl fun a hf => ?_
            refine stS hf rfl rfl rfl fun a hf => ?_
            refine stP hf rfl rfl rfl (pPf rfl rfl) fun a hf => ?_
            exact cNil ⟨hf.keep ⟨rfl, rfl, rfl, rfl, rfl, rfl, rfl, rfl, rfl, rfl, rfl, rfl, rfl, rfl, rfl, rfl, rfl, rfl, rfl, rfl, trivial⟩, hc⟩
          · rw [hb] at hf
            refine stP hf rfl rfl rfl (pFA fa_30_1 rfl) fun a hf => ?_
            refine stE hf hc rfl rfl rfl (eLd1 sc_3 rfl (cell_box m1 rfl)) fun a w hf hc => ?_
            refine stP hf rfl rfl rfl (pFA fa_24_0 rfl) fun a hf => ?_
            refine stE hf hc rfl rfl rfl (eLd1 sc_3 rfl (cell_box m4 rfl)) fun a w hf hc => ?_
            refine stP hf rfl rfl rfl (pM rfl) fun a hf => ?_
            refine stP hf rfl rfl rfl (pM rfl) fun a hf => ?_
            refine stP hf rfl rfl rfl (pSub rfl rfl) fun a hf => ?_
            refine stP hf rfl rfl rfl (pMul rfl rfl) fun a hf => ?_
            refine stP hf rfl rfl rfl (pAdd rfl rfl) fun a hf => ?_
            refine stP hf rfl rfl rfl (pFA fa_30_0 rfl) fun a hf => ?_
            refine stE hf hc rfl rfl rfl (eLd1 sc_3 rfl (cell_box m0 rfl)) fun a w hf hc => ?_
            refine stP hf rfl rfl rfl (pLt rfl rfl) fun a hf => ?_
            refine stP hf rfl rfl rfl (pM rfl) fun a hf => ?_
            refine stCut 13 (fun a w => Has 78 a ((1, .pointer (some ⟨b_1, 0, none⟩)) :: (6, .int .i64 a_1) :: (7, .int .i64 b_2) :: (8, .int .i64 e_1) :: (9, .int .i64 x) :: (10, .pointer (some ⟨b_4, 0, none⟩)) :: (11, .int .i64 x_1) :: (21, .slice r_Days_p r.Days.length r_Days_c) :: (22, .int .i64 ((r.Days.length : Nat) : Int)) :: (23, .int .i64 x) :: (29, .slice r_Days_p r.Days.length r_Days_c) :: (30, .int .i64 ((r.Days.length : Nat) : Int)) :: (31, .int .i64 x_1) :: (13, .pointer (some ⟨b_9, 0, none⟩)) :: (14, .pointer (some ⟨b_10, 0, none⟩)) :: (40, .int .i64 x_1) :: (41, .int .i64 x) :: (42, .bool true) :: (43, .bool true) :: (44, .pointer (some ⟨b_9, 1, none⟩)) :: (45, .int .i64 r_1.Hi) :: (46, .pointer (some ⟨b_1, 0, none⟩)) :: (47, .int .i64 r.Rise) :: (48, .int .i64 x_1) :: (49, .int .i64 x) :: (50, .int .i64 (W (x_1 - x))) :: (51, .int .i64 (W (r.Rise * (W (x_1 - x))))) :: (52, .int .i64 (W (r_1.Hi + (W (r.Rise * (W (x_1 - x))))))) :: (53, .pointer (some ⟨b_10, 0, none⟩)) :: (54, .int .i64 r_2.Lo) :: (55, .bool (decide ((W (r_1.Hi + (W (r.Rise * (W (x_1 - x)))))) < r_2.Lo))) :: (56, .bool (decide ((W (r_1.Hi + (W (r.Rise * (W (x_1 - x)))))) < r_2.Lo))) :: (69, .bool ((decide ((W (r_1.Hi + (W (r.Rise * (W (x_1 - x)))))) < r_2.Lo)) || (decide (r_2.Hi < (W (r_1.Lo - (W (r.Fall * (W (x_1 - x)))))))))) :: []) ∧ Ctx G (.box b_10 [.int .i64 r_2.Lo, .int .i64 r_2.Hi] 30 :: .box b_9 [.int .i64 r_1.Lo, .int .i64 r_1.Hi] 30 :: .box b_6 [.bool e_3.Known, .int .i64 e_3.Flow.Lo, .int .i64 e_3.Flow.Hi] 56 :: .box b_4 [.bool e_2.Known, .int .i64 e_2.Flow.Lo, .int .i64 e_2.Flow.Hi] 56 :: .box b_1 [.int .i64 r.Rise, .int .i64 r.Fall, .slice r_Days_p r.Days.length r_Days_c] 24 :: Lf) w) ?_ ?_
            · cases hb : (decide ((W (r_1.Hi + (W (r.Rise * (W (x_1 - x)))))) < r_2.Lo))
              · rw [hb] at hf
                refine stP hf rfl rfl rfl (pFA fa_30_0 rfl) fun a hf => ?_
                refine stE hf hc rfl rfl rfl (eLd1 sc_3 rfl (cell_box m1 rfl)) fun a w hf hc => ?_
                refine stP hf rfl rfl rfl (pFA fa_24_1 rfl) fun a hf => ?_
                refine stE hf hc rfl rfl rfl (eLd1 sc_3 rfl (cell_box m4 rfl)) fun a w hf hc => ?_
                refine stP hf rfl rfl rfl (pM rfl) fun a hf => ?_
                refine stP hf rfl rfl rfl (pM rfl) fun a hf => ?_
                refine stP hf rfl rfl rfl (pSub rfl rfl) fun a hf => ?_
                refine stP hf rfl rfl rfl (pMul rfl rfl) fun a hf => ?_
                refine stP hf rfl rfl rfl (pSub rfl rfl) fun a hf => ?_
                refine stP hf rfl rfl rfl (pFA fa_30_1 rfl) fun a hf => ?_
                refine stE hf hc rfl rfl rfl (eLd1 sc_3 rfl (cell_box m0 rfl)) fun a w hf hc => ?_
                refine stP hf rfl rfl rfl (pGt rfl rfl) fun a hf => ?_
                refine stP hf rfl rfl rfl (pPf rfl rfl) fun a hf => ?_
                exact cNil ⟨hf.keep ⟨rfl, rfl, rfl, rfl, rfl, rfl, rfl, rfl, rfl, rfl, rfl, rfl, rfl, rfl, rfl, rfl, rfl, rfl, rfl, rfl, rfl, rfl, rfl, rfl, rfl, rfl, rfl, rfl, rfl, rfl, rfl, rfl, rfl, trivial⟩, hc⟩
              · rw [hb] at hf
                refine stS hf rfl rfl rfl fun a hf => ?_
                refine stS hf rfl rfl rfl fun a hf => ?_
                refine stS hf rfl rfl rfl fun a hf => ?_
                refine stS hf rfl rfl rfl fun a hf => ?_
                refine stS hf rfl rfl rfl fun a hf => ?_
                refine stS hf rfl rfl rfl fun a hf => ?_
                refine stS hf rfl rfl rfl fun a hf => ?_
                refine stS hf rfl rfl rfl fun a hf => ?_
                refine stS hf rfl rfl rfl fun a hf => ?_
                refine stS hf rfl rfl rfl fun a hf => ?_
                refine stS hf rfl rfl rfl fun a hf => ?_
                refine stS hf rfl rfl rfl fun a hf => ?_
                refine stP hf rfl rfl rfl (pPt rfl rfl) fun a hf => ?_
                exact cNil ⟨hf.keep ⟨rfl, rfl, rfl, rfl, rfl, rfl, rfl, rfl, rfl, rfl, rfl, rfl, rfl, rfl, rfl, rfl, rfl, rfl, rfl, rfl, rfl, rfl, rfl, rfl, rfl, rfl, rfl, rfl, rfl, rfl, rfl, rfl, rfl, trivial⟩, hc⟩
            intro a w ⟨hf, hc⟩
            refine stP hf rfl rfl rfl (pPt rfl rfl) fun a hf => ?_
            exact cNil ⟨hf.keep ⟨rfl, rfl, rfl, rfl, rfl, rfl, rfl, rfl, rfl, rfl, rfl, rfl, rfl, rfl, rfl, rfl, rfl, rfl, rfl, rfl, trivial⟩, hc⟩
        intro a w ⟨hf, hc⟩
        refine cNil ?_
        refine h24 _ _ ?_
        refine cCond (b := ((decide (x < x_1)) && ((decide ((W (r_1.Hi + (W (r.Rise * (W (x_1 - x)))))) < r_2.Lo)) || (decide (r_2.Hi < (W (r_1.Lo - (W (r.Fall * (W (x_1 - x))))))))))) hf rfl (fun hb => ?_) (fun hb => ?_)
        · replace hF := condT hb hF
          clear hb
          refine wp_seq_k fun K25 h25 => ?_
          refine cReg ?_
          refine stP hf rfl rfl rfl (pM rfl) fun a hf => ?_
          refine stP hf rfl rfl rfl (pM rfl) fun a hf => ?_
          refine stP hf rfl rfl rfl (pA rfl) fun a hf => ?_
          refine stP hf rfl rfl rfl (pA rfl) fun a hf => ?_
          refine stP hf rfl rfl rfl (pA rfl) fun a hf => ?_
          refine cNil ?_
          refine h25 _ _ ?_
          refine wp_exit ?_
          refine cMiss rfl ?_
          refine xThen ?_
          refine xThen ?_
          have he := Option.some.inj hF
          rw [← he] at hfin18
          replace hF := ho18 _ hfin18
          refine cMiss rfl ?_
          refine xThen ?_
          refine cMiss rfl ?_
          refine xThen ?_
          refine xThen ?_
          replace hc := hc.drop k3
          replace hc := hc.drop k2
          replace hc := hc.drop k1
          replace hc := hc.drop k0
          have he := hF
          rw [← he] at hfin10
          refine cHit ?_
          exact hr10 _ _ _ hfin10 ⟨hf.keep ⟨rfl, rfl, rfl, rfl, rfl, rfl, rfl, trivial⟩, hc⟩
        · replace hF := condF hb hF
          clear hb
          refine wp_skip ?_
          refine h21 _ _ ?_
          refine cReg ?_
          refine stP hf rfl rfl rfl (pAdd rfl rfl) fun a hf => ?_
          refine stP hf rfl rfl rfl (pM rfl) fun a hf => ?_
          refine cNil ?_
          replace hc := hc.drop k2
          replace hc := hc.drop k1
          replace hc := hc.drop k0
          exact hK18 (W (x_1 + 1)) _ _ (Option.some.inj hF).symm ⟨hf.keep ⟨rfl, rfl, rfl, rfl, rfl, rfl, rfl, rfl, rfl, rfl, rfl, rfl, trivial⟩, hc⟩
      · replace hF := condF hb hF
        clear hb
        refine wp_exit ?_
        refine xThen ?_
        refine xThen ?_
        have he := Option.some.inj hF
        rw [← he] at hfin18
        refine cHit ?_
        exact hr18 _ _ _ hfin18 ⟨hf.keep ⟨rfl, rfl, rfl, rfl, rfl, rfl, rfl, rfl, rfl, rfl, rfl, rfl, trivial⟩, hc⟩
    · replace hF := condF hb hF
      clear hb
      refine wp_exit ?_
      refine xThen ?_
      refine xThen ?_
      have he := Option.some.inj hF
      rw [← he] at hfin10
      refine cHit ?_
      exact hr10 _ _ _ hfin10 ⟨hf.keep ⟨rfl, rfl, rfl, rfl, rfl, rfl, rfl, trivial⟩, hc⟩

def kit_Same_api_Span_b7 (N : Nat) (a_ : List api_Span) (b_ : List api_Span) (i_1 : Int) : Option (Step (Int) (Bool)) :=
  cond (decide (i_1 < ((a_.length : Nat) : Int)))
  (Option.bind (getI a_ i_1) fun e_1 =>
  Option.bind (getI b_ i_1) fun e_2 =>
  cond (!(e_1.Lo == e_2.Lo && e_1.Hi == e_2.Hi))
  (some (.ret false))
  (some (.cont (W (i_1 + 1)))))
  (some (.brk i_1))
def kit_Same_api_Span (N : Nat) (a_ : List api_Span) (b_ : List api_Span) : Option (Bool) :=
  cond (((a_.length : Nat) : Int) != ((b_.length : Nat) : Int))
  (some false)
  (Option.bind (loopO (fun s7 => kit_Same_api_Span_b7 N a_ b_ s7) N 0) fun x7 =>
  exK x7 (fun s7 => some true) some)
theorem kit_Same_api_Span_ok {N : Nat} {G : Pers} {Lf : List Ent} {w : World} (a_ : List api_Span) (b_ : List api_Span) {a__p : Option Addr} {a__c : Nat} {b__p : Option Addr} {b__c : Nat} (h_a_ : Rd G 2 a__p a__c (a_.map enc_api_Span)) (h_b_ : Rd G 2 b__p b__c (b_.map enc_api_Span)) (hc : Ctx G (Lf) w) {res : Bool} (hF : kit_Same_api_Span N a_ b_ = some res) : Calls Try.prog 24 #[.slice a__p a_.length a__c, .slice b__p b_.length b__c] w (fun e w => e = .returned (.bool res) ∧ Ctx G (Lf) w) := by
  unfold kit_Same_api_Span at hF
  refine fnIn (args := [.slice a__p a_.length a__c, .slice b__p b_.length b__c]) Try.func24 rfl Try.ntmps24 rfl fun a hf => ?_
  refine wp_seq_k fun K1 h1 => ?_
  refine cReg ?_
  refine stP hf rfl rfl rfl (pA rfl) fun a hf => ?_
  refine cNil ?_
  refine h1 _ _ ?_
  refine wp_seq_k fun K2 h2 => ?_
  refine wp_seq_k fun K3 h3 => ?_
  refine cReg ?_
  refine stP hf rfl rfl rfl (pM rfl) fun a hf => ?_
  refine stP hf rfl rfl rfl (pLenS Try.underlying25 rfl) fun a hf => ?_
  refine stP hf rfl rfl rfl (pM rfl) fun a hf => ?_
  refine stP hf rfl rfl rfl (pLenS Try.underlying25 rfl) fun a hf => ?_
  refine stP hf rfl rfl rfl (pNe rfl rfl) fun a hf => ?_
  refine cNil ?_
  refine h3 _ _ ?_
  refine cCond (b := (((a_.length : Nat) : Int) != ((b_.length : Nat) : Int))) hf rfl (fun hb => ?_) (fun hb => ?_)
  · replace hF := condT hb hF
    clear hb
    refine wp_seq_k fun K4 h4 => ?_
    refine cReg ?_
    refine stP hf rfl rfl rfl (pA rfl) fun a hf => ?_
    refine cNil ?_
    refine h4 _ _ ?_
    refine wp_ret ?_
    refine xThenR ?_
    obtain rfl := Option.some.inj hF
    exact fnOut1 (by simp) rfl Try.results24 hf hc (show look _ 4 = _ from rfl) ⟨rfl, hc⟩
  · replace hF := condF hb hF
    clear hb
    refine wp_skip ?_
    refine h2 _ _ ?_
    refine wp_seq_k fun K5 h5 => ?_
    refine wp_seq_k fun K6 h6 => ?_
    refine cReg ?_
    refine stP hf rfl rfl rfl (pA rfl) fun a hf => ?_
    refine cNil ?_
    refine h6 _ _ ?_
    refine wp_block ?_
    obtain ⟨x7, hx7, hF⟩ := bnd_some hF
    let S7 : Int → Act → World → Prop := (fun (zz : Int) a w => Has 26 a [(0, .slice a__p a_.length a__c), (1, .slice b__p b_.length b__c), (5, .int .i64 zz)] ∧ Ctx G (Lf) w)
    have hr7 : ∀ (zz : Int) a w, x7 = .go zz → S7 zz a w → K5 a w := by
      rintro i_1 a w rfl ⟨hf, hc⟩
      replace hF := exK_go hF
      refine h5 _ _ ?_
      refine wp_seq_k fun K8 h8 => ?_
      refine cReg ?_
      refine stP hf rfl rfl rfl (pA rfl) fun a hf => ?_
      refine cNil ?_
      refine h8 _ _ ?_
      refine wp_ret ?_
      obtain rfl := Option.some.inj hF
      exact fnOut1 (by simp) rfl Try.results24 hf hc (show look _ 4 = _ from rfl) ⟨rfl, hc⟩
    have ho7 : ∀ r, x7 = .out r → r = res := by
      rintro r rfl
      exact Option.some.inj hF
    refine cLoop N (loopW (S := S7) (x := x7) ?_ N 0 _ _ ⟨hf.keep ⟨rfl, rfl, rfl, trivial⟩, hc⟩ hx7)
    clear hF hf hc
    rintro i_1 st7 a w KB7 ⟨hf, hc⟩ hF hfin7 hK7
    unfold kit_Same_api_Span_b7 at hF
    refine wp_seq_k fun K9 h9 => ?_
    refine wp_seq_k fun K10 h10 => ?_
    refine cReg ?_
    refine stP hf rfl rfl rfl (pM rfl) fun a hf => ?_
    refine stP hf rfl rfl rfl (pM rfl) fun a hf => ?_
    refine stP hf rfl rfl rfl (pLenS Try.underlying25 rfl) fun a hf => ?_
    refine stP hf rfl rfl rfl (pLt rfl rfl) fun a hf => ?_
    refine cNil ?_
    refine h10 _ _ ?_
    refine cCond (b := (decide (i_1 < ((a_.length : Nat) : Int)))) hf rfl (fun hb => ?_) (fun hb => ?_)
    · replace hF := condT hb hF
      clear hb
      refine wp_skip ?_
      refine h9 _ _ ?_
      refine wp_seq_k fun K11 h11 => ?_
      refine wp_block ?_
      refine wp_seq_k fun K12 h12 => ?_
      obtain ⟨e_1, he_1, hF⟩ := bnd_some hF
      obtain ⟨b_1, o, qa, qp⟩ := h_a_.atm he_1
      obtain ⟨e_2, he_2, hF⟩ := bnd_some hF
      obtain ⟨b_2, o_1, qa_1, qp_1⟩ := h_b_.atm he_2
      refine cQ hc follows_mx (by kernel_rfl) ?_
      refine qE hf rfl rfl rfl (Pu.ev (pM rfl)) fun a hf => ?_
      refine qE hf rfl rfl rfl (Pu.ev (pM rfl)) fun a hf => ?_
      refine qE hf rfl rfl rfl (Pu.ev (pIA Try.underlying25 sz_30 rfl rfl qa)) fun a hf => ?_
      refine qE hf rfl rfl rfl (eLdN (vs := [.int .i64 e_1.Lo, .int .i64 e_1.Hi]) ag_30 rfl rfl (cells_pc qp (n := 2) (o' := 0) rfl)) fun a hf => ?_
      refine qE hf rfl rfl rfl (Pu.ev (pM rfl)) fun a hf => ?_
      refine qE hf rfl rfl rfl (Pu.ev (pM rfl)) fun a hf => ?_
      refine qE hf rfl rfl rfl (Pu.ev (pIA Try.underlying25 sz_30 rfl rfl qa_1)) fun a hf => ?_
      refine qE hf rfl rfl rfl (eLdN (vs := [.int .i64 e_2.Lo, .int .i64 e_2.Hi]) ag_30 rfl rfl (cells_pc qp_1 (n := 2) (o' := 0) rfl)) fun a hf => ?_
      refine qE hf rfl rfl rfl (Pu.ev (pNeA ge_30 rfl rfl (eqs_30 _ _ _ _))) fun a hf => ?_
      intro w hc
      refine h12 _ _ ?_
      refine cCond (b := (!(e_1.Lo == e_2.Lo && e_1.Hi == e_2.Hi))) hf rfl (fun hb => ?_) (fun hb => ?_)
      · replace hF := condT hb hF
        clear hb
        refine wp_seq_k fun K13 h13 => ?_
        refine cReg ?_
        refine stP hf rfl rfl rfl (pA rfl) fun a hf => ?_
        refine cNil ?_
        refine h13 _ _ ?_
        refine wp_ret ?_
        refine xBlkR ?_
        refine xThenR ?_
        refine xThenR ?_
        have he := Option.some.inj hF
        rw [← he] at hfin7
        replace hF := ho7 _ hfin7
        refine xBlkR ?_
        refine xThenR ?_
        obtain rfl := hF
        exact fnOut1 (by simp) rfl Try.results24 hf hc (show look _ 4 = _ from rfl) ⟨rfl, hc⟩
      · replace hF := condF hb hF
        clear hb
        refine wp_skip ?_
        refine h11 _ _ ?_
        refine cReg ?_
        refine stP hf rfl rfl rfl (pM rfl) fun a hf => ?_
        refine stP hf rfl rfl rfl (pAdd rfl rfl) fun a hf => ?_
        refine stP hf rfl rfl rfl (pA rfl) fun a hf => ?_
        refine cNil ?_
        exact hK7 (W (i_1 + 1)) _ _ (Option.some.inj hF).symm ⟨hf.keep ⟨rfl, rfl, rfl, trivial⟩, hc⟩
    · replace hF := condF hb hF
      clear hb
      refine wp_exit ?_
      refine xThen ?_
      refine xThen ?_
      have he := Option.some.inj hF
      rw [← he] at hfin7
      refine cHit ?_
      exact hr7 _ _ _ hfin7 ⟨hf.keep ⟨rfl, rfl, rfl, trivial⟩, hc⟩

def kit_Same_int_b7 (N : Nat) (a_ : List Int) (b_ : List Int) (i_1 : Int) : Option (Step (Int) (Bool)) :=
  cond (decide (i_1 < ((a_.length : Nat) : Int)))
  (Option.bind (getI a_ i_1) fun e_1 =>
  Option.bind (getI b_ i_1) fun e_2 =>
  cond (e_1 != e_2)
  (some (.ret false))
  (some (.cont (W (i_1 + 1)))))
  (some (.brk i_1))
def kit_Same_int (N : Nat) (a_ : List Int) (b_ : List Int) : Option (Bool) :=
  cond (((a_.length : Nat) : Int) != ((b_.length : Nat) : Int))
  (some false)
  (Option.bind (loopO (fun s7 => kit_Same_int_b7 N a_ b_ s7) N 0) fun x7 =>
  exK x7 (fun s7 => some true) some)
theorem kit_Same_int_ok {N : Nat} {G : Pers} {Lf : List Ent} {w : World} (a_ : List Int) (b_ : List Int) {a__p : Option Addr} {a__c : Nat} {b__p : Option Addr} {b__c : Nat} (h_a_ : Rd G 1 a__p a__c (a_.map encI_i64)) (h_b_ : Rd G 1 b__p b__c (b_.map encI_i64)) (hc : Ctx G (Lf) w) {res : Bool} (hF : kit_Same_int N a_ b_ = some res) : Calls Try.prog 20 #[.slice a__p a_.length a__c, .slice b__p b_.length b__c] w (fun e w => e = .returned (.bool res) ∧ Ctx G (Lf) w) := by
  unfold kit_Same_int at hF
  refine fnIn (args := [.slice a__p a_.length a__c, .slice b__p b_.length b__c]) Try.func20 rfl Try.ntmps20 rfl fun a hf => ?_
  refine wp_seq_k fun K1 h1 => ?_
  refine cReg ?_
  refine stP hf rfl rfl rfl (pA rfl) fun a hf => ?_
  refine cNil ?_
  refine h1 _ _ ?_
  refine wp_seq_k fun K2 h2 => ?_
  refine wp_seq_k fun K3 h3 => ?_
  refine cReg ?_
  refine stP hf rfl rfl rfl (pM rfl) fun a hf => ?_
  refine stP hf rfl rfl rfl (pLenS Try.underlying39 rfl) fun a hf => ?_
  refine stP hf rfl rfl rfl (pM rfl) fun a hf => ?_
  refine stP hf rfl rfl rfl (pLenS Try.underlying39 rfl) fun a hf => ?_
  refine stP hf rfl rfl rfl (pNe rfl rfl) fun a hf => ?_
  refine cNil ?_
  refine h3 _ _ ?_
  refine cCond (b := (((a_.length : Nat) : Int) != ((b_.length : Nat) : Int))) hf rfl (fun hb => ?_) (fun hb => ?_)
  · replace hF := condT hb hF
    clear hb
    refine wp_seq_k fun K4 h4 => ?_
    refine cReg ?_
    refine stP hf rfl rfl rfl (pA rfl) fun a hf => ?_
    refine cNil ?_
    refine h4 _ _ ?_
    refine wp_ret ?_
    refine xThenR ?_
    obtain rfl := Option.some.inj hF
    exact fnOut1 (by simp) rfl Try.results20 hf hc (show look _ 4 = _ from rfl) ⟨rfl, hc⟩
  · replace hF := condF hb hF
    clear hb
    refine wp_skip ?_
    refine h2 _ _ ?_
    refine wp_seq_k fun K5 h5 => ?_
    refine wp_seq_k fun K6 h6 => ?_
    refine cReg ?_
    refine stP hf rfl rfl rfl (pA rfl) fun a hf => ?_
    refine cNil ?_
    refine h6 _ _ ?_
    refine wp_block ?_
    obtain ⟨x7, hx7, hF⟩ := bnd_some hF
    let S7 : Int → Act → World → Prop := (fun (zz : Int) a w => Has 26 a [(0, .slice a__p a_.length a__c), (1, .slice b__p b_.length b__c), (5, .int .i64 zz)] ∧ Ctx G (Lf) w)
    have hr7 : ∀ (zz : Int) a w, x7 = .go zz → S7 zz a w → K5 a w := by
      rintro i_1 a w rfl ⟨hf, hc⟩
      replace hF := exK_go hF
      refine h5 _ _ ?_
      refine wp_seq_k fun K8 h8 => ?_
      refine cReg ?_
      refine stP hf rfl rfl rfl (pA rfl) fun a hf => ?_
      refine cNil ?_
      refine h8 _ _ ?_
      refine wp_ret ?_
      obtain rfl := Option.some.inj hF
      exact fnOut1 (by simp) rfl Try.results20 hf hc (show look _ 4 = _ from rfl) ⟨rfl, hc⟩
    have ho7 : ∀ r, x7 = .out r → r = res := by
      rintro r rfl
      exact Option.some.inj hF
    refine cLoop N (loopW (S := S7) (x := x7) ?_ N 0 _ _ ⟨hf.keep ⟨rfl, rfl, rfl, trivial⟩, hc⟩ hx7)
    clear hF hf hc
    rintro i_1 st7 a w KB7 ⟨hf, hc⟩ hF hfin7 hK7
    unfold kit_Same_int_b7 at hF
    refine wp_seq_k fun K9 h9 => ?_
    refine wp_seq_k fun K10 h10 => ?_
    refine cReg ?_
    refine stP hf rfl rfl rfl (pM rfl) fun a hf => ?_
    refine stP hf rfl rfl rfl (pM rfl) fun a hf => ?_
    refine stP hf rfl rfl rfl (pLenS Try.underlying39 rfl) fun a hf => ?_
    refine stP hf rfl rfl rfl (pLt rfl rfl) fun a hf => ?_
    refine cNil ?_
    refine h10 _ _ ?_
    refine cCond (b := (decide (i_1 < ((a_.length : Nat) : Int)))) hf rfl (fun hb => ?_) (fun hb => ?_)
    · replace hF := condT hb hF
      clear hb
      refine wp_skip ?_
      refine h9 _ _ ?_
      refine wp_seq_k fun K11 h11 => ?_
      refine wp_block ?_
      refine wp_seq_k fun K12 h12 => ?_
      obtain ⟨e_1, he_1, hF⟩ := bnd_some hF
      obtain ⟨b_1, o, qa, qp⟩ := h_a_.atm he_1
      obtain ⟨e_2, he_2, hF⟩ := bnd_some hF
      obtain ⟨b_2, o_1, qa_1, qp_1⟩ := h_b_.atm he_2
      refine cQ hc follows_mx (by kernel_rfl) ?_
      refine qE hf rfl rfl rfl (Pu.ev (pM rfl)) fun a hf => ?_
      refine qE hf rfl rfl rfl (Pu.ev (pM rfl)) fun a hf => ?_
      refine qE hf rfl rfl rfl (Pu.ev (pIA Try.underlying39 sz_3 rfl rfl qa)) fun a hf => ?_
      refine qE hf rfl rfl rfl (eLd1 sc_3 rfl (cell_pc (j := 0) qp rfl)) fun a hf => ?_
      refine qE hf rfl rfl rfl (Pu.ev (pM rfl)) fun a hf => ?_
      refine qE hf rfl rfl rfl (Pu.ev (pM rfl)) fun a hf => ?_
      refine qE hf rfl rfl rfl (Pu.ev (pIA Try.underlying39 sz_3 rfl rfl qa_1)) fun a hf => ?_
      refine qE hf rfl rfl rfl (eLd1 sc_3 rfl (cell_pc (j := 0) qp_1 rfl)) fun a hf => ?_
      refine qE hf rfl rfl rfl (Pu.ev (pNe rfl rfl)) fun a hf => ?_
      intro w hc
      refine h12 _ _ ?_
      refine cCond (b := (e_1 != e_2)) hf rfl (fun hb => ?_) (fun hb => ?_)
      · replace hF := condT hb hF
        clear hb
        refine wp_seq_k fun K13 h13 => ?_
        refine cReg ?_
        refine stP hf rfl rfl rfl (pA rfl) fun a hf => ?_
        refine cNil ?_
        refine h13 _ _ ?_
        refine wp_ret ?_
        refine xBlkR ?_
        refine xThenR ?_
        refine xThenR ?_
        have he := Option.some.inj hF
        rw [← he] at hfin7
        replace hF := ho7 _ hfin7
        refine xBlkR ?_
        refine xThenR ?_
        obtain rfl := hF
        exact fnOut1 (by simp) rfl Try.results20 hf hc (show look _ 4 = _ from rfl) ⟨rfl, hc⟩
      · replace hF := condF hb hF
        clear hb
        refine wp_skip ?_
        refine h11 _ _ ?_
        refine cReg ?_
        refine stP hf rfl rfl rfl (pM rfl) fun a hf => ?_
        refine stP hf rfl rfl rfl (pAdd rfl rfl) fun a hf => ?_
        refine stP hf rfl rfl rfl (pA rfl) fun a hf => ?_
        refine cNil ?_
        exact hK7 (W (i_1 + 1)) _ _ (Option.some.inj hF).symm ⟨hf.keep ⟨rfl, rfl, rfl, trivial⟩, hc⟩
    · replace hF := condF hb hF
      clear hb
      refine wp_exit ?_
      refine xThen ?_
      refine xThen ?_
      have he := Option.some.inj hF
      rw [← he] at hfin7
      refine cHit ?_
      exact hr7 _ _ _ hfin7 ⟨hf.keep ⟨rfl, rfl, rfl, trivial⟩, hc⟩

def daily_every_api_Span_1_s2 (x : api_Span) : Bool :=
  (!(daily_flows x))
theorem daily_every_api_Span_1_s2_ok {G : Pers} {Lf : List Ent} {w : World} (x : api_Span) {b_ : Nat}  (hc : Ctx G (.box b_ [.func (.func 67) #[] #[]] 130 :: Lf) w) {res : Bool} (hF : daily_every_api_Span_1_s2 x = res) : Calls Try.prog 99 #[.agg #[.int .i64 x.Lo, .int .i64 x.Hi], .pointer (some ⟨b_, 0, none⟩)] w (fun e w => e = .returned (.bool res) ∧ Ctx G (.box b_ [.func (.func 67) #[] #[]] 130 :: Lf) w) := by
  unfold daily_every_api_Span_1_s2 at hF
  refine fnIn (args := [.agg #[.int .i64 x.Lo, .int .i64 x.Hi], .pointer (some ⟨b_, 0, none⟩)]) Try.func99 rfl Try.ntmps99 rfl fun a hf => ?_
  refine wp_seq_k fun K1 h1 => ?_
  refine cReg ?_
  refine stBx (cs := [.int .i64 x.Lo, .int .i64 x.Hi]) hf hc rfl rfl rfl rfl fun b_1 a w hf hc => ?_
  refine stP hf rfl rfl rfl (pA rfl) fun a hf => ?_
  refine cNil ?_
  refine h1 _ _ ?_
  refine wp_seq_k fun K2 h2 => ?_
  refine cReg ?_
  refine stE hf hc rfl rfl rfl (eLd1 sc_130 rfl (cell_box m1 rfl)) fun a w hf hc => ?_
  refine stE hf hc rfl rfl rfl (eLdN (vs := [.int .i64 x.Lo, .int .i64 x.Hi]) ag_30 rfl rfl (cells_box (n := 2) m0 rfl)) fun a w hf hc => ?_
  refine stE hf hc rfl rfl rfl (eC (v := .bool (daily_flows x)) (vs := [.agg #[.int .i64 x.Lo, .int .i64 x.Hi]]) (caps := []) en_67 rfl rfl rfl rfl (fun w hc => daily_flows_ok x hc rfl)) fun a w hf hc => ?_
  refine stP hf rfl rfl rfl (pNot rfl) fun a hf => ?_
  refine stP hf rfl rfl rfl (pA rfl) fun a hf => ?_
  refine cNil ?_
  refine h2 _ _ ?_
  refine wp_ret ?_
  obtain rfl := hF
  replace hc := hc.drop k0
  exact fnOut1 (by simp) rfl Try.results99 hf hc (show look _ 3 = _ from rfl) ⟨rfl, hc⟩

def slices_IndexFunc_Lapi_Span_api_Span_s2_b4 (N : Nat) (s_ : List api_Span) (x : Int) : Option (Step (Int) (Int)) :=
  cond (decide (x < ((s_.length : Nat) : Int)))
  (Option.bind (getI s_ x) fun e_1 =>
  cond (daily_every_api_Span_1_s2 e_1)
  (some (.ret x))
  (some (.cont (W (x + 1)))))
  (some (.brk x))
def slices_IndexFunc_Lapi_Span_api_Span_s2 (N : Nat) (s_ : List api_Span) : Option (Int) :=
  Option.bind (loopO (fun s4 => slices_IndexFunc_Lapi_Span_api_Span_s2_b4 N s_ s4) N 0) fun x4 =>
  exK x4 (fun s4 => some (-1)) some
theorem slices_IndexFunc_Lapi_Span_api_Span_s2_ok {N : Nat} {G : Pers} {Lf : List Ent} {w : World} (s_ : List api_Span) {s__p : Option Addr} {s__c : Nat} {b_ : Nat} (h_s_ : Rd G 2 s__p s__c (s_.map enc_api_Span)) (hc : Ctx G (.box b_ [.func (.func 67) #[] #[]] 130 :: Lf) w) {res : Int} (hF : slices_IndexFunc_Lapi_Span_api_Span_s2 N s_ = some res) : Calls Try.prog 124 #[.slice s__p s_.length s__c, .func (.func 99) #[] #[.pointer (some ⟨b_, 0, none⟩)]] w (fun e w => e = .returned (.int .i64 res) ∧ Ctx G (.box b_ [.func (.func 67) #[] #[]] 130 :: Lf) w) := by
  unfold slices_IndexFunc_Lapi_Span_api_Span_s2 at hF
  refine fnIn (args := [.slice s__p s_.length s__c, .func (.func 99) #[] #[.pointer (some ⟨b_, 0, none⟩)]]) Try.func124 rfl Try.ntmps124 rfl fun a hf => ?_
  refine wp_seq_k fun K1 h1 => ?_
  refine cReg ?_
  refine stP hf rfl rfl rfl (pA rfl) fun a hf => ?_
  refine cNil ?_
  refine h1 _ _ ?_
  refine wp_seq_k fun K2 h2 => ?_
  refine wp_seq_k fun K3 h3 => ?_
  refine cReg ?_
  refine stP hf rfl rfl rfl (pM rfl) fun a hf => ?_
  refine stP hf rfl rfl rfl (pLenS Try.underlying25 rfl) fun a hf => ?_
  refine stP hf rfl rfl rfl (pM rfl) fun a hf => ?_
  refine cNil ?_
  refine h3 _ _ ?_
  refine wp_block ?_
  obtain ⟨x4, hx4, hF⟩ := bnd_some hF
  let S4 : Int → Act → World → Prop := (fun (zz : Int) a w => Has 19 a [(0, .slice s__p s_.length s__c), (1, .func (.func 99) #[] #[.pointer (some ⟨b_, 0, none⟩)]), (7, .int .i64 ((s_.length : Nat) : Int)), (8, .int .i64 zz)] ∧ Ctx G (.box b_ [.func (.func 67) #[] #[]] 130 :: Lf) w)
  have hr4 : ∀ (zz : Int) a w, x4 = .go zz → S4 zz a w → K2 a w := by
    rintro x a w rfl ⟨hf, hc⟩
    replace hF := exK_go hF
    refine h2 _ _ ?_
    refine wp_seq_k fun K5 h5 => ?_
    refine cReg ?_
    refine stP hf rfl rfl rfl (pA rfl) fun a hf => ?_
    refine cNil ?_
    refine h5 _ _ ?_
    refine wp_ret ?_
    obtain rfl := Option.some.inj hF
    exact fnOut1 (by simp) rfl Try.results124 hf hc (show look _ 4 = _ from rfl) ⟨rfl, hc⟩
  have ho4 : ∀ r, x4 = .out r → r = res := by
    rintro r rfl
    exact Option.some.inj hF
  refine cLoop N (loopW (S := S4) (x := x4) ?_ N 0 _ _ ⟨hf.keep ⟨rfl, rfl, rfl, rfl, trivial⟩, hc⟩ hx4)
  clear hF hf hc
  rintro x st4 a w KB4 ⟨hf, hc⟩ hF hfin4 hK4
  unfold slices_IndexFunc_Lapi_Span_api_Span_s2_b4 at hF
  refine wp_seq_k fun K6 h6 => ?_
  refine cReg ?_
  refine stP hf rfl rfl rfl (pLt rfl rfl) fun a hf => ?_
  refine cNil ?_
  refine h6 _ _ ?_
  refine wp_seq_k fun K7 h7 => ?_
  refine cCond (b := (decide (x < ((s_.length : Nat) : Int)))) hf rfl (fun hb => ?_) (fun hb => ?_)
  · replace hF := condT hb hF
    clear hb
    refine wp_skip ?_
    refine h7 _ _ ?_
    refine wp_seq_k fun K8 h8 => ?_
    refine wp_block ?_
    refine wp_seq_k fun K9 h9 => ?_
    refine cReg ?_
    refine stP hf rfl rfl rfl (pM rfl) fun a hf => ?_
    refine stP hf rfl rfl rfl (pA rfl) fun a hf => ?_
    refine cNil ?_
    refine h9 _ _ ?_
    refine wp_seq_k fun K10 h10 => ?_
    refine cReg ?_
    refine stP hf rfl rfl rfl (pM rfl) fun a hf => ?_
    refine stP hf rfl rfl rfl (pM rfl) fun a hf => ?_
    refine stP hf rfl rfl rfl (pM rfl) fun a hf => ?_
    obtain ⟨e_1, he_1, hF⟩ := bnd_some hF
    obtain ⟨b_1, o, qa, qp⟩ := h_s_.atm he_1
    refine stP hf rfl rfl rfl (pIA Try.underlying25 sz_30 rfl rfl qa) fun a hf => ?_
    refine stE hf hc rfl rfl rfl (eLdN (vs := [.int .i64 e_1.Lo, .int .i64 e_1.Hi]) ag_30 rfl rfl (cells_pc qp (n := 2) (o' := 0) rfl)) fun a w hf hc => ?_
    refine stE hf hc rfl rfl rfl (eC (v := .bool (daily_every_api_Span_1_s2 e_1)) (vs := [.agg #[.int .i64 e_1.Lo, .int .i64 e_1.Hi]]) (caps := [.pointer (some ⟨b_, 0, none⟩)]) en_99 rfl rfl rfl rfl (fun w hc => (daily_every_api_Span_1_s2_ok e_1 (hc.pick k0) rfl).mono fun e w h => ⟨h.1, (h.2.unpick k0)⟩)) fun a w hf hc => ?_
    refine cNil ?_
    refine h10 _ _ ?_
    refine cCond (b := (daily_every_api_Span_1_s2 e_1)) hf rfl (fun hb => ?_) (fun hb => ?_)
    · replace hF := condT hb hF
      clear hb
      refine wp_seq_k fun K11 h11 => ?_
      refine cReg ?_
      refine stP hf rfl rfl rfl (pM rfl) fun a hf => ?_
      refine stP hf rfl rfl rfl (pA rfl) fun a hf => ?_
      refine cNil ?_
      refine h11 _ _ ?_
      refine wp_ret ?_
      refine xBlkR ?_
      refine xThenR ?_
      refine xThenR ?_
      have he := Option.some.inj hF
      rw [← he] at hfin4
      replace hF := ho4 _ hfin4
      refine xBlkR ?_
      refine xThenR ?_
      obtain rfl := hF
      exact fnOut1 (by simp) rfl Try.results124 hf hc (show look _ 4 = _ from rfl) ⟨rfl, hc⟩
    · replace hF := condF hb hF
      clear hb
      refine wp_skip ?_
      refine h8 _ _ ?_
      refine cReg ?_
      refine stP hf rfl rfl rfl (pAdd rfl rfl) fun a hf => ?_
      refine stP hf rfl rfl rfl (pM rfl) fun a hf => ?_
      refine cNil ?_
      exact hK4 (W (x + 1)) _ _ (Option.some.inj hF).symm ⟨hf.keep ⟨rfl, rfl, rfl, rfl, trivial⟩, hc⟩
  · replace hF := condF hb hF
    clear hb
    refine wp_exit ?_
    refine xThen ?_
    refine xThen ?_
    have he := Option.some.inj hF
    rw [← he] at hfin4
    refine cHit ?_
    exact hr4 _ _ _ hfin4 ⟨hf.keep ⟨rfl, rfl, rfl, rfl, trivial⟩, hc⟩

def slices_ContainsFunc_Lapi_Span_api_Span_s2 (N : Nat) (s_ : List api_Span) : Option (Bool) :=
  Option.bind (slices_IndexFunc_Lapi_Span_api_Span_s2 N s_) fun r =>
  some (decide (0 ≤ r))
theorem slices_ContainsFunc_Lapi_Span_api_Span_s2_ok {N : Nat} {G : Pers} {Lf : List Ent} {w : World} (s_ : List api_Span) {s__p : Option Addr} {s__c : Nat} {b_ : Nat} (h_s_ : Rd G 2 s__p s__c (s_.map enc_api_Span)) (hc : Ctx G (.box b_ [.func (.func 67) #[] #[]] 130 :: Lf) w) {res : Bool} (hF : slices_ContainsFunc_Lapi_Span_api_Span_s2 N s_ = some res) : Calls Try.prog 98 #[.slice s__p s_.length s__c, .func (.func 99) #[] #[.pointer (some ⟨b_, 0, none⟩)]] w (fun e w => e = .returned (.bool res) ∧ Ctx G (.box b_ [.func (.func 67) #[] #[]] 130 :: Lf) w) := by
  unfold slices_ContainsFunc_Lapi_Span_api_Span_s2 at hF
  refine fnIn (args := [.slice s__p s_.length s__c, .func (.func 99) #[] #[.pointer (some ⟨b_, 0, none⟩)]]) Try.func98 rfl Try.ntmps98 rfl fun a hf => ?_
  refine wp_seq_k fun K1 h1 => ?_
  refine cReg ?_
  refine stP hf rfl rfl rfl (pA rfl) fun a hf => ?_
  refine cNil ?_
  refine h1 _ _ ?_
  refine wp_seq_k fun K2 h2 => ?_
  refine cReg ?_
  refine stP hf rfl rfl rfl (pM rfl) fun a hf => ?_
  refine stP hf rfl rfl rfl (pM rfl) fun a hf => ?_
  obtain ⟨r, hr, hF⟩ := bnd_some hF
  refine stE hf hc rfl rfl rfl (eC (v := .int .i64 r) (vs := [.slice s__p s_.length s__c, .func (.func 99) #[] #[.pointer (some ⟨b_, 0, none⟩)]]) (caps := []) en_124 rfl rfl rfl rfl (fun w hc => (slices_IndexFunc_Lapi_Span_api_Span_s2_ok s_ h_s_ (hc.pick k0) hr).mono fun e w h => ⟨h.1, (h.2.unpick k0)⟩)) fun a w hf hc => ?_
  refine stP hf rfl rfl rfl (pGe rfl rfl) fun a hf => ?_
  refine stP hf rfl rfl rfl (pA rfl) fun a hf => ?_
  refine cNil ?_
  refine h2 _ _ ?_
  refine wp_ret ?_
  obtain rfl := Option.some.inj hF
  exact fnOut1 (by simp) rfl Try.results98 hf hc (show look _ 4 = _ from rfl) ⟨rfl, hc⟩

def daily_every_api_Span_s2 (N : Nat) (l : List api_Span) : Option (Bool) :=
  Option.bind (slices_ContainsFunc_Lapi_Span_api_Span_s2 N l) fun r =>
  some (!r)
theorem daily_every_api_Span_s2_ok {N : Nat} {G : Pers} {Lf : List Ent} {w : World} (l : List api_Span) {l_p : Option Addr} {l_c : Nat} (h_l : Rd G 2 l_p l_c (l.map enc_api_Span)) (hc : Ctx G (Lf) w) {res : Bool} (hF : daily_every_api_Span_s2 N l = some res) : Calls Try.prog 66 #[.slice l_p l.length l_c, .func (.func 67) #[] #[]] w (fun e w => e = .returned (.bool res) ∧ Ctx G (Lf) w) := by
  unfold daily_every_api_Span_s2 at hF
  refine fnIn (args := [.slice l_p l.length l_c, .func (.func 67) #[] #[]]) Try.func66 rfl Try.ntmps66 rfl fun a hf => ?_
  refine wp_seq_k fun K1 h1 => ?_
  refine cReg ?_
  refine stBx (cs := [.func (.func 67) #[] #[]]) hf hc rfl rfl rfl rfl fun b_1 a w hf hc => ?_
  refine stP hf rfl rfl rfl (pA rfl) fun a hf => ?_
  refine cNil ?_
  refine h1 _ _ ?_
  refine wp_seq_k fun K2 h2 => ?_
  refine cReg ?_
  refine stP hf rfl rfl rfl (pM rfl) fun a hf => ?_
  refine stP hf rfl rfl rfl (pMF (us := [.pointer (some ⟨b_1, 0, none⟩)]) rfl rfl) fun a hf => ?_
  obtain ⟨r, hr, hF⟩ := bnd_some hF
  refine stE hf hc rfl rfl rfl (eC (v := .bool r) (vs := [.slice l_p l.length l_c, .func (.func 99) #[] #[.pointer (some ⟨b_1, 0, none⟩)]]) (caps := []) en_98 rfl rfl rfl rfl (fun w hc => (slices_ContainsFunc_Lapi_Span_api_Span_s2_ok l h_l (hc.pick k0) hr).mono fun e w h => ⟨h.1, (h.2.unpick k0)⟩)) fun a w hf hc => ?_
  refine stP hf rfl rfl rfl (pNot rfl) fun a hf => ?_
  refine stP hf rfl rfl rfl (pA rfl) fun a hf => ?_
  refine cNil ?_
  refine h2 _ _ ?_
  refine wp_ret ?_
  obtain rfl := Option.some.inj hF
  replace hc := hc.drop k0
  exact fnOut1 (by simp) rfl Try.results66 hf hc (show look _ 4 = _ from rfl) ⟨rfl, hc⟩

def daily_work_again (N : Nat) (w_ : daily_work) (day : Int) (published : api_Span) : Option (Bool) :=
  Option.bind (getI w_.spans day) fun e_1 =>
  some ((decide (e_1.Lo < published.Lo)) || (decide (published.Hi < e_1.Hi)))
theorem daily_work_again_ok {N : Nat} {G : Pers} {Lf : List Ent} {w : World} (w_ : daily_work) (day : Int) (published : api_Span) {b_ : Nat} {w__Record_Days_p : Option Addr} {w__Record_Days_c : Nat} {w__spans_p : Option Addr} {w__spans_c : Nat} (h_w__Record_Days : Rd G 3 w__Record_Days_p w__Record_Days_c (w_.Record.Days.map enc_daily_Value)) (h_w__spans : Rd G 2 w__spans_p w__spans_c (w_.spans.map enc_api_Span)) (hc : Ctx G (.box b_ [.int .i64 w_.Record.Rise, .int .i64 w_.Record.Fall, .slice w__Record_Days_p w_.Record.Days.length w__Record_Days_c, .slice w__spans_p w_.spans.length w__spans_c] 120 :: Lf) w) {res : Bool} (hF : daily_work_again N w_ day published = some res) : Calls Try.prog 68 #[.pointer (some ⟨b_, 0, none⟩), .int .i64 day, .agg #[.int .i64 published.Lo, .int .i64 published.Hi]] w (fun e w => e = .returned (.bool res) ∧ Ctx G (.box b_ [.int .i64 w_.Record.Rise, .int .i64 w_.Record.Fall, .slice w__Record_Days_p w_.Record.Days.length w__Record_Days_c, .slice w__spans_p w_.spans.length w__spans_c] 120 :: Lf) w) := by
  unfold daily_work_again at hF
  refine fnIn (args := [.pointer (some ⟨b_, 0, none⟩), .int .i64 day, .agg #[.int .i64 published.Lo, .int .i64 published.Hi]]) Try.func68 rfl Try.ntmps68 rfl fun a hf => ?_
  refine wp_seq_k fun K1 h1 => ?_
  refine cReg ?_
  refine stBx (cs := [.int .i64 published.Lo, .int .i64 published.Hi]) hf hc rfl rfl rfl rfl fun b_1 a w hf hc => ?_
  refine stP hf rfl rfl rfl (pA rfl) fun a hf => ?_
  refine cNil ?_
  refine h1 _ _ ?_
  refine wp_seq_k fun K2 h2 => ?_
  refine cReg ?_
  refine stP hf rfl rfl rfl (pM rfl) fun a hf => ?_
  refine stP hf rfl rfl rfl (pNC rfl) fun a hf => ?_
  refine stP hf rfl rfl rfl (pFA fa_120_1 rfl) fun a hf => ?_
  refine stE hf hc rfl rfl rfl (eLd1 sc_25 rfl (cell_box m1 rfl)) fun a w hf hc => ?_
  refine stP hf rfl rfl rfl (pM rfl) fun a hf => ?_
  obtain ⟨e_1, he_1, hF⟩ := bnd_some hF
  obtain ⟨b_2, o, qa, qp⟩ := h_w__spans.atm he_1
  refine stP hf rfl rfl rfl (pIA Try.underlying25 sz_30 rfl rfl qa) fun a hf => ?_
  refine stE hf hc rfl rfl rfl (eLdN (vs := [.int .i64 e_1.Lo, .int .i64 e_1.Hi]) ag_30 rfl rfl (cells_pc qp (n := 2) (o' := 0) rfl)) fun a w hf hc => ?_
  refine stAl (cs := [.int .i64 0, .int .i64 0]) hf hc rfl rfl zr_30 rfl fun b_3 a w hf hc => ?_
  refine stSt (vs := [.int .i64 e_1.Lo, .int .i64 e_1.Hi]) hf hc rfl rfl rfl rfl sz_30 rfl rfl u0 fun w hc => ?_
  refine cNil ?_
  refine h2 _ _ ?_
  refine wp_seq_k fun K3 h3 => ?_
  refine cReg ?_
  refine stP hf rfl rfl rfl (pFA fa_30_0 rfl) fun a hf => ?_
  refine stE hf hc rfl rfl rfl (eLd1 sc_3 rfl (cell_box m0 rfl)) fun a w hf hc => ?_
  refine stP hf rfl rfl rfl (pFA fa_30_0 rfl) fun a hf => ?_
  refine stE hf hc rfl rfl rfl (eLd1 sc_3 rfl (cell_box m1 rfl)) fun a w hf hc => ?_
  refine stP hf rfl rfl rfl (pLt rfl rfl) fun a hf => ?_
  refine stP hf rfl rfl rfl (pM rfl) fun a hf => ?_
  refine stCut 6 (fun a w => Has 27 a [(5, .pointer (some ⟨b_1, 0, none⟩)), (6, .bool false), (7, .pointer (some ⟨b_3, 0, none⟩)), (15, .pointer (some ⟨b_3, 0, none⟩)), (16, .int .i64 e_1.Lo), (17, .pointer (some ⟨b_1, 0, none⟩)), (18, .int .i64 published.Lo), (19, .bool (decide (e_1.Lo < published.Lo))), (20, .bool (decide (e_1.Lo < published.Lo))), (26, .bool ((decide (e_1.Lo < published.Lo)) || (decide (published.Hi < e_1.Hi))))] ∧ Ctx G (.box b_3 [.int .i64 e_1.Lo, .int .i64 e_1.Hi] 30 :: .box b_1 [.int .i64 published.Lo, .int .i64 published.Hi] 30 :: .box b_ [.int .i64 w_.Record.Rise, .int .i64 w_.Record.Fall, .slice w__Record_Days_p w_.Record.Days.length w__Record_Days_c, .slice w__spans_p w_.spans.length w__spans_c] 120 :: Lf) w) ?_ ?_
  · cases hb : (decide (e_1.Lo < published.Lo))
    · rw [hb] at hf
      refine stP hf rfl rfl rfl (pFA fa_30_1 rfl) fun a hf => ?_
      refine stE hf hc rfl rfl rfl (eLd1 sc_3 rfl (cell_box m0 rfl)) fun a w hf hc => ?_
      refine stP hf rfl rfl rfl (pFA fa_30_1 rfl) fun a hf => ?_
      refine stE hf hc rfl rfl rfl (eLd1 sc_3 rfl (cell_box m1 rfl)) fun a w hf hc => ?_
      refine stP hf rfl rfl rfl (pGt rfl rfl) fun a hf => ?_
      refine stP hf rfl rfl rfl (pPf rfl rfl) fun a hf => ?_
      exact cNil ⟨hf.keep ⟨rfl, rfl, rfl, rfl, rfl, rfl, rfl, rfl, rfl, rfl, trivial⟩, hc⟩
    · rw [hb] at hf
      refine stS hf rfl rfl rfl fun a hf => ?_
      refine stS hf rfl rfl rfl fun a hf => ?_
      refine stS hf rfl rfl rfl fun a hf => ?_
      refine stS hf rfl rfl rfl fun a hf => ?_
      refine stS hf rfl rfl rfl fun a hf => ?_
      refine stP hf rfl rfl rfl (pPt rfl rfl) fun a hf => ?_
      exact cNil ⟨hf.keep ⟨rfl, rfl, rfl, rfl, rfl, rfl, rfl, rfl, rfl, rfl, trivial⟩, hc⟩
  intro a w ⟨hf, hc⟩
  refine stP hf rfl rfl rfl (pA rfl) fun a hf => ?_
  refine cNil ?_
  refine h3 _ _ ?_
  refine wp_ret ?_
  obtain rfl := Option.some.inj hF
  replace hc := hc.drop k1
  replace hc := hc.drop k0
  exact fnOut1 (by simp) rfl Try.results68 hf hc (show look _ 6 = _ from rfl) ⟨rfl, hc⟩

def daily_Again_b18 (N : Nat) (published : List api_Span) : Option (Step (Unit) ((List Int) × Int)) :=
  cond (decide (0 < ((published.length : Nat) : Int)))
  (Option.bind (getI published 0) fun e_1 =>
  none)
  (some (.brk ()))
def daily_Again_j36 (N : Nat) (x : Int) (out_1 : List Int) : Option (Step ((List Int) × Int) ((List Int) × Int)) :=
  some (.cont (out_1, W (x + 1)))
def daily_Again_b32 (N : Nat) (r : daily_Record) (published : List api_Span) (r_3 : Int × Int × (List api_Span) × Int) (out : List Int) (x : Int) : Option (Step ((List Int) × Int) ((List Int) × Int)) :=
  cond (decide (x < ((published.length : Nat) : Int)))
  (Option.bind (getI published x) fun e_2 =>
  Option.bind (daily_work_again N (⟨(⟨r_3.1, r_3.2.1, r.Days⟩ : daily_Record), r_3.2.2.1⟩ : daily_work) x e_2) fun r_4 =>
  cond r_4
  (Option.bind (room ((out ++ [x])).length) fun un =>
  daily_Again_j36 N x (out ++ [x]))
  (daily_Again_j36 N x out))
  (some (.brk (out, x)))
def daily_Again (N : Nat) (r : daily_Record) (published : List api_Span) : Option ((List Int) × Int) :=
  Option.bind (daily_Check N r) fun r_0 =>
  cond (r_0 != 0)
  (some (([] : List Int), r_0))
  (cond (((published.length : Nat) : Int) != ((r.Days.length : Nat) : Int))
  (some (([] : List Int), 2))
  (Option.bind (daily_every_api_Span_s2 N published) fun r_1 =>
  cond (!r_1)
  (some (([] : List Int), 4))
  (Option.bind (daily_agreed N r) (sumK (fun r_2 => cond (r_2 != 0)
  (some (([] : List Int), r_2))
  (Option.bind (loopO (fun (_ : Unit) => daily_Again_b18 N published) N ()) fun x18 =>
  exK x18 (fun (_ : Unit) => some (([] : List Int), 0)) some))
  (fun r_3 => cond (r_3.2.2.2 != 0)
  (some (([] : List Int), r_3.2.2.2))
  (Option.bind (loopO (fun s32 => daily_Again_b32 N r published r_3 s32.1 s32.2) N (([] : List Int), 0)) fun x32 =>
  exK x32 (fun s32 => some (s32.1, 0)) some))))))
theorem daily_Again_ok {N : Nat} {G : Pers} {Lf : List Ent} {w : World} (r : daily_Record) (published : List api_Span) {r_Days_p : Option Addr} {r_Days_c : Nat} {published_p : Option Addr} {published_c : Nat} (h_r_Days : Rd G 3 r_Days_p r_Days_c (r.Days.map enc_daily_Value)) (h_published : Rd G 2 published_p published_c (published.map enc_api_Span)) (hc : Ctx G (Lf) w) {res : (List Int) × Int} (hF : daily_Again N r published = some res) : Calls Try.prog 21 #[.agg #[.int .i64 r.Rise, .int .i64 r.Fall, .slice r_Days_p r.Days.length r_Days_c], .slice published_p published.length published_c] w (fun e w => ∃ (p'1 : Option Addr) (c'1 : Nat), e = .returned (.tuple #[.slice p'1 res.1.length c'1, .int .i64 res.2]) ∧ Ctx G (.row p'1 c'1 (res.1.map encI_i64) 3 1 :: Lf) w) := by
  unfold daily_Again at hF
  refine fnIn (args := [.agg #[.int .i64 r.Rise, .int .i64 r.Fall, .slice r_Days_p r.Days.length r_Days_c], .slice published_p published.length published_c]) Try.func21 rfl Try.ntmps21 rfl fun a hf => ?_
  refine wp_seq_k fun K1 h1 => ?_
  refine cReg ?_
  refine stBx (cs := [.int .i64 r.Rise, .int .i64 r.Fall, .slice r_Days_p r.Days.length r_Days_c]) hf hc rfl rfl rfl rfl fun b_1 a w hf hc => ?_
  refine stP hf rfl rfl rfl (pA rfl) fun a hf => ?_
  refine stP hf rfl rfl rfl (pA rfl) fun a hf => ?_
  refine cNil ?_
  refine h1 _ _ ?_
  refine wp_seq_k fun K2 h2 => ?_
  refine cReg ?_
  refine stE hf hc rfl rfl rfl (eLdN (vs := [.int .i64 r.Rise, .int .i64 r.Fall, .slice r_Days_p r.Days.length r_Days_c]) ag_24 rfl rfl (cells_box (n := 3) m0 rfl)) fun a w hf hc => ?_
  obtain ⟨r_0, hr_0, hF⟩ := bnd_some hF
  refine stE hf hc rfl rfl rfl (eC (v := .int .i64 r_0) (vs := [.agg #[.int .i64 r.Rise, .int .i64 r.Fall, .slice r_Days_p r.Days.length r_Days_c]]) (caps := []) en_34 rfl rfl rfl rfl (fun w hc => daily_Check_ok r h_r_Days hc hr_0)) fun a w hf hc => ?_
  refine stP hf rfl rfl rfl (pA rfl) fun a hf => ?_
  refine cNil ?_
  refine h2 _ _ ?_
  refine wp_seq_k fun K3 h3 => ?_
  refine wp_block ?_
  refine wp_seq_k fun K4 h4 => ?_
  refine cReg ?_
  refine stP hf rfl rfl rfl (pM rfl) fun a hf => ?_
  refine stP hf rfl rfl rfl (pNe rfl rfl) fun a hf => ?_
  refine stP hf rfl rfl rfl (pA rfl) fun a hf => ?_
  refine cNil ?_
  refine h4 _ _ ?_
  refine cCond (b := (r_0 != 0)) hf rfl (fun hb => ?_) (fun hb => ?_)
  · replace hF := condT hb hF
    clear hb
    refine wp_seq_k fun K5 h5 => ?_
    refine cReg ?_
    refine stP hf rfl rfl rfl (pM rfl) fun a hf => ?_
    refine stP hf rfl rfl rfl (pA rfl) fun a hf => ?_
    refine stP hf rfl rfl rfl (pA rfl) fun a hf => ?_
    refine cNil ?_
    refine h5 _ _ ?_
    refine wp_ret ?_
    refine xBlkR ?_
    refine xThenR ?_
    obtain rfl := Option.some.inj hF
    replace hc := hc.nilRow 3 1
    replace hc := hc.drop k1
    exact fnOut2 (by simp) rfl Try.results21 hf hc (show look _ 4 = _ from rfl) (show look _ 5 = _ from rfl) ⟨none, 0, rfl, hc⟩
  · replace hF := condF hb hF
    clear hb
    refine wp_seq_k fun K6 h6 => ?_
    refine cReg ?_
    refine stP hf rfl rfl rfl (pM rfl) fun a hf => ?_
    refine stP hf rfl rfl rfl (pLenS Try.underlying25 rfl) fun a hf => ?_
    refine stP hf rfl rfl rfl (pFA fa_24_2 rfl) fun a hf => ?_
    refine stE hf hc rfl rfl rfl (eLd1 sc_22 rfl (cell_box m0 rfl)) fun a w hf hc => ?_
    refine stP hf rfl rfl rfl (pLenS Try.underlying22 rfl) fun a hf => ?_
    refine stP hf rfl rfl rfl (pNe rfl rfl) fun a hf => ?_
    refine stP hf rfl rfl rfl (pA rfl) fun a hf => ?_
    refine cNil ?_
    refine h6 _ _ ?_
    refine cCond (b := (((published.length : Nat) : Int) != ((r.Days.length : Nat) : Int))) hf rfl (fun hb => ?_) (fun hb => ?_)
    · replace hF := condT hb hF
      clear hb
      refine wp_seq_k fun K7 h7 => ?_
      refine cReg ?_
      refine stP hf rfl rfl rfl (pA rfl) fun a hf => ?_
      refine stP hf rfl rfl rfl (pA rfl) fun a hf => ?_
      refine cNil ?_
      refine h7 _ _ ?_
      refine wp_ret ?_
      refine xBlkR ?_
      refine xThenR ?_
      obtain rfl := Option.some.inj hF
      replace hc := hc.nilRow 3 1
      replace hc := hc.drop k1
      exact fnOut2 (by simp) rfl Try.results21 hf hc (show look _ 4 = _ from rfl) (show look _ 5 = _ from rfl) ⟨none, 0, rfl, hc⟩
    · replace hF := condF hb hF
      clear hb
      refine wp_seq_k fun K8 h8 => ?_
      refine cReg ?_
      refine stP hf rfl rfl rfl (pM rfl) fun a hf => ?_
      obtain ⟨r_1, hr_1, hF⟩ := bnd_some hF
      refine stE hf hc rfl rfl rfl (eC (v := .bool r_1) (vs := [.slice published_p published.length published_c, .func (.func 67) #[] #[]]) (caps := []) en_66 rfl rfl rfl rfl (fun w hc => daily_every_api_Span_s2_ok published h_published hc hr_1)) fun a w hf hc => ?_
      refine stP hf rfl rfl rfl (pNot rfl) fun a hf => ?_
      refine stP hf rfl rfl rfl (pA rfl) fun a hf => ?_
      refine cNil ?_
      refine h8 _ _ ?_
      refine cCond (b := (!r_1)) hf rfl (fun hb => ?_) (fun hb => ?_)
      · replace hF := condT hb hF
        clear hb
        refine wp_seq_k fun K9 h9 => ?_
        refine cReg ?_
        refine stP hf rfl rfl rfl (pA rfl) fun a hf => ?_
        refine stP hf rfl rfl rfl (pA rfl) fun a hf => ?_
        refine cNil ?_
        refine h9 _ _ ?_
        refine wp_ret ?_
        refine xBlkR ?_
        refine xThenR ?_
        obtain rfl := Option.some.inj hF
        replace hc := hc.nilRow 3 1
        replace hc := hc.drop k1
        exact fnOut2 (by simp) rfl Try.results21 hf hc (show look _ 4 = _ from rfl) (show look _ 5 = _ from rfl) ⟨none, 0, rfl, hc⟩
      · replace hF := condF hb hF
        clear hb
        refine wp_skip ?_
        refine h3 _ _ ?_
        refine wp_seq_k fun K10 h10 => ?_
        refine cReg ?_
        refine stE hf hc rfl rfl rfl (eLdN (vs := [.int .i64 r.Rise, .int .i64 r.Fall, .slice r_Days_p r.Days.length r_Days_c]) ag_24 rfl rfl (cells_box (n := 3) m0 rfl)) fun a w hf hc => ?_
        obtain ⟨r_2, hr_2, hF⟩ := bnd_some hF
        cases r_2 with
        | inl r_2 =>
          replace hF := sumKl hF
          refine stC (vs := [.agg #[.int .i64 r.Rise, .int .i64 r.Fall, .slice r_Days_p r.Days.length r_Days_c]]) (caps := []) hf rfl rfl rfl en_61 rfl rfl rfl rfl (daily_agreed_ok r h_r_Days hc hr_2) ?_
          rintro _ w ⟨rfl, hc⟩
          refine ⟨_, rfl, fun a hf => ?_⟩
          refine stP hf rfl rfl rfl (pM rfl) fun a hf => ?_
          refine stP hf rfl rfl rfl (pX rfl rfl) fun a hf => ?_
          refine stP hf rfl rfl rfl (pX rfl rfl) fun a hf => ?_
          refine stP hf rfl rfl rfl (pA rfl) fun a hf => ?_
          refine stP hf rfl rfl rfl (pA rfl) fun a hf => ?_
          refine cNil ?_
          refine h10 _ _ ?_
          refine wp_seq_k fun K11 h11 => ?_
          refine wp_seq_k fun K12 h12 => ?_
          refine cReg ?_
          refine stP hf rfl rfl rfl (pM rfl) fun a hf => ?_
          refine stP hf rfl rfl rfl (pNe rfl rfl) fun a hf => ?_
          refine cNil ?_
          refine h12 _ _ ?_
          refine cCond (b := (r_2 != 0)) hf rfl (fun hb => ?_) (fun hb => ?_)
          · replace hF := condT hb hF
            clear hb
            refine wp_seq_k fun K13 h13 => ?_
            refine cReg ?_
            refine stP hf rfl rfl rfl (pM rfl) fun a hf => ?_
            refine stP hf rfl rfl rfl (pA rfl) fun a hf => ?_
            refine stP hf rfl rfl rfl (pA rfl) fun a hf => ?_
            refine cNil ?_
            refine h13 _ _ ?_
            refine wp_ret ?_
            refine xThenR ?_
            obtain rfl := Option.some.inj hF
            replace hc := hc.nilRow 3 1
            replace hc := hc.drop k1
            exact fnOut2 (by simp) rfl Try.results21 hf hc (show look _ 4 = _ from rfl) (show look _ 5 = _ from rfl) ⟨none, 0, rfl, hc⟩
          · replace hF := condF hb hF
            clear hb
            refine wp_skip ?_
            refine h11 _ _ ?_
            refine wp_seq_k fun K14 h14 => ?_
            refine cReg ?_
            refine stP hf rfl rfl rfl (pA rfl) fun a hf => ?_
            refine cNil ?_
            refine h14 _ _ ?_
            refine wp_seq_k fun K15 h15 => ?_
            refine cReg ?_
            refine stP hf rfl rfl rfl (pM rfl) fun a hf => ?_
            refine stP hf rfl rfl rfl (pMF (vs := [.pointer none]) (us := []) rfl rfl) fun a hf => ?_
            refine stP hf rfl rfl rfl (pA rfl) fun a hf => ?_
            refine cNil ?_
            refine h15 _ _ ?_
            refine wp_seq_k fun K16 h16 => ?_
            refine wp_seq_k fun K17 h17 => ?_
            refine cReg ?_
            refine stP hf rfl rfl rfl (pM rfl) fun a hf => ?_
            refine stP hf rfl rfl rfl (pLenS Try.underlying25 rfl) fun a hf => ?_
            refine stP hf rfl rfl rfl (pM rfl) fun a hf => ?_
            refine cNil ?_
            refine h17 _ _ ?_
            refine wp_block ?_
            obtain ⟨x18, hx18, hF⟩ := bnd_some hF
            let S18 : Unit → Act → World → Prop := (fun (zz : Unit) a w => Has 56 a [(8, .slice none 0 0), (9, .func (.func 68) #[.pointer none] #[]), (39, .slice published_p published.length published_c), (40, .int .i64 ((published.length : Nat) : Int)), (41, .int .i64 0)] ∧ Ctx G (Lf) w)
            have hr18 : ∀ (zz : Unit) a w, x18 = .go zz → S18 zz a w → K16 a w := by
              rintro ⟨⟩ a w rfl ⟨hf, hc⟩
              replace hF := exK_go hF
              refine h16 _ _ ?_
              refine wp_seq_k fun K19 h19 => ?_
              refine cReg ?_
              refine stP hf rfl rfl rfl (pM rfl) fun a hf => ?_
              refine stP hf rfl rfl rfl (pA rfl) fun a hf => ?_
              refine stP hf rfl rfl rfl (pA rfl) fun a hf => ?_
              refine cNil ?_
              refine h19 _ _ ?_
              refine wp_ret ?_
              obtain rfl := Option.some.inj hF
              replace hc := hc.nilRow 3 1
              exact fnOut2 (by simp) rfl Try.results21 hf hc (show look _ 4 = _ from rfl) (show look _ 5 = _ from rfl) ⟨none, 0, rfl, hc⟩
            have ho18 : ∀ r, x18 = .out r → r = res := by
              rintro r rfl
              exact Option.some.inj hF
            replace hc := hc.drop k0
            refine cLoop N (loopW (S := S18) (x := x18) ?_ N () _ _ ⟨hf.keep ⟨rfl, rfl, rfl, rfl, rfl, trivial⟩, hc⟩ hx18)
            clear hF hf hc
            rintro ⟨⟩ st18 a w KB18 ⟨hf, hc⟩ hF hfin18 hK18
            unfold daily_Again_b18 at hF
            refine wp_seq_k fun K20 h20 => ?_
            refine cReg ?_
            refine stP hf rfl rfl rfl (pLt rfl rfl) fun a hf => ?_
            refine cNil ?_
            refine h20 _ _ ?_
            refine wp_seq_k fun K21 h21 => ?_
            refine cCond (b := (decide (0 < ((published.length : Nat) : Int)))) hf rfl (fun hb => ?_) (fun hb => ?_)
            · replace hF := condT hb hF
              clear hb
              refine wp_skip ?_
              refine h21 _ _ ?_
              refine wp_seq_k fun K22 h22 => ?_
              refine wp_block ?_
              refine wp_seq_k fun K23 h23 => ?_
              refine cReg ?_
              refine stP hf rfl rfl rfl (pM rfl) fun a hf => ?_
              obtain ⟨e_1, he_1, hF⟩ := bnd_some hF
              obtain ⟨b_2, o, qa, qp⟩ := h_published.atm he_1
              refine stP hf rfl rfl rfl (pIA Try.underlying25 sz_30 rfl rfl qa) fun a hf => ?_
              refine stE hf hc rfl rfl rfl (eLdN (vs := [.int .i64 e_1.Lo, .int .i64 e_1.Hi]) ag_30 rfl rfl (cells_pc qp (n := 2) (o' := 0) rfl)) fun a w hf hc => ?_
              refine stAl (cs := [.int .i64 0, .int .i64 0]) hf hc rfl rfl zr_30 rfl fun b_3 a w hf hc => ?_
              refine stP hf rfl rfl rfl (pA rfl) fun a hf => ?_
              refine stSt (vs := [.int .i64 e_1.Lo, .int .i64 e_1.Hi]) hf hc rfl rfl rfl rfl sz_30 rfl rfl u0 fun w hc => ?_
              refine cNil ?_
              refine h23 _ _ ?_
              refine wp_seq_k fun K24 h24 => ?_
              exact noneO hF
            · replace hF := condF hb hF
              clear hb
              refine wp_exit ?_
              refine xThen ?_
              refine xThen ?_
              have he := Option.some.inj hF
              rw [← he] at hfin18
              refine cHit ?_
              exact hr18 _ _ _ hfin18 ⟨hf.keep ⟨rfl, rfl, rfl, rfl, rfl, trivial⟩, hc⟩
        | inr r_3 =>
          replace hF := sumKr hF
          have hr_3 := hr_2
          refine stC (vs := [.agg #[.int .i64 r.Rise, .int .i64 r.Fall, .slice r_Days_p r.Days.length r_Days_c]]) (caps := []) hf rfl rfl rfl en_61 rfl rfl rfl rfl (daily_agreed_ok r h_r_Days hc hr_3) ?_
          rintro _ w ⟨b_4, p_1, c_1, rfl, hc⟩
          refine ⟨_, rfl, fun a hf => ?_⟩
          refine stP hf rfl rfl rfl (pM rfl) fun a hf => ?_
          refine stP hf rfl rfl rfl (pX rfl rfl) fun a hf => ?_
          refine stP hf rfl rfl rfl (pX rfl rfl) fun a hf => ?_
          refine stP hf rfl rfl rfl (pA rfl) fun a hf => ?_
          refine stP hf rfl rfl rfl (pA rfl) fun a hf => ?_
          refine cNil ?_
          refine h10 _ _ ?_
          refine wp_seq_k fun K25 h25 => ?_
          refine wp_seq_k fun K26 h26 => ?_
          refine cReg ?_
          refine stP hf rfl rfl rfl (pM rfl) fun a hf => ?_
          refine stP hf rfl rfl rfl (pNe rfl rfl) fun a hf => ?_
          refine cNil ?_
          refine h26 _ _ ?_
          refine cCond (b := (r_3.2.2.2 != 0)) hf rfl (fun hb => ?_) (fun hb => ?_)
          · replace hF := condT hb hF
            clear hb
            refine wp_seq_k fun K27 h27 => ?_
            refine cReg ?_
            refine stP hf rfl rfl rfl (pM rfl) fun a hf => ?_
            refine stP hf rfl rfl rfl (pA rfl) fun a hf => ?_
            refine stP hf rfl rfl rfl (pA rfl) fun a hf => ?_
            refine cNil ?_
            refine h27 _ _ ?_
            refine wp_ret ?_
            refine xThenR ?_
            obtain rfl := Option.some.inj hF
            replace hc := hc.nilRow 3 1
            replace hc := hc.drop k3
            replace hc := hc.drop k2
            replace hc := hc.drop k1
            exact fnOut2 (by simp) rfl Try.results21 hf hc (show look _ 4 = _ from rfl) (show look _ 5 = _ from rfl) ⟨none, 0, rfl, hc⟩
          · replace hF := condF hb hF
            clear hb
            refine wp_skip ?_
            refine h25 _ _ ?_
            refine wp_seq_k fun K28 h28 => ?_
            refine cReg ?_
            refine stP hf rfl rfl rfl (pA rfl) fun a hf => ?_
            refine cNil ?_
            refine h28 _ _ ?_
            refine wp_seq_k fun K29 h29 => ?_
            refine cReg ?_
            refine stP hf rfl rfl rfl (pM rfl) fun a hf => ?_
            refine stP hf rfl rfl rfl (pMF (vs := [.pointer (some ⟨b_4, 0, none⟩)]) (us := []) rfl rfl) fun a hf => ?_
            refine stP hf rfl rfl rfl (pA rfl) fun a hf => ?_
            refine cNil ?_
            refine h29 _ _ ?_
            refine wp_seq_k fun K30 h30 => ?_
            refine wp_seq_k fun K31 h31 => ?_
            refine cReg ?_
            refine stP hf rfl rfl rfl (pM rfl) fun a hf => ?_
            refine stP hf rfl rfl rfl (pLenS Try.underlying25 rfl) fun a hf => ?_
            refine stP hf rfl rfl rfl (pM rfl) fun a hf => ?_
            refine cNil ?_
            refine h31 _ _ ?_
            refine wp_block ?_
            obtain ⟨x32, hx32, hF⟩ := bnd_some hF
            let S32 : ((List Int) × Int) → Act → World → Prop := (fun (zz : (List Int) × Int) a w => ∃ (p_2 : Option Addr) (c_2 : Nat), Has 56 a [(8, .slice p_2 zz.1.length c_2), (9, .func (.func 68) #[.pointer (some ⟨b_4, 0, none⟩)] #[]), (39, .slice published_p published.length published_c), (40, .int .i64 ((published.length : Nat) : Int)), (41, .int .i64 zz.2)] ∧ Ctx G (.row p_2 c_2 (zz.1.map encI_i64) 3 1 :: .row p_1 c_1 (r_3.2.2.1.map enc_api_Span) 30 2 :: .box b_4 [.int .i64 r_3.1, .int .i64 r_3.2.1, .slice r_Days_p r.Days.length r_Days_c, .slice p_1 r_3.2.2.1.length c_1] 120 :: Lf) w)
            have hr32 : ∀ (zz : (List Int) × Int) a w, x32 = .go zz → S32 zz a w → K30 a w := by
              rintro ⟨out, x⟩ a w rfl ⟨p_2, c_2, hf, hc⟩
              replace hF := exK_go hF
              refine h30 _ _ ?_
              refine wp_seq_k fun K33 h33 => ?_
              refine cReg ?_
              refine stP hf rfl rfl rfl (pM rfl) fun a hf => ?_
              refine stP hf rfl rfl rfl (pA rfl) fun a hf => ?_
              refine stP hf rfl rfl rfl (pA rfl) fun a hf => ?_
              refine cNil ?_
              refine h33 _ _ ?_
              refine wp_ret ?_
              obtain rfl := Option.some.inj hF
              replace hc := hc.drop k2
              replace hc := hc.drop k1
              exact fnOut2 (by simp) rfl Try.results21 hf hc (show look _ 4 = _ from rfl) (show look _ 5 = _ from rfl) ⟨p_2, c_2, rfl, hc⟩
            have ho32 : ∀ r, x32 = .out r → r = res := by
              rintro r rfl
              exact Option.some.inj hF
            replace hc := hc.nilRow 3 1
            replace hc := hc.drop k3
            refine cLoop N (loopW (S := S32) (x := x32) ?_ N (([] : List Int), 0) _ _ ⟨none, 0, hf.keep ⟨rfl, rfl, rfl, rfl, rfl, trivial⟩, hc⟩ hx32)
            clear hF hf hc
            rintro ⟨out, x⟩ st32 a w KB32 ⟨p_2, c_2, hf, hc⟩ hF hfin32 hK32
            unfold daily_Again_b32 at hF
            refine wp_seq_k fun K34 h34 => ?_
            refine cReg ?_
            refine stP hf rfl rfl rfl (pLt rfl rfl) fun a hf => ?_
            refine cNil ?_
            refine h34 _ _ ?_
            refine wp_seq_k fun K35 h35 => ?_
            refine cCond (b := (decide (x < ((published.length : Nat) : Int)))) hf rfl (fun hb => ?_) (fun hb => ?_)
            · replace hF := condT hb hF
              clear hb
              refine wp_skip ?_
              refine h35 _ _ ?_
              refine wp_seq_k fun K36 h36 => ?_
              have hj36 : ∀ (out_1 : List Int) (p_3 : Option Addr) (c_3 : Nat) a w, Has 56 a [(8, .slice p_3 out_1.length c_3), (9, .func (.func 68) #[.pointer (some ⟨b_4, 0, none⟩)] #[]), (39, .slice published_p published.length published_c), (40, .int .i64 ((published.length : Nat) : Int)), (41, .int .i64 x)] → Ctx G (.row p_3 c_3 (out_1.map encI_i64) 3 1 :: .row p_1 c_1 (r_3.2.2.1.map enc_api_Span) 30 2 :: .box b_4 [.int .i64 r_3.1, .int .i64 r_3.2.1, .slice r_Days_p r.Days.length r_Days_c, .slice p_1 r_3.2.2.1.length c_1] 120 :: Lf) w → daily_Again_j36 N x out_1 = some st32 → K36 a w := by
                repeat (clear hF)
                repeat (clear hc)
                repeat (clear hf)
                intro out_1 p_3 c_3 a w hf hc hF
                unfold daily_Again_j36 at hF
                refine h36 _ _ ?_
                refine cReg ?_
                refine stP hf rfl rfl rfl (pAdd rfl rfl) fun a hf => ?_
                refine stP hf rfl rfl rfl (pM rfl) fun a hf => ?_
                refine cNil ?_
                exact hK32 (out_1, W (x + 1)) _ _ (Option.some.inj hF).symm ⟨p_3, c_3, hf.keep ⟨rfl, rfl, rfl, rfl, rfl, trivial⟩, hc⟩
              refine wp_block ?_
              refine wp_seq_k fun K37 h37 => ?_
              refine cReg ?_
              refine stP hf rfl rfl rfl (pM rfl) fun a hf => ?_
              obtain ⟨e_2, he_2, hF⟩ := bnd_some hF
              obtain ⟨b_5, o_1, qa_1, qp_1⟩ := h_published.atm he_2
              refine stP hf rfl rfl rfl (pIA Try.underlying25 sz_30 rfl rfl qa_1) fun a hf => ?_
              refine stE hf hc rfl rfl rfl (eLdN (vs := [.int .i64 e_2.Lo, .int .i64 e_2.Hi]) ag_30 rfl rfl (cells_pc qp_1 (n := 2) (o' := 0) rfl)) fun a w hf hc => ?_
              refine stAl (cs := [.int .i64 0, .int .i64 0]) hf hc rfl rfl zr_30 rfl fun b_6 a w hf hc => ?_
              refine stP hf rfl rfl rfl (pA rfl) fun a hf => ?_
              refine stSt (vs := [.int .i64 e_2.Lo, .int .i64 e_2.Hi]) hf hc rfl rfl rfl rfl sz_30 rfl rfl u0 fun w hc => ?_
              refine cNil ?_
              refine h37 _ _ ?_
              refine wp_seq_k fun K38 h38 => ?_
              refine cReg ?_
              refine stP hf rfl rfl rfl (pM rfl) fun a hf => ?_
              refine stP hf rfl rfl rfl (pM rfl) fun a hf => ?_
              refine stE hf hc rfl rfl rfl (eLdN (vs := [.int .i64 e_2.Lo, .int .i64 e_2.Hi]) ag_30 rfl rfl (cells_box (n := 2) m0 rfl)) fun a w hf hc => ?_
              obtain ⟨r_4, hr_4, hF⟩ := bnd_some hF
              refine stE hf hc rfl rfl rfl (eCB (v := .bool r_4) (bs := [.pointer (some ⟨b_4, 0, none⟩)]) (vs := [.int .i64 x, .agg #[.int .i64 e_2.Lo, .int .i64 e_2.Hi]]) (caps := []) en_68 rfl rfl rfl rfl (fun w hc => by obtain ⟨G1, hle1, hrd1, hc, hth1⟩ := lend hc k2; exact (daily_work_again_ok (⟨(⟨r_3.1, r_3.2.1, r.Days⟩ : daily_Record), r_3.2.2.1⟩ : daily_work) x e_2 (h_r_Days.mono hle1) hrd1 (hc.pick k2) hr_4).mono fun e w h => ⟨h.1, ((hth1 _ _ (h.2.unpick k2)).unpick k2)⟩)) fun a w hf hc => ?_
              refine cNil ?_
              refine h38 _ _ ?_
              refine cCond (b := r_4) hf rfl (fun hb => ?_) (fun hb => ?_)
              · replace hF := condT hb hF
                clear hb
                refine cReg ?_
                refine stP hf rfl rfl rfl (pM rfl) fun a hf => ?_
                refine stP hf rfl rfl rfl (pM rfl) fun a hf => ?_
                refine stBS (rows := ([x] : List Int).map encI_i64) (vs := [(0, .int .i64 x)]) hf hc rfl rfl sl_39 rfl ⟨rfl, rfl, rfl, trivial⟩ rfl rfl fun b_7 a w hf hc => ?_
                obtain ⟨un, hun, hF⟩ := bnd_some hF
                refine stApm (xs := out) (ys := ([x] : List Int)) hf hc rfl rfl sl_39 rfl rfl rfl rfl rfl one_encI_i64 (src_row hc m0) (fun _ _ => u2) (by simpa using room_spec hun) fun p_4 c_4 a w hf hc => ?_
                refine stP hf rfl rfl rfl (pA rfl) fun a hf => ?_
                refine cNil ?_
                replace hc := hc.drop k1
                replace hc := hc.drop k0
                exact hj36 (out ++ [x]) p_4 c_4 _ _  (hf.keep ⟨rfl, rfl, rfl, rfl, rfl, trivial⟩) hc hF
              · replace hF := condF hb hF
                clear hb
                refine wp_skip ?_
                replace hc := hc.drop k0
                exact hj36 out p_2 c_2 _ _  (hf.keep ⟨rfl, rfl, rfl, rfl, rfl, trivial⟩) hc hF
            · replace hF := condF hb hF
              clear hb
              refine wp_exit ?_
              refine xThen ?_
              refine xThen ?_
              have he := Option.some.inj hF
              rw [← he] at hfin32
              refine cHit ?_
              exact hr32 _ _ _ hfin32 ⟨p_2, c_2, hf.keep ⟨rfl, rfl, rfl, rfl, rfl, trivial⟩, hc⟩

def law07_Counter_b5 (N : Nat) (values : List Int) (out : List daily_Reading) (x : Int) : Option (Step ((List daily_Reading) × Int) ((List daily_Reading))) :=
  cond (decide (x < ((values.length : Nat) : Int)))
  (Option.bind (getI values x) fun e_1 =>
  Option.bind (room ((out ++ [(⟨e_1, 1⟩ : daily_Reading)])).length) fun un =>
  some (.cont ((out ++ [(⟨e_1, 1⟩ : daily_Reading)]), W (x + 1))))
  (some (.brk (out, x)))
def law07_Counter (N : Nat) (values : List Int) : Option ((List daily_Reading)) :=
  Option.bind (loopO (fun s5 => law07_Counter_b5 N values s5.1 s5.2) N (([] : List daily_Reading), 0)) fun x5 =>
  exK x5 (fun s5 => some s5.1) some
theorem law07_Counter_ok {N : Nat} {G : Pers} {Lf : List Ent} {w : World} (values : List Int) {values_p : Option Addr} {values_c : Nat} (h_values : Rd G 1 values_p values_c (values.map encI_i64)) (hc : Ctx G (Lf) w) {res : (List daily_Reading)} (hF : law07_Counter N values = some res) : Calls Try.prog 59 #[.slice values_p values.length values_c] w (fun e w => ∃ (p'1 : Option Addr) (c'1 : Nat), e = .returned (.slice p'1 res.length c'1) ∧ Ctx G (.row p'1 c'1 (res.map enc_daily_Reading) 102 2 :: Lf) w) := by
  unfold law07_Counter at hF
  refine fnIn (args := [.slice values_p values.length values_c]) Try.func59 rfl Try.ntmps59 rfl fun a hf => ?_
  refine wp_seq_k fun K1 h1 => ?_
  refine cReg ?_
  refine stP hf rfl rfl rfl (pA rfl) fun a hf => ?_
  refine cNil ?_
  refine h1 _ _ ?_
  refine wp_seq_k fun K2 h2 => ?_
  refine cReg ?_
  refine stP hf rfl rfl rfl (pA rfl) fun a hf => ?_
  refine cNil ?_
  refine h2 _ _ ?_
  refine wp_seq_k fun K3 h3 => ?_
  refine wp_seq_k fun K4 h4 => ?_
  refine cReg ?_
  refine stP hf rfl rfl rfl (pM rfl) fun a hf => ?_
  refine stP hf rfl rfl rfl (pLenS Try.underlying39 rfl) fun a hf => ?_
  refine stP hf rfl rfl rfl (pM rfl) fun a hf => ?_
  refine cNil ?_
  refine h4 _ _ ?_
  refine wp_block ?_
  obtain ⟨x5, hx5, hF⟩ := bnd_some hF
  let S5 : ((List daily_Reading) × Int) → Act → World → Prop := (fun (zz : (List daily_Reading) × Int) a w => ∃ (p_1 : Option Addr) (c_1 : Nat), Has 19 a [(3, .slice p_1 zz.1.length c_1), (6, .slice values_p values.length values_c), (7, .int .i64 ((values.length : Nat) : Int)), (8, .int .i64 zz.2)] ∧ Ctx G (.row p_1 c_1 (zz.1.map enc_daily_Reading) 102 2 :: Lf) w)
  have hr5 : ∀ (zz : (List daily_Reading) × Int) a w, x5 = .go zz → S5 zz a w → K3 a w := by
    rintro ⟨out, x⟩ a w rfl ⟨p_1, c_1, hf, hc⟩
    replace hF := exK_go hF
    refine h3 _ _ ?_
    refine wp_seq_k fun K6 h6 => ?_
    refine cReg ?_
    refine stP hf rfl rfl rfl (pM rfl) fun a hf => ?_
    refine stP hf rfl rfl rfl (pA rfl) fun a hf => ?_
    refine cNil ?_
    refine h6 _ _ ?_
    refine wp_ret ?_
    obtain rfl := Option.some.inj hF
    exact fnOut1 (by simp) rfl Try.results59 hf hc (show look _ 2 = _ from rfl) ⟨p_1, c_1, rfl, hc⟩
  have ho5 : ∀ r, x5 = .out r → r = res := by
    rintro r rfl
    exact Option.some.inj hF
  replace hc := hc.nilRow 102 2
  refine cLoop N (loopW (S := S5) (x := x5) ?_ N (([] : List daily_Reading), 0) _ _ ⟨none, 0, hf.keep ⟨rfl, rfl, rfl, rfl, trivial⟩, hc⟩ hx5)
  clear hF hf hc
  rintro ⟨out, x⟩ st5 a w KB5 ⟨p_1, c_1, hf, hc⟩ hF hfin5 hK5
  unfold law07_Counter_b5 at hF
  refine wp_seq_k fun K7 h7 => ?_
  refine cReg ?_
  refine stP hf rfl rfl rfl (pLt rfl rfl) fun a hf => ?_
  refine cNil ?_
  refine h7 _ _ ?_
  refine wp_seq_k fun K8 h8 => ?_
  refine cCond (b := (decide (x < ((values.length : Nat) : Int)))) hf rfl (fun hb => ?_) (fun hb => ?_)
  · replace hF := condT hb hF
    clear hb
    refine wp_skip ?_
    refine h8 _ _ ?_
    refine wp_seq_k fun K9 h9 => ?_
    refine wp_block ?_
    refine wp_seq_k fun K10 h10 => ?_
    refine cReg ?_
    obtain ⟨e_1, he_1, hF⟩ := bnd_some hF
    obtain ⟨b_1, o, qa, qp⟩ := h_values.atm he_1
    refine stP hf rfl rfl rfl (pIA Try.underlying39 sz_3 rfl rfl qa) fun a hf => ?_
    refine stE hf hc rfl rfl rfl (eLd1 sc_3 rfl (cell_pc (j := 0) qp rfl)) fun a w hf hc => ?_
    refine stP hf rfl rfl rfl (pA rfl) fun a hf => ?_
    refine cNil ?_
    refine h10 _ _ ?_
    refine cReg ?_
    refine stP hf rfl rfl rfl (pM rfl) fun a hf => ?_
    refine stP hf rfl rfl rfl (pM rfl) fun a hf => ?_
    refine stP hf rfl rfl rfl (pBuildS (cells := [.int .i64 e_1, .int .i64 1]) bt_102 rfl rfl) fun a hf => ?_
    refine stBS (rows := ([(⟨e_1, 1⟩ : daily_Reading)] : List daily_Reading).map enc_daily_Reading) (vs := [(0, .agg #[.int .i64 e_1, .int .i64 1])]) hf hc rfl rfl sl_96 rfl ⟨rfl, rfl, rfl, trivial⟩ rfl rfl fun b_2 a w hf hc => ?_
    obtain ⟨un, hun, hF⟩ := bnd_some hF
    refine stApm (xs := out) (ys := ([(⟨e_1, 1⟩ : daily_Reading)] : List daily_Reading)) hf hc rfl rfl sl_96 rfl rfl rfl rfl rfl one_enc_daily_Reading (src_row hc m0) (fun _ _ => u1) (by simpa using room_spec hun) fun p_2 c_2 a w hf hc => ?_
    refine stP hf rfl rfl rfl (pA rfl) fun a hf => ?_
    refine cNil ?_
    refine h9 _ _ ?_
    refine cReg ?_
    refine stP hf rfl rfl rfl (pAdd rfl rfl) fun a hf => ?_
    refine stP hf rfl rfl rfl (pM rfl) fun a hf => ?_
    refine cNil ?_
    replace hc := hc.drop k0
    exact hK5 ((out ++ [(⟨e_1, 1⟩ : daily_Reading)]), W (x + 1)) _ _ (Option.some.inj hF).symm ⟨p_2, c_2, hf.keep ⟨rfl, rfl, rfl, rfl, trivial⟩, hc⟩
  · replace hF := condF hb hF
    clear hb
    refine wp_exit ?_
    refine xThen ?_
    refine xThen ?_
    have he := Option.some.inj hF
    rw [← he] at hfin5
    refine cHit ?_
    exact hr5 _ _ _ hfin5 ⟨p_1, c_1, hf.keep ⟨rfl, rfl, rfl, rfl, trivial⟩, hc⟩

def daily_CheckReadings_1 (x : daily_Reading) : Bool :=
  ((daily_in x.Value 0 1000000) && (daily_in x.Weight 1 100))
theorem daily_CheckReadings_1_ok {G : Pers} {Lf : List Ent} {w : World} (x : daily_Reading)   (hc : Ctx G (Lf) w) {res : Bool} (hF : daily_CheckReadings_1 x = res) : Calls Try.prog 114 #[.agg #[.int .i64 x.Value, .int .i64 x.Weight]] w (fun e w => e = .returned (.bool res) ∧ Ctx G (Lf) w) := by
  unfold daily_CheckReadings_1 at hF
  refine fnIn (args := [.agg #[.int .i64 x.Value, .int .i64 x.Weight]]) Try.func114 rfl Try.ntmps114 rfl fun a hf => ?_
  refine wp_seq_k fun K1 h1 => ?_
  refine cReg ?_
  refine stBx (cs := [.int .i64 x.Value, .int .i64 x.Weight]) hf hc rfl rfl rfl rfl fun b_1 a w hf hc => ?_
  refine stP hf rfl rfl rfl (pA rfl) fun a hf => ?_
  refine cNil ?_
  refine h1 _ _ ?_
  refine wp_seq_k fun K2 h2 => ?_
  refine cReg ?_
  refine stP hf rfl rfl rfl (pFA fa_102_0 rfl) fun a hf => ?_
  refine stE hf hc rfl rfl rfl (eLd1 sc_3 rfl (cell_box m0 rfl)) fun a w hf hc => ?_
  refine stE hf hc rfl rfl rfl (eC (v := .bool (daily_in x.Value 0 1000000)) (vs := [.int .i64 x.Value, .int .i64 0, .int .i64 1000000]) (caps := []) en_60 rfl rfl rfl rfl (fun w hc => daily_in_ok x.Value 0 1000000 hc rfl)) fun a w hf hc => ?_
  refine stP hf rfl rfl rfl (pM rfl) fun a hf => ?_
  refine stCut 4 (fun a w => Has 11 a [(1, .pointer (some ⟨b_1, 0, none⟩)), (2, .bool false), (3, .pointer (some ⟨b_1, 0, none⟩)), (4, .int .i64 x.Value), (5, .bool (daily_in x.Value 0 1000000)), (6, .bool (daily_in x.Value 0 1000000)), (10, .bool ((daily_in x.Value 0 1000000) && (daily_in x.Weight 1 100)))] ∧ Ctx G (.box b_1 [.int .i64 x.Value, .int .i64 x.Weight] 102 :: Lf) w) ?_ ?_
  · cases hb : (daily_in x.Value 0 1000000)
    · rw [hb] at hf
      refine stS hf rfl rfl rfl fun a hf => ?_
      refine stS hf rfl rfl rfl fun a hf => ?_
      refine stS hf rfl rfl rfl fun a hf => ?_
      refine stP hf rfl rfl rfl (pPf rfl rfl) fun a hf => ?_
      exact cNil ⟨hf.keep ⟨rfl, rfl, rfl, rfl, rfl, rfl, rfl, trivial⟩, hc⟩
    · rw [hb] at hf
      refine stP hf rfl rfl rfl (pFA fa_102_1 rfl) fun a hf => ?_
      refine stE hf hc rfl rfl rfl (eLd1 sc_3 rfl (cell_box m0 rfl)) fun a w hf hc => ?_
      refine stE hf hc rfl rfl rfl (eC (v := .bool (daily_in x.Weight 1 100)) (vs := [.int .i64 x.Weight, .int .i64 1, .int .i64 100]) (caps := []) en_60 rfl rfl rfl rfl (fun w hc => daily_in_ok x.Weight 1 100 hc rfl)) fun a w hf hc => ?_
      refine stP hf rfl rfl rfl (pPt rfl rfl) fun a hf => ?_
      exact cNil ⟨hf.keep ⟨rfl, rfl, rfl, rfl, rfl, rfl, rfl, trivial⟩, hc⟩
  intro a w ⟨hf, hc⟩
  refine stP hf rfl rfl rfl (pA rfl) fun a hf => ?_
  refine cNil ?_
  refine h2 _ _ ?_
  refine wp_ret ?_
  obtain rfl := hF
  replace hc := hc.drop k0
  exact fnOut1 (by simp) rfl Try.results114 hf hc (show look _ 2 = _ from rfl) ⟨rfl, hc⟩

def daily_every_daily_Reading_1 (x : daily_Reading) : Bool :=
  (!(daily_CheckReadings_1 (⟨x.Value, x.Weight⟩ : daily_Reading)))
theorem daily_every_daily_Reading_1_ok {G : Pers} {Lf : List Ent} {w : World} (x : daily_Reading) {b_ : Nat}  (hc : Ctx G (.box b_ [.func (.func 114) #[] #[]] 172 :: Lf) w) {res : Bool} (hF : daily_every_daily_Reading_1 x = res) : Calls Try.prog 130 #[.agg #[.int .i64 x.Value, .int .i64 x.Weight], .pointer (some ⟨b_, 0, none⟩)] w (fun e w => e = .returned (.bool res) ∧ Ctx G (.box b_ [.func (.func 114) #[] #[]] 172 :: Lf) w) := by
  unfold daily_every_daily_Reading_1 at hF
  refine fnIn (args := [.agg #[.int .i64 x.Value, .int .i64 x.Weight], .pointer (some ⟨b_, 0, none⟩)]) Try.func130 rfl Try.ntmps130 rfl fun a hf => ?_
  refine wp_seq_k fun K1 h1 => ?_
  refine cReg ?_
  refine stBx (cs := [.int .i64 x.Value, .int .i64 x.Weight]) hf hc rfl rfl rfl rfl fun b_1 a w hf hc => ?_
  refine stP hf rfl rfl rfl (pA rfl) fun a hf => ?_
  refine cNil ?_
  refine h1 _ _ ?_
  refine wp_seq_k fun K2 h2 => ?_
  refine cReg ?_
  refine stE hf hc rfl rfl rfl (eLd1 sc_172 rfl (cell_box m1 rfl)) fun a w hf hc => ?_
  refine stE hf hc rfl rfl rfl (eLdN (vs := [.int .i64 x.Value, .int .i64 x.Weight]) ag_102 rfl rfl (cells_box (n := 2) m0 rfl)) fun a w hf hc => ?_
  refine stE hf hc rfl rfl rfl (eC (v := .bool (daily_CheckReadings_1 (⟨x.Value, x.Weight⟩ : daily_Reading))) (vs := [.agg #[.int .i64 x.Value, .int .i64 x.Weight]]) (caps := []) en_114 rfl rfl rfl rfl (fun w hc => daily_CheckReadings_1_ok (⟨x.Value, x.Weight⟩ : daily_Reading) hc rfl)) fun a w hf hc => ?_
  refine stP hf rfl rfl rfl (pNot rfl) fun a hf => ?_
  refine stP hf rfl rfl rfl (pA rfl) fun a hf => ?_
  refine cNil ?_
  refine h2 _ _ ?_
  refine wp_ret ?_
  obtain rfl := hF
  replace hc := hc.drop k0
  exact fnOut1 (by simp) rfl Try.results130 hf hc (show look _ 3 = _ from rfl) ⟨rfl, hc⟩

def slices_IndexFunc_Ldaily_Reading_daily_Reading_b4 (N : Nat) (s_ : List daily_Reading) (x : Int) : Option (Step (Int) (Int)) :=
  cond (decide (x < ((s_.length : Nat) : Int)))
  (Option.bind (getI s_ x) fun e_1 =>
  cond (daily_every_daily_Reading_1 e_1)
  (some (.ret x))
  (some (.cont (W (x + 1)))))
  (some (.brk x))
def slices_IndexFunc_Ldaily_Reading_daily_Reading (N : Nat) (s_ : List daily_Reading) : Option (Int) :=
  Option.bind (loopO (fun s4 => slices_IndexFunc_Ldaily_Reading_daily_Reading_b4 N s_ s4) N 0) fun x4 =>
  exK x4 (fun s4 => some (-1)) some
theorem slices_IndexFunc_Ldaily_Reading_daily_Reading_ok {N : Nat} {G : Pers} {Lf : List Ent} {w : World} (s_ : List daily_Reading) {s__p : Option Addr} {s__c : Nat} {b_ : Nat} (h_s_ : Rd G 2 s__p s__c (s_.map enc_daily_Reading)) (hc : Ctx G (.box b_ [.func (.func 114) #[] #[]] 172 :: Lf) w) {res : Int} (hF : slices_IndexFunc_Ldaily_Reading_daily_Reading N s_ = some res) : Calls Try.prog 144 #[.slice s__p s_.length s__c, .func (.func 130) #[] #[.pointer (some ⟨b_, 0, none⟩)]] w (fun e w => e = .returned (.int .i64 res) ∧ Ctx G (.box b_ [.func (.func 114) #[] #[]] 172 :: Lf) w) := by
  unfold slices_IndexFunc_Ldaily_Reading_daily_Reading at hF
  refine fnIn (args := [.slice s__p s_.length s__c, .func (.func 130) #[] #[.pointer (some ⟨b_, 0, none⟩)]]) Try.func144 rfl Try.ntmps144 rfl fun a hf => ?_
  refine wp_seq_k fun K1 h1 => ?_
  refine cReg ?_
  refine stP hf rfl rfl rfl (pA rfl) fun a hf => ?_
  refine cNil ?_
  refine h1 _ _ ?_
  refine wp_seq_k fun K2 h2 => ?_
  refine wp_seq_k fun K3 h3 => ?_
  refine cReg ?_
  refine stP hf rfl rfl rfl (pM rfl) fun a hf => ?_
  refine stP hf rfl rfl rfl (pLenS Try.underlying96 rfl) fun a hf => ?_
  refine stP hf rfl rfl rfl (pM rfl) fun a hf => ?_
  refine cNil ?_
  refine h3 _ _ ?_
  refine wp_block ?_
  obtain ⟨x4, hx4, hF⟩ := bnd_some hF
  let S4 : Int → Act → World → Prop := (fun (zz : Int) a w => Has 19 a [(0, .slice s__p s_.length s__c), (1, .func (.func 130) #[] #[.pointer (some ⟨b_, 0, none⟩)]), (7, .int .i64 ((s_.length : Nat) : Int)), (8, .int .i64 zz)] ∧ Ctx G (.box b_ [.func (.func 114) #[] #[]] 172 :: Lf) w)
  have hr4 : ∀ (zz : Int) a w, x4 = .go zz → S4 zz a w → K2 a w := by
    rintro x a w rfl ⟨hf, hc⟩
    replace hF := exK_go hF
    refine h2 _ _ ?_
    refine wp_seq_k fun K5 h5 => ?_
    refine cReg ?_
    refine stP hf rfl rfl rfl (pA rfl) fun a hf => ?_
    refine cNil ?_
    refine h5 _ _ ?_
    refine wp_ret ?_
    obtain rfl := Option.some.inj hF
    exact fnOut1 (by simp) rfl Try.results144 hf hc (show look _ 4 = _ from rfl) ⟨rfl, hc⟩
  have ho4 : ∀ r, x4 = .out r → r = res := by
    rintro r rfl
    exact Option.some.inj hF
  refine cLoop N (loopW (S := S4) (x := x4) ?_ N 0 _ _ ⟨hf.keep ⟨rfl, rfl, rfl, rfl, trivial⟩, hc⟩ hx4)
  clear hF hf hc
  rintro x st4 a w KB4 ⟨hf, hc⟩ hF hfin4 hK4
  unfold slices_IndexFunc_Ldaily_Reading_daily_Reading_b4 at hF
  refine wp_seq_k fun K6 h6 => ?_
  refine cReg ?_
  refine stP hf rfl rfl rfl (pLt rfl rfl) fun a hf => ?_
  refine cNil ?_
  refine h6 _ _ ?_
  refine wp_seq_k fun K7 h7 => ?_
  refine cCond (b := (decide (x < ((s_.length : Nat) : Int)))) hf rfl (fun hb => ?_) (fun hb => ?_)
  · replace hF := condT hb hF
    clear hb
    refine wp_skip ?_
    refine h7 _ _ ?_
    refine wp_seq_k fun K8 h8 => ?_
    refine wp_block ?_
    refine wp_seq_k fun K9 h9 => ?_
    refine cReg ?_
    refine stP hf rfl rfl rfl (pM rfl) fun a hf => ?_
    refine stP hf rfl rfl rfl (pA rfl) fun a hf => ?_
    refine cNil ?_
    refine h9 _ _ ?_
    refine wp_seq_k fun K10 h10 => ?_
    refine cReg ?_
    refine stP hf rfl rfl rfl (pM rfl) fun a hf => ?_
    refine stP hf rfl rfl rfl (pM rfl) fun a hf => ?_
    refine stP hf rfl rfl rfl (pM rfl) fun a hf => ?_
    obtain ⟨e_1, he_1, hF⟩ := bnd_some hF
    obtain ⟨b_1, o, qa, qp⟩ := h_s_.atm he_1
    refine stP hf rfl rfl rfl (pIA Try.underlying96 sz_102 rfl rfl qa) fun a hf => ?_
    refine stE hf hc rfl rfl rfl (eLdN (vs := [.int .i64 e_1.Value, .int .i64 e_1.Weight]) ag_102 rfl rfl (cells_pc qp (n := 2) (o' := 0) rfl)) fun a w hf hc => ?_
    refine stE hf hc rfl rfl rfl (eC (v := .bool (daily_every_daily_Reading_1 e_1)) (vs := [.agg #[.int .i64 e_1.Value, .int .i64 e_1.Weight]]) (caps := [.pointer (some ⟨b_, 0, none⟩)]) en_130 rfl rfl rfl rfl (fun w hc => (daily_every_daily_Reading_1_ok e_1 (hc.pick k0) rfl).mono fun e w h => ⟨h.1, (h.2.unpick k0)⟩)) fun a w hf hc => ?_
    refine cNil ?_
    refine h10 _ _ ?_
    refine cCond (b := (daily_every_daily_Reading_1 e_1)) hf rfl (fun hb => ?_) (fun hb => ?_)
    · replace hF := condT hb hF
      clear hb
      refine wp_seq_k fun K11 h11 => ?_
      refine cReg ?_
      refine stP hf rfl rfl rfl (pM rfl) fun a hf => ?_
      refine stP hf rfl rfl rfl (pA rfl) fun a hf => ?_
      refine cNil ?_
      refine h11 _ _ ?_
      refine wp_ret ?_
      refine xBlkR ?_
      refine xThenR ?_
      refine xThenR ?_
      have he := Option.some.inj hF
      rw [← he] at hfin4
      replace hF := ho4 _ hfin4
      refine xBlkR ?_
      refine xThenR ?_
      obtain rfl := hF
      exact fnOut1 (by simp) rfl Try.results144 hf hc (show look _ 4 = _ from rfl) ⟨rfl, hc⟩
    · replace hF := condF hb hF
      clear hb
      refine wp_skip ?_
      refine h8 _ _ ?_
      refine cReg ?_
      refine stP hf rfl rfl rfl (pAdd rfl rfl) fun a hf => ?_
      refine stP hf rfl rfl rfl (pM rfl) fun a hf => ?_
      refine cNil ?_
      exact hK4 (W (x + 1)) _ _ (Option.some.inj hF).symm ⟨hf.keep ⟨rfl, rfl, rfl, rfl, trivial⟩, hc⟩
  · replace hF := condF hb hF
    clear hb
    refine wp_exit ?_
    refine xThen ?_
    refine xThen ?_
    have he := Option.some.inj hF
    rw [← he] at hfin4
    refine cHit ?_
    exact hr4 _ _ _ hfin4 ⟨hf.keep ⟨rfl, rfl, rfl, rfl, trivial⟩, hc⟩

def slices_ContainsFunc_Ldaily_Reading_daily_Reading (N : Nat) (s_ : List daily_Reading) : Option (Bool) :=
  Option.bind (slices_IndexFunc_Ldaily_Reading_daily_Reading N s_) fun r =>
  some (decide (0 ≤ r))
theorem slices_ContainsFunc_Ldaily_Reading_daily_Reading_ok {N : Nat} {G : Pers} {Lf : List Ent} {w : World} (s_ : List daily_Reading) {s__p : Option Addr} {s__c : Nat} {b_ : Nat} (h_s_ : Rd G 2 s__p s__c (s_.map enc_daily_Reading)) (hc : Ctx G (.box b_ [.func (.func 114) #[] #[]] 172 :: Lf) w) {res : Bool} (hF : slices_ContainsFunc_Ldaily_Reading_daily_Reading N s_ = some res) : Calls Try.prog 129 #[.slice s__p s_.length s__c, .func (.func 130) #[] #[.pointer (some ⟨b_, 0, none⟩)]] w (fun e w => e = .returned (.bool res) ∧ Ctx G (.box b_ [.func (.func 114) #[] #[]] 172 :: Lf) w) := by
  unfold slices_ContainsFunc_Ldaily_Reading_daily_Reading at hF
  refine fnIn (args := [.slice s__p s_.length s__c, .func (.func 130) #[] #[.pointer (some ⟨b_, 0, none⟩)]]) Try.func129 rfl Try.ntmps129 rfl fun a hf => ?_
  refine wp_seq_k fun K1 h1 => ?_
  refine cReg ?_
  refine stP hf rfl rfl rfl (pA rfl) fun a hf => ?_
  refine cNil ?_
  refine h1 _ _ ?_
  refine wp_seq_k fun K2 h2 => ?_
  refine cReg ?_
  refine stP hf rfl rfl rfl (pM rfl) fun a hf => ?_
  refine stP hf rfl rfl rfl (pM rfl) fun a hf => ?_
  obtain ⟨r, hr, hF⟩ := bnd_some hF
  refine stE hf hc rfl rfl rfl (eC (v := .int .i64 r) (vs := [.slice s__p s_.length s__c, .func (.func 130) #[] #[.pointer (some ⟨b_, 0, none⟩)]]) (caps := []) en_144 rfl rfl rfl rfl (fun w hc => (slices_IndexFunc_Ldaily_Reading_daily_Reading_ok s_ h_s_ (hc.pick k0) hr).mono fun e w h => ⟨h.1, (h.2.unpick k0)⟩)) fun a w hf hc => ?_
  refine stP hf rfl rfl rfl (pGe rfl rfl) fun a hf => ?_
  refine stP hf rfl rfl rfl (pA rfl) fun a hf => ?_
  refine cNil ?_
  refine h2 _ _ ?_
  refine wp_ret ?_
  obtain rfl := Option.some.inj hF
  exact fnOut1 (by simp) rfl Try.results129 hf hc (show look _ 4 = _ from rfl) ⟨rfl, hc⟩

def daily_every_daily_Reading (N : Nat) (l : List daily_Reading) : Option (Bool) :=
  Option.bind (slices_ContainsFunc_Ldaily_Reading_daily_Reading N l) fun r =>
  some (!r)
theorem daily_every_daily_Reading_ok {N : Nat} {G : Pers} {Lf : List Ent} {w : World} (l : List daily_Reading) {l_p : Option Addr} {l_c : Nat} (h_l : Rd G 2 l_p l_c (l.map enc_daily_Reading)) (hc : Ctx G (Lf) w) {res : Bool} (hF : daily_every_daily_Reading N l = some res) : Calls Try.prog 113 #[.slice l_p l.length l_c, .func (.func 114) #[] #[]] w (fun e w => e = .returned (.bool res) ∧ Ctx G (Lf) w) := by
  unfold daily_every_daily_Reading at hF
  refine fnIn (args := [.slice l_p l.length l_c, .func (.func 114) #[] #[]]) Try.func113 rfl Try.ntmps113 rfl fun a hf => ?_
  refine wp_seq_k fun K1 h1 => ?_
  refine cReg ?_
  refine stBx (cs := [.func (.func 114) #[] #[]]) hf hc rfl rfl rfl rfl fun b_1 a w hf hc => ?_
  refine stP hf rfl rfl rfl (pA rfl) fun a hf => ?_
  refine cNil ?_
  refine h1 _ _ ?_
  refine wp_seq_k fun K2 h2 => ?_
  refine cReg ?_
  refine stP hf rfl rfl rfl (pM rfl) fun a hf => ?_
  refine stP hf rfl rfl rfl (pMF (us := [.pointer (some ⟨b_1, 0, none⟩)]) rfl rfl) fun a hf => ?_
  obtain ⟨r, hr, hF⟩ := bnd_some hF
  refine stE hf hc rfl rfl rfl (eC (v := .bool r) (vs := [.slice l_p l.length l_c, .func (.func 130) #[] #[.pointer (some ⟨b_1, 0, none⟩)]]) (caps := []) en_129 rfl rfl rfl rfl (fun w hc => (slices_ContainsFunc_Ldaily_Reading_daily_Reading_ok l h_l (hc.pick k0) hr).mono fun e w h => ⟨h.1, (h.2.unpick k0)⟩)) fun a w hf hc => ?_
  refine stP hf rfl rfl rfl (pNot rfl) fun a hf => ?_
  refine stP hf rfl rfl rfl (pA rfl) fun a hf => ?_
  refine cNil ?_
  refine h2 _ _ ?_
  refine wp_ret ?_
  obtain rfl := Option.some.inj hF
  replace hc := hc.drop k0
  exact fnOut1 (by simp) rfl Try.results113 hf hc (show look _ 4 = _ from rfl) ⟨rfl, hc⟩

def daily_CheckReadings (N : Nat) (l : List daily_Reading) : Option (Int) :=
  cond (!(daily_in ((l.length : Nat) : Int) 1 30))
  (some 3)
  (Option.bind (daily_every_daily_Reading N l) fun r =>
  cond (!r)
  (some 80)
  (some 0))
theorem daily_CheckReadings_ok {N : Nat} {G : Pers} {Lf : List Ent} {w : World} (l : List daily_Reading) {l_p : Option Addr} {l_c : Nat} (h_l : Rd G 2 l_p l_c (l.map enc_daily_Reading)) (hc : Ctx G (Lf) w) {res : Int} (hF : daily_CheckReadings N l = some res) : Calls Try.prog 87 #[.slice l_p l.length l_c] w (fun e w => e = .returned (.int .i64 res) ∧ Ctx G (Lf) w) := by
  unfold daily_CheckReadings at hF
  refine fnIn (args := [.slice l_p l.length l_c]) Try.func87 rfl Try.ntmps87 rfl fun a hf => ?_
  refine wp_seq_k fun K1 h1 => ?_
  refine cReg ?_
  refine stP hf rfl rfl rfl (pA rfl) fun a hf => ?_
  refine cNil ?_
  refine h1 _ _ ?_
  refine wp_seq_k fun K2 h2 => ?_
  refine wp_block ?_
  refine wp_seq_k fun K3 h3 => ?_
  refine cReg ?_
  refine stP hf rfl rfl rfl (pM rfl) fun a hf => ?_
  refine stP hf rfl rfl rfl (pLenS Try.underlying96 rfl) fun a hf => ?_
  refine stE hf hc rfl rfl rfl (eC (v := .bool (daily_in ((l.length : Nat) : Int) 1 30)) (vs := [.int .i64 ((l.length : Nat) : Int), .int .i64 1, .int .i64 30]) (caps := []) en_60 rfl rfl rfl rfl (fun w hc => daily_in_ok ((l.length : Nat) : Int) 1 30 hc rfl)) fun a w hf hc => ?_
  refine stP hf rfl rfl rfl (pNot rfl) fun a hf => ?_
  refine stP hf rfl rfl rfl (pA rfl) fun a hf => ?_
  refine cNil ?_
  refine h3 _ _ ?_
  refine cCond (b := (!(daily_in ((l.length : Nat) : Int) 1 30))) hf rfl (fun hb => ?_) (fun hb => ?_)
  · replace hF := condT hb hF
    clear hb
    refine wp_seq_k fun K4 h4 => ?_
    refine cReg ?_
    refine stP hf rfl rfl rfl (pA rfl) fun a hf => ?_
    refine cNil ?_
    refine h4 _ _ ?_
    refine wp_ret ?_
    refine xBlkR ?_
    refine xThenR ?_
    obtain rfl := Option.some.inj hF
    exact fnOut1 (by simp) rfl Try.results87 hf hc (show look _ 2 = _ from rfl) ⟨rfl, hc⟩
  · replace hF := condF hb hF
    clear hb
    refine wp_seq_k fun K5 h5 => ?_
    refine cReg ?_
    refine stP hf rfl rfl rfl (pM rfl) fun a hf => ?_
    obtain ⟨r, hr, hF⟩ := bnd_some hF
    refine stE hf hc rfl rfl rfl (eC (v := .bool r) (vs := [.slice l_p l.length l_c, .func (.func 114) #[] #[]]) (caps := []) en_113 rfl rfl rfl rfl (fun w hc => daily_every_daily_Reading_ok l h_l hc hr)) fun a w hf hc => ?_
    refine stP hf rfl rfl rfl (pNot rfl) fun a hf => ?_
    refine stP hf rfl rfl rfl (pA rfl) fun a hf => ?_
    refine cNil ?_
    refine h5 _ _ ?_
    refine cCond (b := (!r)) hf rfl (fun hb => ?_) (fun hb => ?_)
    · replace hF := condT hb hF
      clear hb
      refine wp_seq_k fun K6 h6 => ?_
      refine cReg ?_
      refine stP hf rfl rfl rfl (pA rfl) fun a hf => ?_
      refine cNil ?_
      refine h6 _ _ ?_
      refine wp_ret ?_
      refine xBlkR ?_
      refine xThenR ?_
      obtain rfl := Option.some.inj hF
      exact fnOut1 (by simp) rfl Try.results87 hf hc (show look _ 2 = _ from rfl) ⟨rfl, hc⟩
    · replace hF := condF hb hF
      clear hb
      refine wp_skip ?_
      refine h2 _ _ ?_
      refine wp_seq_k fun K7 h7 => ?_
      refine cReg ?_
      refine stP hf rfl rfl rfl (pA rfl) fun a hf => ?_
      refine cNil ?_
      refine h7 _ _ ?_
      refine wp_ret ?_
      obtain rfl := Option.some.inj hF
      exact fnOut1 (by simp) rfl Try.results87 hf hc (show look _ 2 = _ from rfl) ⟨rfl, hc⟩

def slices_Sort_Lint_int (N : Nat) (x : List Int) : Option ((List Int)) :=
  sortO x
/-! ### Walks of the library -/
end Go.Nilo
namespace Go.Proofs
open Go.Shelf
def Try.lays189_ren : Go.Shelf.Ren := ⟨fun | 189 => 88 | 125 => 116 | 257 => 115 | 128 => 139 | 129 => 140 | 294 => 131 | 295 => 132 | 296 => 133 | 297 => 134 | 298 => 135 | 299 => 136 | 216 => 94 | 300 => 137 | 301 => 138 | 328 => 145 | 329 => 146 | 330 => 147 | 331 => 148 | 332 => 149 | 215 => 120 | 343 => 152 | n => n, fun | 28 => 39 | 3 => 3 | 46 => 175 | 0 => 0 | 51 => 198 | 53 => 200 | 4 => 4 | 183 => 191 | 182 => 190 | 131 => 195 | 5 => 5 | 9 => 9 | 218 => 204 | 222 => 208 | 228 => 212 | 229 => 213 | n => n, fun | n => n⟩
theorem Try.lays189 : Go.Proofs.Lays.n189 Try.prog Try.lays189_ren := {
  mixed := by kernel_rfl
  f125 := Try.func116.trans (congrArg some (by kernel_rfl))
  f128 := Try.func139.trans (congrArg some (by kernel_rfl))
  f129 := Try.func140.trans (congrArg some (by kernel_rfl))
  f189 := Try.func88.trans (congrArg some (by kernel_rfl))
  f215 := Try.func120.trans (congrArg some (by kernel_rfl))
  f216 := Try.func94.trans (congrArg some (by kernel_rfl))
  f257 := Try.func115.trans (congrArg some (by kernel_rfl))
  f294 := Try.func131.trans (congrArg some (by kernel_rfl))
  f295 := Try.func132.trans (congrArg some (by kernel_rfl))
  f296 := Try.func133.trans (congrArg some (by kernel_rfl))
  f297 := Try.func134.trans (congrArg some (by kernel_rfl))
  f298 := Try.func135.trans (congrArg some (by kernel_rfl))
  f299 := Try.func136.trans (congrArg some (by kernel_rfl))
  f300 := Try.func137.trans (congrArg some (by kernel_rfl))
  f301 := Try.func138.trans (congrArg some (by kernel_rfl))
  f328 := Try.func145.trans (congrArg some (by kernel_rfl))
  f329 := Try.func146.trans (congrArg some (by kernel_rfl))
  f330 := Try.func147.trans (congrArg some (by kernel_rfl))
  f331 := Try.func148.trans (congrArg some (by kernel_rfl))
  f332 := Try.func149.trans (congrArg some (by kernel_rfl))
  f343 := Try.func152.trans (congrArg some (by kernel_rfl))
  t0 := Try.underlying0
  a0 := Try.isAgg0
  z0 := Try.sizeOf0
  v0 := Try.zeroValue0
  t3 := Try.underlying3
  a3 := Try.isAgg3
  z3 := Try.sizeOf3
  v3 := Try.zeroValue3
  t4 := Try.underlying4
  a4 := Try.isAgg4
  z4 := Try.sizeOf4
  v4 := Try.zeroValue4
  t5 := Try.underlying5
  a5 := Try.isAgg5
  z5 := Try.sizeOf5
  v5 := Try.zeroValue5
  t9 := Try.underlying9
  a9 := Try.isAgg9
  z9 := Try.sizeOf9
  v9 := Try.zeroValue9
  t28 := Try.underlying39
  a28 := Try.isAgg39
  z28 := Try.sizeOf39
  v28 := Try.zeroValue39
  t46 := Try.underlying175
  a46 := Try.isAgg175
  z46 := Try.sizeOf175
  v46 := Try.zeroValue175
  t51 := Try.underlying198
  a51 := Try.isAgg198
  z51 := Try.sizeOf198
  v51 := Try.zeroValue198
  t53 := Try.underlying200
  a53 := Try.isAgg200
  z53 := Try.sizeOf200
  v53 := Try.zeroValue200
  t131 := Try.underlying195
  a131 := Try.isAgg195
  z131 := Try.sizeOf195
  v131 := Try.zeroValue195
  t182 := Try.underlying190
  a182 := Try.isAgg190
  z182 := Try.sizeOf190
  v182 := Try.zeroValue190
  t183 := Try.underlying191
  a183 := Try.isAgg191
  z183 := Try.sizeOf191
  v183 := Try.zeroValue191
  t218 := Try.underlying204
  a218 := Try.isAgg204
  z218 := Try.sizeOf204
  v218 := Try.zeroValue204
  t222 := Try.underlying208
  a222 := Try.isAgg208
  z222 := Try.sizeOf208
  v222 := Try.zeroValue208
  t228 := Try.underlying212
  a228 := Try.isAgg212
  z228 := Try.sizeOf212
  v228 := Try.zeroValue212
  t229 := Try.underlying213
  a229 := Try.isAgg213
  z229 := Try.sizeOf213
  v229 := Try.zeroValue213 }
def Try.lays20_ren : Go.Shelf.Ren := ⟨fun | 20 => 89 | n => n, fun | 22 => 39 | 3 => 3 | 4 => 4 | 0 => 0 | n => n, fun | n => n⟩
theorem Try.lays20 : Go.Proofs.Lays2.n20 Try.prog Try.lays20_ren := {
  mixed := by kernel_rfl
  f20 := Try.func89.trans (congrArg some (by kernel_rfl))
  t0 := Try.underlying0
  a0 := Try.isAgg0
  z0 := Try.sizeOf0
  v0 := Try.zeroValue0
  t3 := Try.underlying3
  a3 := Try.isAgg3
  z3 := Try.sizeOf3
  v3 := Try.zeroValue3
  t4 := Try.underlying4
  a4 := Try.isAgg4
  z4 := Try.sizeOf4
  v4 := Try.zeroValue4
  t22 := Try.underlying39
  a22 := Try.isAgg39
  z22 := Try.sizeOf39
  v22 := Try.zeroValue39
  i3 := by kernel_rfl }
end Go.Proofs
namespace Go.Nilo
open Go.Proofs

theorem slices_Sort_Lint_int_ok {N : Nat} {G : Pers} {Lf : List Ent} {w : World} (x : List Int) {x_p : Option Addr} {x_c : Nat}  (hc : Ctx G (.row x_p x_c (x.map encI_i64) 3 1 :: Lf) w) {res : (List Int)} (hF : slices_Sort_Lint_int N x = some res) : Calls Try.prog 88 #[.slice x_p x.length x_c] w (fun e w => e = .returned (.tuple #[]) ∧ res.length = x.length ∧ Ctx G (.row x_p x_c (res.map encI_i64) 3 1 :: Lf) w) := by
  unfold slices_Sort_Lint_int at hF
  exact sort_ctx (fun w => sort_nil Go.Proofs.Try.lays189 w) (fun b o c zs w h1 h2 h3 => Go.Proofs.Any.slices_Sort_int Go.Proofs.Try.lays189 b o c zs w h1 h2 h3) hc hF

def slices_Compact_Lint_int (N : Nat) (s_ : List Int) : Option ((List Int)) :=
  compO s_
/-! ### Walks of the library -/

theorem slices_Compact_Lint_int_ok {N : Nat} {G : Pers} {Lf : List Ent} {w : World} (s_ : List Int) {s__p : Option Addr} {s__c : Nat}  (hc : Ctx G (.row s__p s__c (s_.map encI_i64) 3 1 :: Lf) w) {res : (List Int)} (hF : slices_Compact_Lint_int N s_ = some res) : Calls Try.prog 89 #[.slice s__p s_.length s__c] w (fun e w => ∃ (p'1 : Option Addr) (c'1 : Nat), e = .returned (.slice p'1 res.length c'1) ∧ Ctx G (.row p'1 c'1 (res.map encI_i64) 3 1 :: Lf) w) := by
  unfold slices_Compact_Lint_int at hF
  exact compact_ctx (fun a c w => Go.Proofs.Any.slices_Compact_int_empty Go.Proofs.Try.lays20 a c w) (fun b o c zs w h1 h2 h3 => Go.Proofs.Any.slices_Compact_int Go.Proofs.Try.lays20 b o c zs w h1 h2 h3) hc hF

def daily_Reading_costs (x : daily_Reading) (n : Int) : Int :=
  W (x.Weight * (max (W (n - x.Value)) (W (x.Value - n))))
theorem daily_Reading_costs_ok {G : Pers} {Lf : List Ent} {w : World} (x : daily_Reading) (n : Int)   (hc : Ctx G (Lf) w) {res : Int} (hF : daily_Reading_costs x n = res) : Calls Try.prog 90 #[.agg #[.int .i64 x.Value, .int .i64 x.Weight], .int .i64 n] w (fun e w => e = .returned (.int .i64 res) ∧ Ctx G (Lf) w) := by
  unfold daily_Reading_costs at hF
  refine fnIn (args := [.agg #[.int .i64 x.Value, .int .i64 x.Weight], .int .i64 n]) Try.func90 rfl Try.ntmps90 rfl fun a hf => ?_
  refine wp_seq_k fun K1 h1 => ?_
  refine cReg ?_
  refine stBx (cs := [.int .i64 x.Value, .int .i64 x.Weight]) hf hc rfl rfl rfl rfl fun b_1 a w hf hc => ?_
  refine stP hf rfl rfl rfl (pA rfl) fun a hf => ?_
  refine cNil ?_
  refine h1 _ _ ?_
  refine wp_seq_k fun K2 h2 => ?_
  refine cReg ?_
  refine stP hf rfl rfl rfl (pFA fa_102_1 rfl) fun a hf => ?_
  refine stE hf hc rfl rfl rfl (eLd1 sc_3 rfl (cell_box m0 rfl)) fun a w hf hc => ?_
  refine stP hf rfl rfl rfl (pM rfl) fun a hf => ?_
  refine stP hf rfl rfl rfl (pFA fa_102_0 rfl) fun a hf => ?_
  refine stE hf hc rfl rfl rfl (eLd1 sc_3 rfl (cell_box m0 rfl)) fun a w hf hc => ?_
  refine stP hf rfl rfl rfl (pSub rfl rfl) fun a hf => ?_
  refine stP hf rfl rfl rfl (pFA fa_102_0 rfl) fun a hf => ?_
  refine stE hf hc rfl rfl rfl (eLd1 sc_3 rfl (cell_box m0 rfl)) fun a w hf hc => ?_
  refine stP hf rfl rfl rfl (pM rfl) fun a hf => ?_
  refine stP hf rfl rfl rfl (pSub rfl rfl) fun a hf => ?_
  refine stP hf rfl rfl rfl (pMax2 rfl rfl) fun a hf => ?_
  refine stP hf rfl rfl rfl (pMul rfl rfl) fun a hf => ?_
  refine stP hf rfl rfl rfl (pA rfl) fun a hf => ?_
  refine cNil ?_
  refine h2 _ _ ?_
  refine wp_ret ?_
  obtain rfl := hF
  replace hc := hc.drop k0
  exact fnOut1 (by simp) rfl Try.results90 hf hc (show look _ 4 = _ from rfl) ⟨rfl, hc⟩

def daily_Correct_b19 (N : Nat) (l : List daily_Reading) (r_2 : (List Int)) (mp : Int × Int → Option daily_place) (out : List Int) (x_1 : Int) (x_2 : Int) : Option (Step ((List Int) × Int × Int) ((List Int) × Int × Int)) :=
  cond (!(x_1 == ((l.length : Nat) : Int) && x_2 == x_2))
  (Option.bind (getI r_2 (((mp (x_1, x_2)).getD (⟨0, 0⟩ : daily_place)).value)) fun e_1 =>
  Option.bind (room ((out ++ [e_1])).length) fun un =>
  some (.cont ((out ++ [e_1]), W ((((mp (x_1, x_2)).getD (⟨0, 0⟩ : daily_place)).reading) + 1), ((mp (x_1, x_2)).getD (⟨0, 0⟩ : daily_place)).value)))
  (some (.brk (out, x_1, x_2)))
def daily_Correct_j34 (N : Nat) (k : Int) (mp_4 : Int × Int → Option daily_place) (mp_5 : Int × Int → Option Int) : Option (Step (Int × (Int × Int → Option daily_place) × (Int × Int → Option Int)) (Step (Int × (Int × Int → Option daily_place) × (Int × Int → Option Int)) ((List Int) × Int × Int))) :=
  some (.cont (W (k - 1), mp_4, mp_5))
def daily_Correct_b31 (N : Nat) (l : List daily_Reading) (r_2 : (List Int)) (i_1 : Int) (k : Int) (mp_2 : Int × Int → Option daily_place) (mp_3 : Int × Int → Option Int) : Option (Step (Int × (Int × Int → Option daily_place) × (Int × Int → Option Int)) (Step (Int × (Int × Int → Option daily_place) × (Int × Int → Option Int)) ((List Int) × Int × Int))) :=
  cond (decide (0 ≤ k))
  (Option.bind (getI l i_1) fun e_2 =>
  Option.bind (getI r_2 k) fun e_3 =>
  cond (((W (k + 1)) == ((r_2.length : Nat) : Int)) || (decide ((W ((daily_Reading_costs e_2 e_3) + ((mp_3 (W (i_1 + 1), k)).getD 0))) ≤ ((mp_3 (i_1, W (k + 1))).getD 0))))
  (daily_Correct_j34 N k (setG mp_2 (i_1, k) (⟨i_1, k⟩ : daily_place)) (setG mp_3 (i_1, k) (W ((daily_Reading_costs e_2 e_3) + ((mp_3 (W (i_1 + 1), k)).getD 0)))))
  (daily_Correct_j34 N k (setG mp_2 (i_1, k) ((mp_2 (i_1, W (k + 1))).getD (⟨0, 0⟩ : daily_place))) (setG (setG mp_3 (i_1, k) ((mp_3 (i_1, k)).getD 0)) (i_1, k) ((mp_3 (i_1, W (k + 1))).getD 0))))
  (some (.brk (k, mp_2, mp_3)))
def daily_Correct_b15 (N : Nat) (l : List daily_Reading) (r_2 : (List Int)) (i_1 : Int) (mp : Int × Int → Option daily_place) (mp_1 : Int × Int → Option Int) : Option (Step (Int × (Int × Int → Option daily_place) × (Int × Int → Option Int)) ((List Int) × Int × Int)) :=
  cond (decide (0 ≤ i_1))
  (Option.bind (loopO (fun s31 => daily_Correct_b31 N l r_2 i_1 s31.1 s31.2.1 s31.2.2) N (W (((r_2.length : Nat) : Int) - 1), mp, mp_1)) fun x31 =>
  exK x31 (fun s31 => some (.cont (W (i_1 - 1), s31.2.1, s31.2.2))) some)
  (some (.brk (i_1, mp, mp_1)))
def daily_Correct_b9 (N : Nat) (l : List daily_Reading) (values : List Int) (x : Int) : Option (Step ((List Int) × Int) ((List Int) × Int × Int)) :=
  cond (decide (x < ((l.length : Nat) : Int)))
  (Option.bind (getI l x) fun e_4 =>
  Option.bind (room ((values ++ [e_4.Value])).length) fun un_1 =>
  some (.cont ((values ++ [e_4.Value]), W (x + 1))))
  (some (.brk (values, x)))
def daily_Correct (N : Nat) (l : List daily_Reading) : Option ((List Int) × Int × Int) :=
  Option.bind (daily_CheckReadings N l) fun r =>
  cond (r != 0)
  (some (([] : List Int), 0, r))
  (Option.bind (loopO (fun s9 => daily_Correct_b9 N l s9.1 s9.2) N (([] : List Int), 0)) fun x9 =>
  exK x9 (fun s9 => Option.bind (slices_Sort_Lint_int N s9.1) fun r_1 =>
  Option.bind (slices_Compact_Lint_int N r_1) fun r_2 =>
  Option.bind (loopO (fun s15 => daily_Correct_b15 N l r_2 s15.1 s15.2.1 s15.2.2) N (W (((l.length : Nat) : Int) - 1), (fun _ => none : Int × Int → Option daily_place), (fun _ => none : Int × Int → Option Int))) fun x15 =>
  exK x15 (fun s15 => Option.bind (loopO (fun s19 => daily_Correct_b19 N l r_2 s15.2.1 s19.1 s19.2.1 s19.2.2) N (([] : List Int), 0, 0)) fun x19 =>
  exK x19 (fun s19 => some (s19.1, ((s15.2.2 (0, 0)).getD 0), 0)) some) some) some)
theorem daily_Correct_ok {N : Nat} {G : Pers} {Lf : List Ent} {w : World} (l : List daily_Reading) {l_p : Option Addr} {l_c : Nat} (h_l : Rd G 2 l_p l_c (l.map enc_daily_Reading)) (hc : Ctx G (Lf) w) {res : (List Int) × Int × Int} (hF : daily_Correct N l = some res) : Calls Try.prog 51 #[.slice l_p l.length l_c] w (fun e w => ∃ (p'1 : Option Addr) (c'1 : Nat), e = .returned (.tuple #[.slice p'1 res.1.length c'1, .int .i64 res.2.1, .int .i64 res.2.2]) ∧ Ctx G (.row p'1 c'1 (res.1.map encI_i64) 3 1 :: Lf) w) := by
  unfold daily_Correct at hF
  refine fnIn (args := [.slice l_p l.length l_c]) Try.func51 rfl Try.ntmps51 rfl fun a hf => ?_
  refine wp_seq_k fun K1 h1 => ?_
  refine cReg ?_
  refine stP hf rfl rfl rfl (pA rfl) fun a hf => ?_
  refine stP hf rfl rfl rfl (pA rfl) fun a hf => ?_
  refine stP hf rfl rfl rfl (pA rfl) fun a hf => ?_
  refine cNil ?_
  refine h1 _ _ ?_
  refine wp_seq_k fun K2 h2 => ?_
  refine wp_seq_k fun K3 h3 => ?_
  refine cReg ?_
  refine stP hf rfl rfl rfl (pM rfl) fun a hf => ?_
  obtain ⟨r, hr, hF⟩ := bnd_some hF
  refine stE hf hc rfl rfl rfl (eC (v := .int .i64 r) (vs := [.slice l_p l.length l_c]) (caps := []) en_87 rfl rfl rfl rfl (fun w hc => daily_CheckReadings_ok l h_l hc hr)) fun a w hf hc => ?_
  refine stP hf rfl rfl rfl (pA rfl) fun a hf => ?_
  refine cNil ?_
  refine h3 _ _ ?_
  refine wp_seq_k fun K4 h4 => ?_
  refine cReg ?_
  refine stP hf rfl rfl rfl (pM rfl) fun a hf => ?_
  refine stP hf rfl rfl rfl (pNe rfl rfl) fun a hf => ?_
  refine cNil ?_
  refine h4 _ _ ?_
  refine cCond (b := (r != 0)) hf rfl (fun hb => ?_) (fun hb => ?_)
  · replace hF := condT hb hF
    clear hb
    refine wp_seq_k fun K5 h5 => ?_
    refine cReg ?_
    refine stP hf rfl rfl rfl (pM rfl) fun a hf => ?_
    refine stP hf rfl rfl rfl (pA rfl) fun a hf => ?_
    refine stP hf rfl rfl rfl (pA rfl) fun a hf => ?_
    refine stP hf rfl rfl rfl (pA rfl) fun a hf => ?_
    refine cNil ?_
    refine h5 _ _ ?_
    refine wp_ret ?_
    refine xThenR ?_
    obtain rfl := Option.some.inj hF
    replace hc := hc.nilRow 3 1
    exact fnOut3 (by simp) rfl Try.results51 hf hc (show look _ 2 = _ from rfl) (show look _ 3 = _ from rfl) (show look _ 4 = _ from rfl) ⟨none, 0, rfl, hc⟩
  · replace hF := condF hb hF
    clear hb
    refine wp_skip ?_
    refine h2 _ _ ?_
    refine wp_seq_k fun K6 h6 => ?_
    refine cReg ?_
    refine stP hf rfl rfl rfl (pA rfl) fun a hf => ?_
    refine cNil ?_
    refine h6 _ _ ?_
    refine wp_seq_k fun K7 h7 => ?_
    refine wp_seq_k fun K8 h8 => ?_
    refine cReg ?_
    refine stP hf rfl rfl rfl (pM rfl) fun a hf => ?_
    refine stP hf rfl rfl rfl (pLenS Try.underlying96 rfl) fun a hf => ?_
    refine stP hf rfl rfl rfl (pM rfl) fun a hf => ?_
    refine cNil ?_
    refine h8 _ _ ?_
    refine wp_block ?_
    obtain ⟨x9, hx9, hF⟩ := bnd_some hF
    let S9 : ((List Int) × Int) → Act → World → Prop := (fun (zz : (List Int) × Int) a w => ∃ (p_1 : Option Addr) (c_1 : Nat), Has 135 a [(0, .slice l_p l.length l_c), (6, .slice p_1 zz.1.length c_1), (23, .slice l_p l.length l_c), (24, .int .i64 ((l.length : Nat) : Int)), (25, .int .i64 zz.2)] ∧ Ctx G (.row p_1 c_1 (zz.1.map encI_i64) 3 1 :: Lf) w)
    have hr9 : ∀ (zz : (List Int) × Int) a w, x9 = .go zz → S9 zz a w → K7 a w := by
      rintro ⟨values, x⟩ a w rfl ⟨p_1, c_1, hf, hc⟩
      replace hF := exK_go hF
      refine h7 _ _ ?_
      refine wp_seq_k fun K10 h10 => ?_
      refine cReg ?_
      refine stP hf rfl rfl rfl (pM rfl) fun a hf => ?_
      obtain ⟨r_1, hr_1, hF⟩ := bnd_some hF
      refine stC (vs := [.slice p_1 values.length c_1]) (caps := []) hf rfl rfl rfl en_88 rfl rfl rfl rfl (slices_Sort_Lint_int_ok values (hc.pick k0) hr_1) ?_
      rintro _ w ⟨rfl, hl, hc⟩
      refine ⟨_, rfl, fun a hf => ?_⟩
      try rw [← hl] at hf
      try rw [← hl] at hc
      refine cNil ?_
      refine h10 _ _ ?_
      refine wp_seq_k fun K11 h11 => ?_
      refine cReg ?_
      refine stP hf rfl rfl rfl (pM rfl) fun a hf => ?_
      obtain ⟨r_2, hr_2, hF⟩ := bnd_some hF
      refine stC (vs := [.slice p_1 r_1.length c_1]) (caps := []) hf rfl rfl rfl en_89 rfl rfl rfl rfl (slices_Compact_Lint_int_ok r_1 (hc.pick k0) hr_2) ?_
      rintro _ w ⟨p_2, c_2, rfl, hc⟩
      refine ⟨_, rfl, fun a hf => ?_⟩
      refine stP hf rfl rfl rfl (pA rfl) fun a hf => ?_
      refine cNil ?_
      refine h11 _ _ ?_
      refine wp_seq_k fun K12 h12 => ?_
      refine cReg ?_
      refine stGM (kv := kv_156) hf hc rfl rfl fun mb a w hf hc => ?_
      replace hc : Ctx _ (.gm mb (KQ kv_156 (fun j => ((fun _ => none : Int × Int → Option Int) j).map (Value.int .i64)) none) :: _) w := hc
      refine stGM (kv := kv_156) hf hc rfl rfl fun mb_1 a w hf hc => ?_
      replace hc : Ctx _ (.gm mb_1 (KQ kv_156 (fun j => ((fun _ => none : Int × Int → Option daily_place) j).map (fun x : daily_place => .agg #[.int .i64 x.reading, .int .i64 x.value])) none) :: _) w := hc
      refine stP hf rfl rfl rfl (pA rfl) fun a hf => ?_
      refine stP hf rfl rfl rfl (pA rfl) fun a hf => ?_
      refine cNil ?_
      refine h12 _ _ ?_
      refine wp_seq_k fun K13 h13 => ?_
      refine wp_seq_k fun K14 h14 => ?_
      refine cReg ?_
      refine stP hf rfl rfl rfl (pM rfl) fun a hf => ?_
      refine stP hf rfl rfl rfl (pLenS Try.underlying96 rfl) fun a hf => ?_
      refine stP hf rfl rfl rfl (pSub rfl rfl) fun a hf => ?_
      refine stP hf rfl rfl rfl (pA rfl) fun a hf => ?_
      refine cNil ?_
      refine h14 _ _ ?_
      refine wp_block ?_
      obtain ⟨x15, hx15, hF⟩ := bnd_some hF
      let S15 : (Int × (Int × Int → Option daily_place) × (Int × Int → Option Int)) → Act → World → Prop := (fun (zz : Int × (Int × Int → Option daily_place) × (Int × Int → Option Int)) a w => ∃ (p_3 : Option Addr) (c_3 : Nat), Has 135 a [(0, .slice l_p l.length l_c), (6, .slice p_3 r_2.length c_3), (9, .map (some mb)), (10, .map (some mb_1)), (11, .int .i64 zz.1)] ∧ Ctx G (.gm mb_1 (KQ kv_156 (fun j => (zz.2.1 j).map (fun x : daily_place => .agg #[.int .i64 x.reading, .int .i64 x.value])) none) :: .gm mb (KQ kv_156 (fun j => (zz.2.2 j).map (Value.int .i64)) none) :: .row p_3 c_3 (r_2.map encI_i64) 3 1 :: Lf) w)
      have hr15 : ∀ (zz : Int × (Int × Int → Option daily_place) × (Int × Int → Option Int)) a w, x15 = .go zz → S15 zz a w → K13 a w := by
        rintro ⟨i_1, mp, mp_1⟩ a w rfl ⟨p_3, c_3, hf, hc⟩
        replace hF := exK_go hF
        refine h13 _ _ ?_
        refine wp_seq_k fun K16 h16 => ?_
        refine cReg ?_
        refine stP hf rfl rfl rfl (pA rfl) fun a hf => ?_
        refine cNil ?_
        refine h16 _ _ ?_
        refine wp_seq_k fun K17 h17 => ?_
        refine cReg ?_
        refine stP hf rfl rfl rfl (pBuildS (cells := [.int .i64 0, .int .i64 0]) bt_156 rfl rfl) fun a hf => ?_
        refine stAl (cs := [.int .i64 0, .int .i64 0]) hf hc rfl rfl zr_156 rfl fun b_1 a w hf hc => ?_
        refine stSt (vs := [.int .i64 0, .int .i64 0]) hf hc rfl rfl rfl rfl sz_156 rfl rfl u0 fun w hc => ?_
        refine cNil ?_
        refine h17 _ _ ?_
        refine wp_seq_k fun K18 h18 => ?_
        refine wp_block ?_
        obtain ⟨x19, hx19, hF⟩ := bnd_some hF
        let S19 : ((List Int) × Int × Int) → Act → World → Prop := (fun (zz : (List Int) × Int × Int) a w => ∃ (p_4 : Option Addr) (c_4 : Nat) (p_5 : Option Addr) (c_5 : Nat), Has 135 a [(0, .slice l_p l.length l_c), (6, .slice p_4 r_2.length c_4), (9, .map (some mb)), (10, .map (some mb_1)), (16, .slice p_5 zz.1.length c_5), (17, .pointer (some ⟨b_1, 0, none⟩))] ∧ Ctx G (.row p_5 c_5 (zz.1.map encI_i64) 3 1 :: .box b_1 [.int .i64 zz.2.1, .int .i64 zz.2.2] 156 :: .gm mb_1 (KQ kv_156 (fun j => (mp j).map (fun x : daily_place => .agg #[.int .i64 x.reading, .int .i64 x.value])) none) :: .gm mb (KQ kv_156 (fun j => (mp_1 j).map (Value.int .i64)) none) :: .row p_4 c_4 (r_2.map encI_i64) 3 1 :: Lf) w)
        have hr19 : ∀ (zz : (List Int) × Int × Int) a w, x19 = .go zz → S19 zz a w → K18 a w := by
          rintro ⟨out, x_1, x_2⟩ a w rfl ⟨p_4, c_4, p_5, c_5, hf, hc⟩
          replace hF := exK_go hF
          refine h18 _ _ ?_
          refine wp_seq_k fun K20 h20 => ?_
          refine cQ hc follows_mx (by kernel_rfl) ?_
          refine qE hf rfl rfl rfl (Pu.ev (pM rfl)) fun a hf => ?_
          refine qE hf rfl rfl rfl (Pu.ev (pM rfl)) fun a hf => ?_
          refine qE hf rfl rfl rfl (Pu.ev (pBuildS (cells := [.int .i64 0, .int .i64 0]) bt_156 rfl rfl)) fun a hf => ?_
          refine qE hf rfl rfl rfl (gLk (kv := kv_156) (enc := (Value.int .i64)) (z0 := 0) (m := mp_1) (k := (0, 0)) m3 Try.underlying153 kt_156 zr_3 rfl rfl) fun a hf => ?_
          refine qE hf rfl rfl rfl (Pu.ev (pA rfl)) fun a hf => ?_
          refine qE hf rfl rfl rfl (Pu.ev (pA rfl)) fun a hf => ?_
          refine qE hf rfl rfl rfl (Pu.ev (pA rfl)) fun a hf => ?_
          intro w hc
          refine h20 _ _ ?_
          refine wp_ret ?_
          obtain rfl := Option.some.inj hF
          replace hc := hc.drop k4
          replace hc := hc.drop k3
          replace hc := hc.drop k2
          replace hc := hc.drop k1
          exact fnOut3 (by simp) rfl Try.results51 hf hc (show look _ 2 = _ from rfl) (show look _ 3 = _ from rfl) (show look _ 4 = _ from rfl) ⟨p_5, c_5, rfl, hc⟩
        have ho19 : ∀ r, x19 = .out r → r = res := by
          rintro r rfl
          exact Option.some.inj hF
        replace hc := hc.nilRow 3 1
        refine cLoop N (loopW (S := S19) (x := x19) ?_ N (([] : List Int), 0, 0) _ _ ⟨p_3, c_3, none, 0, hf.keep ⟨rfl, rfl, rfl, rfl, rfl, rfl, trivial⟩, hc⟩ hx19)
        clear hF hf hc
        rintro ⟨out, x_1, x_2⟩ st19 a w KB19 ⟨p_4, c_4, p_5, c_5, hf, hc⟩ hF hfin19 hK19
        unfold daily_Correct_b19 at hF
        refine wp_seq_k fun K21 h21 => ?_
        refine wp_seq_k fun K22 h22 => ?_
        refine cReg ?_
        refine stE hf hc rfl rfl rfl (eLdN (vs := [.int .i64 x_1, .int .i64 x_2]) ag_156 rfl rfl (cells_box (n := 2) m1 rfl)) fun a w hf hc => ?_
        refine stP hf rfl rfl rfl (pM rfl) fun a hf => ?_
        refine stP hf rfl rfl rfl (pLenS Try.underlying96 rfl) fun a hf => ?_
        refine stP hf rfl rfl rfl (pFA fa_156_1 rfl) fun a hf => ?_
        refine stE hf hc rfl rfl rfl (eLd1 sc_3 rfl (cell_box m1 rfl)) fun a w hf hc => ?_
        refine stP hf rfl rfl rfl (pBuildS (cells := [.int .i64 ((l.length : Nat) : Int), .int .i64 x_2]) bt_156 rfl rfl) fun a hf => ?_
        refine stP hf rfl rfl rfl (pNeA ge_156 rfl rfl (eqs_156 _ _ _ _)) fun a hf => ?_
        refine cNil ?_
        refine h22 _ _ ?_
        refine cCond (b := (!(x_1 == ((l.length : Nat) : Int) && x_2 == x_2))) hf rfl (fun hb => ?_) (fun hb => ?_)
        · replace hF := condT hb hF
          clear hb
          refine wp_skip ?_
          refine h21 _ _ ?_
          refine wp_thenK fun K23 h23 => ?_
          refine wp_block ?_
          refine wp_seq_k fun K24 h24 => ?_
          refine cReg ?_
          refine stP hf rfl rfl rfl (pM rfl) fun a hf => ?_
          refine stE hf hc rfl rfl rfl (eLdN (vs := [.int .i64 x_1, .int .i64 x_2]) ag_156 rfl rfl (cells_box (n := 2) m1 rfl)) fun a w hf hc => ?_
          refine stE hf hc rfl rfl rfl (gLk (kv := kv_156) (enc := (fun x : daily_place => .agg #[.int .i64 x.reading, .int .i64 x.value])) (z0 := (⟨0, 0⟩ : daily_place)) (m := mp) (k := (x_1, x_2)) m2 Try.underlying154 kt_156 zr_156 rfl rfl) fun a w hf hc => ?_
          refine stSt (vs := [.int .i64 (((mp (x_1, x_2)).getD (⟨0, 0⟩ : daily_place)).reading), .int .i64 (((mp (x_1, x_2)).getD (⟨0, 0⟩ : daily_place)).value)]) hf hc rfl rfl rfl rfl sz_156 rfl rfl u1 fun w hc => ?_
          refine cNil ?_
          refine h24 _ _ ?_
          refine wp_seq_k fun K25 h25 => ?_
          refine cReg ?_
          refine stP hf rfl rfl rfl (pM rfl) fun a hf => ?_
          refine stP hf rfl rfl rfl (pM rfl) fun a hf => ?_
          refine stP hf rfl rfl rfl (pFA fa_156_1 rfl) fun a hf => ?_
          refine stE hf hc rfl rfl rfl (eLd1 sc_3 rfl (cell_box m1 rfl)) fun a w hf hc => ?_
          obtain ⟨e_1, he_1, hF⟩ := bnd_some hF
          obtain ⟨g, rfl, qa, qr⟩ := row_atm hc m4 he_1
          refine stP hf rfl rfl rfl (pIA Try.underlying39 sz_3 rfl rfl qa) fun a hf => ?_
          refine stE hf hc rfl rfl rfl (eLd1 sc_3 rfl (cell_row (sz := 1) (i := (((mp (x_1, x_2)).getD (⟨0, 0⟩ : daily_place)).value).toNat) (j := 0) m4 qr rfl)) fun a w hf hc => ?_
          refine stBS (rows := ([e_1] : List Int).map encI_i64) (vs := [(0, .int .i64 e_1)]) hf hc rfl rfl sl_39 rfl ⟨rfl, rfl, rfl, trivial⟩ rfl rfl fun b_2 a w hf hc => ?_
          obtain ⟨un, hun, hF⟩ := bnd_some hF
          refine stApm (xs := out) (ys := ([e_1] : List Int)) hf hc rfl rfl sl_39 rfl rfl rfl rfl rfl one_encI_i64 (src_row hc m0) (fun _ _ => u1) (by simpa using room_spec hun) fun p_6 c_6 a w hf hc => ?_
          refine stP hf rfl rfl rfl (pA rfl) fun a hf => ?_
          refine cNil ?_
          refine h25 _ _ ?_
          refine cReg ?_
          refine stP hf rfl rfl rfl (pFA fa_156_0 rfl) fun a hf => ?_
          refine stE hf hc rfl rfl rfl (eLd1 sc_3 rfl (cell_box m2 rfl)) fun a w hf hc => ?_
          refine stP hf rfl rfl rfl (pAdd rfl rfl) fun a hf => ?_
          refine stP hf rfl rfl rfl (pFA fa_156_0 rfl) fun a hf => ?_
          refine stSt (vs := [.int .i64 (W ((((mp (x_1, x_2)).getD (⟨0, 0⟩ : daily_place)).reading) + 1))]) hf hc rfl rfl rfl rfl sz_3 rfl rfl u2 fun w hc => ?_
          refine cNil ?_
          refine h23 _ _ ?_
          replace hc := hc.drop k0
          exact hK19 ((out ++ [e_1]), W ((((mp (x_1, x_2)).getD (⟨0, 0⟩ : daily_place)).reading) + 1), ((mp (x_1, x_2)).getD (⟨0, 0⟩ : daily_place)).value) _ _ (Option.some.inj hF).symm ⟨(some ⟨g, 0, none⟩), c_4, p_6, c_6, hf.keep ⟨rfl, rfl, rfl, rfl, rfl, rfl, trivial⟩, hc⟩
        · replace hF := condF hb hF
          clear hb
          refine wp_exit ?_
          refine xThen ?_
          refine xThen ?_
          have he := Option.some.inj hF
          rw [← he] at hfin19
          refine cHit ?_
          exact hr19 _ _ _ hfin19 ⟨p_4, c_4, p_5, c_5, hf.keep ⟨rfl, rfl, rfl, rfl, rfl, rfl, trivial⟩, hc⟩
      have ho15 : ∀ r, x15 = .out r → r = res := by
        rintro r rfl
        exact Option.some.inj hF
      refine cLoop N (loopW (S := S15) (x := x15) ?_ N (W (((l.length : Nat) : Int) - 1), (fun _ => none : Int × Int → Option daily_place), (fun _ => none : Int × Int → Option Int)) _ _ ⟨p_2, c_2, hf.keep ⟨rfl, rfl, rfl, rfl, rfl, trivial⟩, hc⟩ hx15)
      clear hF hf hc
      rintro ⟨i_1, mp, mp_1⟩ st15 a w KB15 ⟨p_3, c_3, hf, hc⟩ hF hfin15 hK15
      unfold daily_Correct_b15 at hF
      refine wp_seq_k fun K26 h26 => ?_
      refine wp_seq_k fun K27 h27 => ?_
      refine cReg ?_
      refine stP hf rfl rfl rfl (pM rfl) fun a hf => ?_
      refine stP hf rfl rfl rfl (pGe rfl rfl) fun a hf => ?_
      refine cNil ?_
      refine h27 _ _ ?_
      refine cCond (b := (decide (0 ≤ i_1))) hf rfl (fun hb => ?_) (fun hb => ?_)
      · replace hF := condT hb hF
        clear hb
        refine wp_skip ?_
        refine h26 _ _ ?_
        refine wp_seq_k fun K28 h28 => ?_
        refine wp_block ?_
        refine wp_seq_k fun K29 h29 => ?_
        refine cReg ?_
        refine stP hf rfl rfl rfl (pM rfl) fun a hf => ?_
        refine stP hf rfl rfl rfl (pLenS Try.underlying39 rfl) fun a hf => ?_
        refine stP hf rfl rfl rfl (pSub rfl rfl) fun a hf => ?_
        refine stP hf rfl rfl rfl (pA rfl) fun a hf => ?_
        refine cNil ?_
        refine h29 _ _ ?_
        refine wp_thenK fun K30 h30 => ?_
        refine wp_block ?_
        obtain ⟨x31, hx31, hF⟩ := bnd_some hF
        let S31 : (Int × (Int × Int → Option daily_place) × (Int × Int → Option Int)) → Act → World → Prop := (fun (zz : Int × (Int × Int → Option daily_place) × (Int × Int → Option Int)) a w => ∃ (p_7 : Option Addr) (c_7 : Nat), Has 135 a [(0, .slice l_p l.length l_c), (6, .slice p_7 r_2.length c_7), (9, .map (some mb)), (10, .map (some mb_1)), (11, .int .i64 i_1), (12, .int .i64 zz.1)] ∧ Ctx G (.gm mb_1 (KQ kv_156 (fun j => (zz.2.1 j).map (fun x : daily_place => .agg #[.int .i64 x.reading, .int .i64 x.value])) none) :: .gm mb (KQ kv_156 (fun j => (zz.2.2 j).map (Value.int .i64)) none) :: .row p_7 c_7 (r_2.map encI_i64) 3 1 :: Lf) w)
        have hr31 : ∀ (zz : Int × (Int × Int → Option daily_place) × (Int × Int → Option Int)) a w, x31 = .go zz → S31 zz a w → K30 a w := by
          rintro ⟨k, mp_2, mp_3⟩ a w rfl ⟨p_7, c_7, hf, hc⟩
          replace hF := exK_go hF
          refine h30 _ _ ?_
          refine h28 _ _ ?_
          refine cReg ?_
          refine stP hf rfl rfl rfl (pM rfl) fun a hf => ?_
          refine stP hf rfl rfl rfl (pSub rfl rfl) fun a hf => ?_
          refine stP hf rfl rfl rfl (pA rfl) fun a hf => ?_
          refine cNil ?_
          exact hK15 (W (i_1 - 1), mp_2, mp_3) _ _ (Option.some.inj hF).symm ⟨p_7, c_7, hf.keep ⟨rfl, rfl, rfl, rfl, rfl, trivial⟩, hc⟩
        have ho31 : ∀ r, x31 = .out r → r = st15 := by
          rintro r rfl
          exact Option.some.inj hF
        refine cLoop N (loopW (S := S31) (x := x31) ?_ N (W (((r_2.length : Nat) : Int) - 1), mp, mp_1) _ _ ⟨p_3, c_3, hf.keep ⟨rfl, rfl, rfl, rfl, rfl, rfl, trivial⟩, hc⟩ hx31)
        clear hF hf hc
        rintro ⟨k, mp_2, mp_3⟩ st31 a w KB31 ⟨p_7, c_7, hf, hc⟩ hF hfin31 hK31
        unfold daily_Correct_b31 at hF
        refine wp_seq_k fun K32 h32 => ?_
        refine wp_seq_k fun K33 h33 => ?_
        refine cReg ?_
        refine stP hf rfl rfl rfl (pM rfl) fun a hf => ?_
        refine stP hf rfl rfl rfl (pGe rfl rfl) fun a hf => ?_
        refine cNil ?_
        refine h33 _ _ ?_
        refine cCond (b := (decide (0 ≤ k))) hf rfl (fun hb => ?_) (fun hb => ?_)
        · replace hF := condT hb hF
          clear hb
          refine wp_skip ?_
          refine h32 _ _ ?_
          refine wp_seq_k fun K34 h34 => ?_
          have hj34 : ∀ (mp_4 : Int × Int → Option daily_place) (mp_5 : Int × Int → Option Int) (p_8 : Option Addr) (c_8 : Nat) a w, Has 135 a [(0, .slice l_p l.length l_c), (6, .slice p_8 r_2.length c_8), (9, .map (some mb)), (10, .map (some mb_1)), (11, .int .i64 i_1), (12, .int .i64 k)] → Ctx G (.gm mb_1 (KQ kv_156 (fun j => (mp_4 j).map (fun x : daily_place => .agg #[.int .i64 x.reading, .int .i64 x.value])) none) :: .gm mb (KQ kv_156 (fun j => (mp_5 j).map (Value.int .i64)) none) :: .row p_8 c_8 (r_2.map encI_i64) 3 1 :: Lf) w → daily_Correct_j34 N k mp_4 mp_5 = some st31 → K34 a w := by
            repeat (clear hF)
            repeat (clear hc)
            repeat (clear hf)
            intro mp_4 mp_5 p_8 c_8 a w hf hc hF
            unfold daily_Correct_j34 at hF
            refine h34 _ _ ?_
            refine cReg ?_
            refine stP hf rfl rfl rfl (pM rfl) fun a hf => ?_
            refine stP hf rfl rfl rfl (pSub rfl rfl) fun a hf => ?_
            refine stP hf rfl rfl rfl (pA rfl) fun a hf => ?_
            refine cNil ?_
            exact hK31 (W (k - 1), mp_4, mp_5) _ _ (Option.some.inj hF).symm ⟨p_8, c_8, hf.keep ⟨rfl, rfl, rfl, rfl, rfl, rfl, trivial⟩, hc⟩
          refine wp_block ?_
          refine wp_seq_k fun K35 h35 => ?_
          refine cReg ?_
          refine stP hf rfl rfl rfl (pM rfl) fun a hf => ?_
          refine stP hf rfl rfl rfl (pM rfl) fun a hf => ?_
          refine stP hf rfl rfl rfl (pBuildS (cells := [.int .i64 i_1, .int .i64 k]) bt_156 rfl rfl) fun a hf => ?_
          refine stP hf rfl rfl rfl (pM rfl) fun a hf => ?_
          refine stP hf rfl rfl rfl (pM rfl) fun a hf => ?_
          refine stP hf rfl rfl rfl (pAdd rfl rfl) fun a hf => ?_
          refine stP hf rfl rfl rfl (pBuildS (cells := [.int .i64 i_1, .int .i64 (W (k + 1))]) bt_156 rfl rfl) fun a hf => ?_
          refine stAl (cs := [.int .i64 0, .int .i64 0]) hf hc rfl rfl zr_156 rfl fun b_3 a w hf hc => ?_
          refine stAl (cs := [.int .i64 0, .int .i64 0]) hf hc rfl rfl zr_156 rfl fun b_4 a w hf hc => ?_
          refine stSt (vs := [.int .i64 i_1, .int .i64 k]) hf hc rfl rfl rfl rfl sz_156 rfl rfl u1 fun w hc => ?_
          refine stSt (vs := [.int .i64 i_1, .int .i64 (W (k + 1))]) hf hc rfl rfl rfl rfl sz_156 rfl rfl u0 fun w hc => ?_
          refine cNil ?_
          refine h35 _ _ ?_
          refine wp_seq_k fun K36 h36 => ?_
          obtain ⟨e_2, he_2, hF⟩ := bnd_some hF
          obtain ⟨b_5, o, qa_1, qp⟩ := h_l.atm he_2
          obtain ⟨e_3, he_3, hF⟩ := bnd_some hF
          obtain ⟨g_1, rfl, qa_2, qr_1⟩ := row_atm hc m4 he_3
          refine cQ hc follows_mx (by kernel_rfl) ?_
          refine qE hf rfl rfl rfl (Pu.ev (pM rfl)) fun a hf => ?_
          refine qE hf rfl rfl rfl (Pu.ev (pM rfl)) fun a hf => ?_
          refine qE hf rfl rfl rfl (Pu.ev (pIA Try.underlying96 sz_102 rfl rfl qa_1)) fun a hf => ?_
          refine qE hf rfl rfl rfl (eLdN (vs := [.int .i64 e_2.Value, .int .i64 e_2.Weight]) ag_102 rfl rfl (cells_pc qp (n := 2) (o' := 0) rfl)) fun a hf => ?_
          refine qE hf rfl rfl rfl (Pu.ev (pM rfl)) fun a hf => ?_
          refine qE hf rfl rfl rfl (Pu.ev (pM rfl)) fun a hf => ?_
          refine qE hf rfl rfl rfl (Pu.ev (pIA Try.underlying39 sz_3 rfl rfl qa_2)) fun a hf => ?_
          refine qE hf rfl rfl rfl (eLd1 sc_3 rfl (cell_row (sz := 1) (i := k.toNat) (j := 0) m4 qr_1 rfl)) fun a hf => ?_
          refine qE hf rfl rfl rfl (eC (v := .int .i64 (daily_Reading_costs e_2 e_3)) (vs := [.agg #[.int .i64 e_2.Value, .int .i64 e_2.Weight], .int .i64 e_3]) (caps := []) en_90 rfl rfl rfl rfl (fun w hc => daily_Reading_costs_ok e_2 e_3 hc rfl)) fun a hf => ?_
          refine qE hf rfl rfl rfl (Pu.ev (pM rfl)) fun a hf => ?_
          refine qE hf rfl rfl rfl (Pu.ev (pM rfl)) fun a hf => ?_
          refine qE hf rfl rfl rfl (Pu.ev (pAdd rfl rfl)) fun a hf => ?_
          refine qE hf rfl rfl rfl (Pu.ev (pM rfl)) fun a hf => ?_
          refine qE hf rfl rfl rfl (Pu.ev (pBuildS (cells := [.int .i64 (W (i_1 + 1)), .int .i64 k]) bt_156 rfl rfl)) fun a hf => ?_
          refine qE hf rfl rfl rfl (gLk (kv := kv_156) (enc := (Value.int .i64)) (z0 := 0) (m := mp_3) (k := (W (i_1 + 1), k)) m3 Try.underlying153 kt_156 zr_3 rfl rfl) fun a hf => ?_
          refine qE hf rfl rfl rfl (Pu.ev (pAdd rfl rfl)) fun a hf => ?_
          refine qE hf rfl rfl rfl (Pu.ev (pA rfl)) fun a hf => ?_
          intro w hc
          refine h36 _ _ ?_
          refine wp_seq_k fun K37 h37 => ?_
          refine cReg ?_
          refine stP hf rfl rfl rfl (pM rfl) fun a hf => ?_
          refine stP hf rfl rfl rfl (pAdd rfl rfl) fun a hf => ?_
          refine stP hf rfl rfl rfl (pM rfl) fun a hf => ?_
          refine stP hf rfl rfl rfl (pLenS Try.underlying39 rfl) fun a hf => ?_
          refine stP hf rfl rfl rfl (pEq rfl rfl) fun a hf => ?_
          refine stP hf rfl rfl rfl (pM rfl) fun a hf => ?_
          refine stCut 6 (fun a w => Has 135 a [(0, .slice l_p l.length l_c), (6, .slice (some ⟨g_1, 0, none⟩) r_2.length c_7), (9, .map (some mb)), (10, .map (some mb_1)), (11, .int .i64 i_1), (12, .int .i64 k), (13, .pointer (some ⟨b_3, 0, none⟩)), (14, .pointer (some ⟨b_4, 0, none⟩)), (15, .int .i64 (W ((daily_Reading_costs e_2 e_3) + ((mp_3 (W (i_1 + 1), k)).getD 0)))), (78, .int .i64 k), (79, .int .i64 (W (k + 1))), (80, .slice (some ⟨g_1, 0, none⟩) r_2.length c_7), (81, .int .i64 ((r_2.length : Nat) : Int)), (82, .bool ((W (k + 1)) == ((r_2.length : Nat) : Int))), (83, .bool ((W (k + 1)) == ((r_2.length : Nat) : Int))), (89, .bool (((W (k + 1)) == ((r_2.length : Nat) : Int)) || (decide ((W ((daily_Reading_costs e_2 e_3) + ((mp_3 (W (i_1 + 1), k)).getD 0))) ≤ ((mp_3 (i_1, W (k + 1))).getD 0)))))] ∧ Ctx G (.box b_4 [.int .i64 i_1, .int .i64 (W (k + 1))] 156 :: .box b_3 [.int .i64 i_1, .int .i64 k] 156 :: .gm mb_1 (KQ kv_156 (fun j => (mp_2 j).map (fun x : daily_place => .agg #[.int .i64 x.reading, .int .i64 x.value])) none) :: .gm mb (KQ kv_156 (fun j => (mp_3 j).map (Value.int .i64)) none) :: .row (some ⟨g_1, 0, none⟩) c_7 (r_2.map encI_i64) 3 1 :: Lf) w) ?_ ?_
          · cases hb : ((W (k + 1)) == ((r_2.length : Nat) : Int))
            · rw [hb] at hf
              refine stP hf rfl rfl rfl (pM rfl) fun a hf => ?_
              refine stP hf rfl rfl rfl (pM rfl) fun a hf => ?_
              refine stE hf hc rfl rfl rfl (eLdN (vs := [.int .i64 i_1, .int .i64 (W (k + 1))]) ag_156 rfl rfl (cells_box (n := 2) m0 rfl)) fun a w hf hc => ?_
              refine stE hf hc rfl rfl rfl (gLk (kv := kv_156) (enc := (Value.int .i64)) (z0 := 0) (m := mp_3) (k := (i_1, W (k + 1))) m3 Try.underlying153 kt_156 zr_3 rfl rfl) fun a w hf hc => ?_
              refine stP hf rfl rfl rfl (pLe rfl rfl) fun a hf => ?_
              refine stP hf rfl rfl rfl (pPf rfl rfl) fun a hf => ?_
              exact cNil ⟨hf.keep ⟨rfl, rfl, rfl, rfl, rfl, rfl, rfl, rfl, rfl, rfl, rfl, rfl, rfl, rfl, rfl, rfl, trivial⟩, hc⟩
            · rw [hb] at hf
              refine stS hf rfl rfl rfl fun a hf => ?_
              refine stS hf rfl rfl rfl fun a hf => ?_
              refine stS hf rfl rfl rfl fun a hf => ?_
              refine stS hf rfl rfl rfl fun a hf => ?_
              refine stS hf rfl rfl rfl fun a hf => ?_
              refine stP hf rfl rfl rfl (pPt rfl rfl) fun a hf => ?_
              exact cNil ⟨hf.keep ⟨rfl, rfl, rfl, rfl, rfl, rfl, rfl, rfl, rfl, rfl, rfl, rfl, rfl, rfl, rfl, rfl, trivial⟩, hc⟩
          intro a w ⟨hf, hc⟩
          refine cNil ?_
          refine h37 _ _ ?_
          refine cCond (b := (((W (k + 1)) == ((r_2.length : Nat) : Int)) || (decide ((W ((daily_Reading_costs e_2 e_3) + ((mp_3 (W (i_1 + 1), k)).getD 0))) ≤ ((mp_3 (i_1, W (k + 1))).getD 0))))) hf rfl (fun hb => ?_) (fun hb => ?_)
          · replace hF := condT hb hF
            clear hb
            refine regionE (fun θ => [⟨none, none, 0, .slice l_p l.length l_c⟩, ⟨none, none, 6, .slice (some ⟨g_1, 0, none⟩) r_2.length c_7⟩, ⟨none, none, 9, .map (some mb)⟩, ⟨none, none, 10, .map (some mb_1)⟩, ⟨none, none, 11, .int .i64 i_1⟩, ⟨none, none, 12, .int .i64 k⟩, ⟨none, none, 13, .pointer (some ⟨b_3, 0, none⟩)⟩, ⟨none, none, 15, .int .i64 (W ((daily_Reading_costs e_2 e_3) + ((mp_3 (W (i_1 + 1), k)).getD 0)))⟩, ⟨some 0, none, 90, .map (some mb)⟩, ⟨some 1, none, 91, .agg #[.int .i64 i_1, .int .i64 k]⟩, ⟨some 2, none, 92, .map (some mb_1)⟩, ⟨some 3, none, 93, .agg #[.int .i64 i_1, .int .i64 k]⟩, ⟨some 4, none, 94, .int .i64 (W ((daily_Reading_costs e_2 e_3) + ((mp_3 (W (i_1 + 1), k)).getD 0)))⟩, ⟨some 5, none, 95, .agg #[.int .i64 i_1, .int .i64 k]⟩]) (fun E θ => .box b_4 [.int .i64 i_1, .int .i64 (W (k + 1))] 156 :: .box b_3 [.int .i64 i_1, .int .i64 k] 156 :: (bif E 7 then .gm mb_1 (KQ kv_156 (fun j => ((setG mp_2 (i_1, k) (⟨i_1, k⟩ : daily_place)) j).map (fun x : daily_place => .agg #[.int .i64 x.reading, .int .i64 x.value])) none) else .gm mb_1 (KQ kv_156 (fun j => (mp_2 j).map (fun x : daily_place => .agg #[.int .i64 x.reading, .int .i64 x.value])) none)) :: (bif E 6 then .gm mb (KQ kv_156 (fun j => ((setG mp_3 (i_1, k) (W ((daily_Reading_costs e_2 e_3) + ((mp_3 (W (i_1 + 1), k)).getD 0)))) j).map (Value.int .i64)) none) else .gm mb (KQ kv_156 (fun j => (mp_3 j).map (Value.int .i64)) none)) :: .row (some ⟨g_1, 0, none⟩) c_7 (r_2.map encI_i64) 3 1 :: Lf) [] (fun a w => Has 135 a [(0, .slice l_p l.length l_c), (6, .slice (some ⟨g_1, 0, none⟩) r_2.length c_7), (9, .map (some mb)), (10, .map (some mb_1)), (11, .int .i64 i_1), (12, .int .i64 k)] ∧ Ctx G (.box b_4 [.int .i64 i_1, .int .i64 (W (k + 1))] 156 :: .box b_3 [.int .i64 i_1, .int .i64 k] 156 :: .gm mb_1 (KQ kv_156 (fun j => ((setG mp_2 (i_1, k) (⟨i_1, k⟩ : daily_place)) j).map (fun x : daily_place => .agg #[.int .i64 x.reading, .int .i64 x.value])) none) :: .gm mb (KQ kv_156 (fun j => ((setG mp_3 (i_1, k) (W ((daily_Reading_costs e_2 e_3) + ((mp_3 (W (i_1 + 1), k)).getD 0)))) j).map (Value.int .i64)) none) :: .row (some ⟨g_1, 0, none⟩) c_7 (r_2.map encI_i64) 3 1 :: Lf) w) follows_mx (by kernel_rfl) (by kernel_rfl) (HasE.of hf ⟨rfl, rfl, rfl, rfl, rfl, rfl, rfl, rfl, trivial, trivial, trivial, trivial, trivial, trivial, trivial⟩) hc ⟨?_, ?_, ?_, ?_, ?_, ?_, ?_, ?_, trivial⟩ ?_ ?_
            · intro E θ a w hD hi hp he hc
              have hf := he.h0
              replace hf := hf.more he 2 rfl onT
              refine stP hf rfl rfl rfl (pM rfl) fun a hf => ?_
              refine cNil ?_
              refine xThenN ?_
              intro ds u hau
              refine ⟨θ, he.put0 hi hau hf rfl 8 rfl rfl, ?_⟩
              exact hc
            · intro E θ a w hD hi hp he hc
              have hf := he.h0
              replace hf := hf.more he 6 rfl onT
              refine stE hf hc rfl rfl rfl (eLdN (vs := [.int .i64 i_1, .int .i64 k]) ag_156 rfl rfl (cells_box (n := 2) m1 rfl)) fun a w hf hc => ?_
              refine cNil ?_
              refine xThenN ?_
              intro ds u hau
              refine ⟨θ, he.put0 hi hau hf rfl 9 rfl rfl, ?_⟩
              exact hc
            · intro E θ a w hD hi hp he hc
              have hf := he.h0
              replace hf := hf.more he 3 rfl onT
              refine stP hf rfl rfl rfl (pM rfl) fun a hf => ?_
              refine cNil ?_
              refine xThenN ?_
              intro ds u hau
              refine ⟨θ, he.put0 hi hau hf rfl 10 rfl rfl, ?_⟩
              exact hc
            · intro E θ a w hD hi hp he hc
              have hf := he.h0
              replace hf := hf.more he 6 rfl onT
              refine stE hf hc rfl rfl rfl (eLdN (vs := [.int .i64 i_1, .int .i64 k]) ag_156 rfl rfl (cells_box (n := 2) m1 rfl)) fun a w hf hc => ?_
              refine cNil ?_
              refine xThenN ?_
              intro ds u hau
              refine ⟨θ, he.put0 hi hau hf rfl 11 rfl rfl, ?_⟩
              exact hc
            · intro E θ a w hD hi hp he hc
              have hf := he.h0
              replace hf := hf.more he 7 rfl onT
              refine stP hf rfl rfl rfl (pM rfl) fun a hf => ?_
              refine cNil ?_
              refine xThenN ?_
              intro ds u hau
              refine ⟨θ, he.put0 hi hau hf rfl 12 rfl rfl, ?_⟩
              exact hc
            · intro E θ a w hD hi hp he hc
              have hf := he.h0
              replace hf := hf.more he 6 rfl onT
              refine stE hf hc rfl rfl rfl (eLdN (vs := [.int .i64 i_1, .int .i64 k]) ag_156 rfl rfl (cells_box (n := 2) m1 rfl)) fun a w hf hc => ?_
              refine cNil ?_
              refine xThenN ?_
              intro ds u hau
              refine ⟨θ, he.put0 hi hau hf rfl 13 rfl rfl, ?_⟩
              exact hc
            · intro E θ a w hD hi hp he hc
              have e0 := hp.of (k := 0) rfl
              have e1 := hp.of (k := 1) rfl
              have e4 := hp.of (k := 4) rfl
              try dsimp only at hc
              rw [hi] at hc
              have hf := he.h0
              replace hf := hf.more he 8 rfl (onP e0)
              replace hf := hf.more he 9 rfl (onP e1)
              replace hf := hf.more he 12 rfl (onP e4)
              refine stGU (kv := kv_156) (enc := (Value.int .i64)) (m := mp_3) (k := (i_1, k)) (v := W ((daily_Reading_costs e_2 e_3) + ((mp_3 (W (i_1 + 1), k)).getD 0))) hf hc rfl Try.underlying153 kt_156 rfl rfl rfl u3 fun w hc => ?_
              refine cNil ?_
              refine xThenN ?_
              intro ds u hau
              refine ⟨θ, he.stay0 hi hau hf rfl, ?_⟩
              try dsimp only
              rw [updE_self E 6]
              exact hc
            · intro E θ a w hD hi hp he hc
              have e2 := hp.of (k := 2) rfl
              have e3 := hp.of (k := 3) rfl
              have e5 := hp.of (k := 5) rfl
              try dsimp only at hc
              rw [hi] at hc
              have hf := he.h0
              replace hf := hf.more he 10 rfl (onP e2)
              replace hf := hf.more he 11 rfl (onP e3)
              replace hf := hf.more he 13 rfl (onP e5)
              refine stGU (kv := kv_156) (enc := (fun x : daily_place => .agg #[.int .i64 x.reading, .int .i64 x.value])) (m := mp_2) (k := (i_1, k)) (v := (⟨i_1, k⟩ : daily_place)) hf hc rfl Try.underlying154 kt_156 rfl rfl rfl u2 fun w hc => ?_
              refine cNil ?_
              refine xThenN ?_
              intro ds u hau
              refine ⟨θ, he.stay0 hi hau hf rfl, ?_⟩
              try dsimp only
              rw [updE_self E 7]
              exact hc
            · intro E θ a w hall he hc
              have hf := he.h0
              have e6 := hall 6 rfl
              have e7 := hall 7 rfl
              replace hf := hf.more he 5 rfl (onT)
              replace hf := hf.more he 4 rfl (onT)
              replace hf := hf.more he 3 rfl (onT)
              replace hf := hf.more he 2 rfl (onT)
              replace hf := hf.more he 1 rfl (onT)
              replace hf := hf.more he 0 rfl (onT)
              try dsimp only at hc
              rw [e6, e7] at hc
              exact ⟨hf.keep ⟨rfl, rfl, rfl, rfl, rfl, rfl, trivial⟩, hc⟩
            rintro a w ⟨hf, hc⟩
            replace hc := hc.drop k1
            replace hc := hc.drop k0
            exact hj34 (setG mp_2 (i_1, k) (⟨i_1, k⟩ : daily_place)) (setG mp_3 (i_1, k) (W ((daily_Reading_costs e_2 e_3) + ((mp_3 (W (i_1 + 1), k)).getD 0)))) (some ⟨g_1, 0, none⟩) c_7 _ _  (hf.keep ⟨rfl, rfl, rfl, rfl, rfl, rfl, trivial⟩) hc hF
          · replace hF := condF hb hF
            clear hb
            refine regionE (fun θ => [⟨none, none, 0, .slice l_p l.length l_c⟩, ⟨none, none, 6, .slice (some ⟨g_1, 0, none⟩) r_2.length c_7⟩, ⟨none, none, 9, .map (some mb)⟩, ⟨none, none, 10, .map (some mb_1)⟩, ⟨none, none, 11, .int .i64 i_1⟩, ⟨none, none, 12, .int .i64 k⟩, ⟨none, none, 13, .pointer (some ⟨b_3, 0, none⟩)⟩, ⟨none, none, 14, .pointer (some ⟨b_4, 0, none⟩)⟩, ⟨some 0, none, 96, .map (some mb)⟩, ⟨some 1, none, 97, .agg #[.int .i64 i_1, .int .i64 k]⟩, ⟨some 2, none, 98, .map (some mb_1)⟩, ⟨some 3, none, 99, .agg #[.int .i64 i_1, .int .i64 k]⟩, ⟨some 4, none, 100, .map (some mb)⟩, ⟨some 5, none, 101, .agg #[.int .i64 i_1, .int .i64 (W (k + 1))]⟩, ⟨some 7, none, 103, .map (some mb_1)⟩, ⟨some 8, none, 104, .agg #[.int .i64 i_1, .int .i64 (W (k + 1))]⟩, ⟨some 9, none, 105, .agg #[.int .i64 (((mp_2 (i_1, W (k + 1))).getD (⟨0, 0⟩ : daily_place)).reading), .int .i64 (((mp_2 (i_1, W (k + 1))).getD (⟨0, 0⟩ : daily_place)).value)]⟩, ⟨some 10, none, 106, .tuple #[.int .i64 ((mp_3 (i_1, k)).getD 0), .int .i64 (((θ 80).c : Nat) : Int)]⟩, ⟨some 11, none, 107, .int .i64 (((θ 80).c : Nat) : Int)⟩, ⟨some 6, none, 102, .int .i64 ((mp_3 (i_1, W (k + 1))).getD 0)⟩]) (fun E θ => .box b_4 [.int .i64 i_1, .int .i64 (W (k + 1))] 156 :: .box b_3 [.int .i64 i_1, .int .i64 k] 156 :: (bif E 13 then .gm mb_1 (KQ kv_156 (fun j => ((setG mp_2 (i_1, k) ((mp_2 (i_1, W (k + 1))).getD (⟨0, 0⟩ : daily_place))) j).map (fun x : daily_place => .agg #[.int .i64 x.reading, .int .i64 x.value])) none) else .gm mb_1 (KQ kv_156 (fun j => (mp_2 j).map (fun x : daily_place => .agg #[.int .i64 x.reading, .int .i64 x.value])) none)) :: (bif E 12 then .gm mb (KQ kv_156 (fun j => ((setG (setG mp_3 (i_1, k) ((mp_3 (i_1, k)).getD 0)) (i_1, k) ((mp_3 (i_1, W (k + 1))).getD 0)) j).map (Value.int .i64)) none) else bif E 10 then .gm mb (KQ kv_156 (fun j => ((setG mp_3 (i_1, k) ((mp_3 (i_1, k)).getD 0)) j).map (Value.int .i64)) (some ((θ 80).c, (i_1, k)))) else .gm mb (KQ kv_156 (fun j => (mp_3 j).map (Value.int .i64)) none)) :: .row (some ⟨g_1, 0, none⟩) c_7 (r_2.map encI_i64) 3 1 :: Lf) [(12, 6), (13, 9), (12, 10), (11, 10)] (fun a w => Has 135 a [(0, .slice l_p l.length l_c), (6, .slice (some ⟨g_1, 0, none⟩) r_2.length c_7), (9, .map (some mb)), (10, .map (some mb_1)), (11, .int .i64 i_1), (12, .int .i64 k)] ∧ Ctx G (.box b_4 [.int .i64 i_1, .int .i64 (W (k + 1))] 156 :: .box b_3 [.int .i64 i_1, .int .i64 k] 156 :: .gm mb_1 (KQ kv_156 (fun j => ((setG mp_2 (i_1, k) ((mp_2 (i_1, W (k + 1))).getD (⟨0, 0⟩ : daily_place))) j).map (fun x : daily_place => .agg #[.int .i64 x.reading, .int .i64 x.value])) none) :: .gm mb (KQ kv_156 (fun j => ((setG (setG mp_3 (i_1, k) ((mp_3 (i_1, k)).getD 0)) (i_1, k) ((mp_3 (i_1, W (k + 1))).getD 0)) j).map (Value.int .i64)) none) :: .row (some ⟨g_1, 0, none⟩) c_7 (r_2.map encI_i64) 3 1 :: Lf) w) follows_mx (by kernel_rfl) (by kernel_rfl) (HasE.of hf ⟨rfl, rfl, rfl, rfl, rfl, rfl, rfl, rfl, trivial, trivial, trivial, trivial, trivial, trivial, trivial, trivial, trivial, trivial, trivial, trivial, trivial⟩) hc ⟨?_, ?_, ?_, ?_, ?_, ?_, ?_, ?_, ?_, ?_, ?_, ?_, ?_, ?_, trivial⟩ ?_ ?_
            · intro E θ a w hD hi hp he hc
              have hf := he.h0
              replace hf := hf.more he 2 rfl onT
              refine stP hf rfl rfl rfl (pM rfl) fun a hf => ?_
              refine cNil ?_
              refine xThenN ?_
              intro ds u hau
              refine ⟨θ, he.put0 hi hau hf rfl 8 rfl rfl, ?_⟩
              exact hc
            · intro E θ a w hD hi hp he hc
              have hf := he.h0
              replace hf := hf.more he 6 rfl onT
              refine stE hf hc rfl rfl rfl (eLdN (vs := [.int .i64 i_1, .int .i64 k]) ag_156 rfl rfl (cells_box (n := 2) m1 rfl)) fun a w hf hc => ?_
              refine cNil ?_
              refine xThenN ?_
              intro ds u hau
              refine ⟨θ, he.put0 hi hau hf rfl 9 rfl rfl, ?_⟩
              exact hc
            · intro E θ a w hD hi hp he hc
              have hf := he.h0
              replace hf := hf.more he 3 rfl onT
              refine stP hf rfl rfl rfl (pM rfl) fun a hf => ?_
              refine cNil ?_
              refine xThenN ?_
              intro ds u hau
              refine ⟨θ, he.put0 hi hau hf rfl 10 rfl rfl, ?_⟩
              exact hc
            · intro E θ a w hD hi hp he hc
              have hf := he.h0
              replace hf := hf.more he 6 rfl onT
              refine stE hf hc rfl rfl rfl (eLdN (vs := [.int .i64 i_1, .int .i64 k]) ag_156 rfl rfl (cells_box (n := 2) m1 rfl)) fun a w hf hc => ?_
              refine cNil ?_
              refine xThenN ?_
              intro ds u hau
              refine ⟨θ, he.put0 hi hau hf rfl 11 rfl rfl, ?_⟩
              exact hc
            · intro E θ a w hD hi hp he hc
              have hf := he.h0
              replace hf := hf.more he 2 rfl onT
              refine stP hf rfl rfl rfl (pM rfl) fun a hf => ?_
              refine cNil ?_
              refine xThenN ?_
              intro ds u hau
              refine ⟨θ, he.put0 hi hau hf rfl 12 rfl rfl, ?_⟩
              exact hc
            · intro E θ a w hD hi hp he hc
              have hf := he.h0
              replace hf := hf.more he 7 rfl onT
              refine stE hf hc rfl rfl rfl (eLdN (vs := [.int .i64 i_1, .int .i64 (W (k + 1))]) ag_156 rfl rfl (cells_box (n := 2) m0 rfl)) fun a w hf hc => ?_
              refine cNil ?_
              refine xThenN ?_
              intro ds u hau
              refine ⟨θ, he.put0 hi hau hf rfl 13 rfl rfl, ?_⟩
              exact hc
            · intro E θ a w hD hi hp he hc
              have e4 := hp.of (k := 4) rfl
              have e5 := hp.of (k := 5) rfl
              have e12 := hD.f 0 rfl hi
              rcases boolEq (E 10) with e10 | e10
              · try dsimp only at hc
                rw [e10, e12] at hc
                have hf := he.h0
                replace hf := hf.more he 12 rfl (onP e4)
                replace hf := hf.more he 13 rfl (onP e5)
                refine stE hf hc rfl rfl rfl (gLk (kv := kv_156) (enc := (Value.int .i64)) (z0 := 0) (m := (setG mp_3 (i_1, k) ((mp_3 (i_1, k)).getD 0))) (k := (i_1, W (k + 1))) m3 Try.underlying153 kt_156 zr_3 rfl rfl) fun a w hf hc => ?_
                replace hf := castV (v' := .int .i64 ((mp_3 (i_1, W (k + 1))).getD 0)) (by simp only [setG_getD]) hf
                refine cNil ?_
                refine xThenN ?_
                intro ds u hau
                refine ⟨θ, he.put0 hi hau hf rfl 19 rfl rfl, ?_⟩
                try dsimp only
                rw [updE_tru 6 e10, updE_fls 6 e12 rfl]
                exact hc
              · try dsimp only at hc
                rw [e10, e12] at hc
                have hf := he.h0
                replace hf := hf.more he 12 rfl (onP e4)
                replace hf := hf.more he 13 rfl (onP e5)
                refine stE hf hc rfl rfl rfl (gLk (kv := kv_156) (enc := (Value.int .i64)) (z0 := 0) (m := mp_3) (k := (i_1, W (k + 1))) m3 Try.underlying153 kt_156 zr_3 rfl rfl) fun a w hf hc => ?_
                refine cNil ?_
                refine xThenN ?_
                intro ds u hau
                refine ⟨θ, he.put0 hi hau hf rfl 19 rfl rfl, ?_⟩
                try dsimp only
                rw [updE_fls 6 e10 rfl, updE_fls 6 e12 rfl]
                exact hc
            · intro E θ a w hD hi hp he hc
              have hf := he.h0
              replace hf := hf.more he 3 rfl onT
              refine stP hf rfl rfl rfl (pM rfl) fun a hf => ?_
              refine cNil ?_
              refine xThenN ?_
              intro ds u hau
              refine ⟨θ, he.put0 hi hau hf rfl 14 rfl rfl, ?_⟩
              exact hc
            · intro E θ a w hD hi hp he hc
              have hf := he.h0
              replace hf := hf.more he 7 rfl onT
              refine stE hf hc rfl rfl rfl (eLdN (vs := [.int .i64 i_1, .int .i64 (W (k + 1))]) ag_156 rfl rfl (cells_box (n := 2) m0 rfl)) fun a w hf hc => ?_
              refine cNil ?_
              refine xThenN ?_
              intro ds u hau
              refine ⟨θ, he.put0 hi hau hf rfl 15 rfl rfl, ?_⟩
              exact hc
            · intro E θ a w hD hi hp he hc
              have e7 := hp.of (k := 7) rfl
              have e8 := hp.of (k := 8) rfl
              have e13 := hD.f 1 rfl hi
              try dsimp only at hc
              rw [e13] at hc
              have hf := he.h0
              replace hf := hf.more he 14 rfl (onP e7)
              replace hf := hf.more he 15 rfl (onP e8)
              refine stE hf hc rfl rfl rfl (gLk (kv := kv_156) (enc := (fun x : daily_place => .agg #[.int .i64 x.reading, .int .i64 x.value])) (z0 := (⟨0, 0⟩ : daily_place)) (m := mp_2) (k := (i_1, W (k + 1))) m2 Try.underlying154 kt_156 zr_156 rfl rfl) fun a w hf hc => ?_
              refine cNil ?_
              refine xThenN ?_
              intro ds u hau
              refine ⟨θ, he.put0 hi hau hf rfl 16 rfl rfl, ?_⟩
              try dsimp only
              rw [updE_fls 9 e13 rfl]
              exact hc
            · intro E θ a w hD hi hp he hc
              have e0 := hp.of (k := 0) rfl
              have e1 := hp.of (k := 1) rfl
              have e12 := hD.f 2 rfl hi
              have e11 := hD.f 3 rfl hi
              try dsimp only at hc
              rw [hi, e12] at hc
              have hf := he.h0
              replace hf := hf.more he 8 rfl (onP e0)
              replace hf := hf.more he 9 rfl (onP e1)
              refine stGE (kv := kv_156) (enc := (Value.int .i64)) (z0 := 0) (m := mp_3) (k := (i_1, k)) hf hc rfl rfl Try.underlying153 kt_156 zr_3 rfl rfl (fun _ => u3) fun stp a w hf hc => ?_
              refine cNil ?_
              refine xThenN ?_
              intro ds u hau
              refine ⟨(setT θ 80 ⟨0, none, stp⟩), he.put hi hau hf rfl [11] ⟨⟨e11, rfl⟩, trivial⟩ ⟨qq, qq, qq, qq, qq, qq, qq, qq, qq, qq, qq, qq, qq, qq, qq, qq, qq, qq, trivial, qq, trivial⟩, ?_⟩
              try dsimp only
              rw [updE_self E 10, updE_fls 10 e12 rfl]
              exact hc
            · intro E θ a w hD hi hp he hc
              have e10 := hp.of (k := 10) rfl
              have hf := he.h0
              replace hf := hf.more he 17 rfl (onP e10)
              refine stP hf rfl rfl rfl (pX rfl rfl) fun a hf => ?_
              refine cNil ?_
              refine xThenN ?_
              intro ds u hau
              refine ⟨θ, he.put0 hi hau hf rfl 18 rfl rfl, ?_⟩
              exact hc
            · intro E θ a w hD hi hp he hc
              have e0 := hp.of (k := 0) rfl
              have e11 := hp.of (k := 11) rfl
              have e6 := hp.of (k := 6) rfl
              have e10 := hp.of (k := 10) rfl
              try dsimp only at hc
              rw [e10, hi] at hc
              have hf := he.h0
              replace hf := hf.more he 8 rfl (onP e0)
              replace hf := hf.more he 18 rfl (onP e11)
              replace hf := hf.more he 19 rfl (onP e6)
              refine stGS kt_156.inj (enc := (Value.int .i64)) (m := (setG mp_3 (i_1, k) ((mp_3 (i_1, k)).getD 0))) (k := (i_1, k)) (v := ((mp_3 (i_1, W (k + 1))).getD 0)) hf hc rfl rfl rfl rfl u3 fun w hc => ?_
              refine cNil ?_
              refine xThenN ?_
              intro ds u hau
              refine ⟨θ, he.stay0 hi hau hf rfl, ?_⟩
              try dsimp only
              rw [updE_tru 12 e10, updE_self E 12]
              exact hc
            · intro E θ a w hD hi hp he hc
              have e2 := hp.of (k := 2) rfl
              have e3 := hp.of (k := 3) rfl
              have e9 := hp.of (k := 9) rfl
              try dsimp only at hc
              rw [hi] at hc
              have hf := he.h0
              replace hf := hf.more he 10 rfl (onP e2)
              replace hf := hf.more he 11 rfl (onP e3)
              replace hf := hf.more he 16 rfl (onP e9)
              refine stGU (kv := kv_156) (enc := (fun x : daily_place => .agg #[.int .i64 x.reading, .int .i64 x.value])) (m := mp_2) (k := (i_1, k)) (v := ((mp_2 (i_1, W (k + 1))).getD (⟨0, 0⟩ : daily_place))) hf hc rfl Try.underlying154 kt_156 rfl rfl rfl u2 fun w hc => ?_
              refine cNil ?_
              refine xThenN ?_
              intro ds u hau
              refine ⟨θ, he.stay0 hi hau hf rfl, ?_⟩
              try dsimp only
              rw [updE_self E 13]
              exact hc
            · intro E θ a w hall he hc
              have hf := he.h0
              have e10 := hall 10 rfl
              have e12 := hall 12 rfl
              have e13 := hall 13 rfl
              replace hf := hf.more he 5 rfl (onT)
              replace hf := hf.more he 4 rfl (onT)
              replace hf := hf.more he 3 rfl (onT)
              replace hf := hf.more he 2 rfl (onT)
              replace hf := hf.more he 1 rfl (onT)
              replace hf := hf.more he 0 rfl (onT)
              try dsimp only at hc
              rw [e10, e12, e13] at hc
              exact ⟨hf.keep ⟨rfl, rfl, rfl, rfl, rfl, rfl, trivial⟩, hc⟩
            rintro a w ⟨hf, hc⟩
            replace hc := hc.drop k1
            replace hc := hc.drop k0
            exact hj34 (setG mp_2 (i_1, k) ((mp_2 (i_1, W (k + 1))).getD (⟨0, 0⟩ : daily_place))) (setG (setG mp_3 (i_1, k) ((mp_3 (i_1, k)).getD 0)) (i_1, k) ((mp_3 (i_1, W (k + 1))).getD 0)) (some ⟨g_1, 0, none⟩) c_7 _ _  (hf.keep ⟨rfl, rfl, rfl, rfl, rfl, rfl, trivial⟩) hc hF
        · replace hF := condF hb hF
          clear hb
          refine wp_exit ?_
          refine xThen ?_
          refine xThen ?_
          have he := Option.some.inj hF
          rw [← he] at hfin31
          refine cHit ?_
          exact hr31 _ _ _ hfin31 ⟨p_7, c_7, hf.keep ⟨rfl, rfl, rfl, rfl, rfl, rfl, trivial⟩, hc⟩
      · replace hF := condF hb hF
        clear hb
        refine wp_exit ?_
        refine xThen ?_
        refine xThen ?_
        have he := Option.some.inj hF
        rw [← he] at hfin15
        refine cHit ?_
        exact hr15 _ _ _ hfin15 ⟨p_3, c_3, hf.keep ⟨rfl, rfl, rfl, rfl, rfl, trivial⟩, hc⟩
    have ho9 : ∀ r, x9 = .out r → r = res := by
      rintro r rfl
      exact Option.some.inj hF
    replace hc := hc.nilRow 3 1
    refine cLoop N (loopW (S := S9) (x := x9) ?_ N (([] : List Int), 0) _ _ ⟨none, 0, hf.keep ⟨rfl, rfl, rfl, rfl, rfl, trivial⟩, hc⟩ hx9)
    clear hF hf hc
    rintro ⟨values, x⟩ st9 a w KB9 ⟨p_1, c_1, hf, hc⟩ hF hfin9 hK9
    unfold daily_Correct_b9 at hF
    refine wp_seq_k fun K38 h38 => ?_
    refine cReg ?_
    refine stP hf rfl rfl rfl (pLt rfl rfl) fun a hf => ?_
    refine cNil ?_
    refine h38 _ _ ?_
    refine wp_seq_k fun K39 h39 => ?_
    refine cCond (b := (decide (x < ((l.length : Nat) : Int)))) hf rfl (fun hb => ?_) (fun hb => ?_)
    · replace hF := condT hb hF
      clear hb
      refine wp_skip ?_
      refine h39 _ _ ?_
      refine wp_seq_k fun K40 h40 => ?_
      refine wp_block ?_
      refine wp_seq_k fun K41 h41 => ?_
      refine cReg ?_
      obtain ⟨e_4, he_4, hF⟩ := bnd_some hF
      obtain ⟨b_6, o_1, qa_3, qp_1⟩ := h_l.atm he_4
      refine stP hf rfl rfl rfl (pIA Try.underlying96 sz_102 rfl rfl qa_3) fun a hf => ?_
      refine stE hf hc rfl rfl rfl (eLdN (vs := [.int .i64 e_4.Value, .int .i64 e_4.Weight]) ag_102 rfl rfl (cells_pc qp_1 (n := 2) (o' := 0) rfl)) fun a w hf hc => ?_
      refine stAl (cs := [.int .i64 0, .int .i64 0]) hf hc rfl rfl zr_102 rfl fun b_7 a w hf hc => ?_
      refine stSt (vs := [.int .i64 e_4.Value, .int .i64 e_4.Weight]) hf hc rfl rfl rfl rfl sz_102 rfl rfl u0 fun w hc => ?_
      refine cNil ?_
      refine h41 _ _ ?_
      refine cReg ?_
      refine stP hf rfl rfl rfl (pM rfl) fun a hf => ?_
      refine stP hf rfl rfl rfl (pFA fa_102_0 rfl) fun a hf => ?_
      refine stE hf hc rfl rfl rfl (eLd1 sc_3 rfl (cell_box m0 rfl)) fun a w hf hc => ?_
      refine stBS (rows := ([e_4.Value] : List Int).map encI_i64) (vs := [(0, .int .i64 e_4.Value)]) hf hc rfl rfl sl_39 rfl ⟨rfl, rfl, rfl, trivial⟩ rfl rfl fun b_8 a w hf hc => ?_
      obtain ⟨un_1, hun_1, hF⟩ := bnd_some hF
      refine stApm (xs := values) (ys := ([e_4.Value] : List Int)) hf hc rfl rfl sl_39 rfl rfl rfl rfl rfl one_encI_i64 (src_row hc m0) (fun _ _ => u2) (by simpa using room_spec hun_1) fun p_9 c_9 a w hf hc => ?_
      refine stP hf rfl rfl rfl (pA rfl) fun a hf => ?_
      refine cNil ?_
      refine h40 _ _ ?_
      refine cReg ?_
      refine stP hf rfl rfl rfl (pAdd rfl rfl) fun a hf => ?_
      refine stP hf rfl rfl rfl (pM rfl) fun a hf => ?_
      refine cNil ?_
      replace hc := hc.drop k1
      replace hc := hc.drop k0
      exact hK9 ((values ++ [e_4.Value]), W (x + 1)) _ _ (Option.some.inj hF).symm ⟨p_9, c_9, hf.keep ⟨rfl, rfl, rfl, rfl, rfl, trivial⟩, hc⟩
    · replace hF := condF hb hF
      clear hb
      refine wp_exit ?_
      refine xThen ?_
      refine xThen ?_
      have he := Option.some.inj hF
      rw [← he] at hfin9
      refine cHit ?_
      exact hr9 _ _ _ hfin9 ⟨p_1, c_1, hf.keep ⟨rfl, rfl, rfl, rfl, rfl, trivial⟩, hc⟩

end Go.Nilo
