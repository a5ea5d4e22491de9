/-
  What functions of the Go text compute, as plain functions, and that they do, part 2 of 5. Conditions: what each theorem names.
-/
import Derived.Test.YtbgjmnbgilddgaaRu1
import Derived.Test.YtbgjmnbgilddgaaProg
set_option linter.unusedVariables false
set_option maxRecDepth 100000
set_option maxHeartbeats 4000000
namespace Go.Nilo
open Go.Proofs


def gauge_Panels_r9 (N : Nat) (x : List api_Span) (xv : gauge_Vertical) (xv_1 : Int) : Option (Rs ((List api_Span))) :=
  Option.bind (gauge_just N xv_1) fun r_2 =>
  Option.bind (gauge_times N ([r_2, xv.Depth, xv.Speed] : List api_Span)) fun r_3 =>
  Option.bind (room ((x ++ [r_3])).length) fun un =>
  some (.go (x ++ [r_3]))
def gauge_Panels (N : Nat) (g : gauge_Gauging) : Option ((List api_Span) × Int) :=
  Option.bind (gauge_Check N g) fun r =>
  cond (r != 0)
  (some (([] : List api_Span), r))
  (Option.bind (gauge_Gauging_widths N g) fun r_1 =>
  Option.bind (gauge_Gauging_widths_1 N (⟨r_1.1, r_1.2, g.Verticals⟩ : gauge_Gauging) (rY (fun (zz : (List api_Span)) (x : (gauge_Vertical × Int)) => gauge_Panels_r9 N zz x.1 x.2)) (.go ([] : List api_Span))) fun x9 =>
  rsK x9 (fun zz => some (zz, 0)) (fun zz => none))
theorem gauge_Panels_ok {N : Nat} {G : Pers} {Lf : List Ent} {w : World} (g : gauge_Gauging) {g_Verticals_p : Option Addr} {g_Verticals_c : Nat} (h_g_Verticals : Rd G 5 g_Verticals_p g_Verticals_c (g.Verticals.map enc_gauge_Vertical)) (hc : Ctx G (Lf) w) {res : (List api_Span) × Int} (hF : gauge_Panels N g = some res) : Calls Try.prog 31 #[.agg #[.int .i64 g.Left, .int .i64 g.Right, .slice g_Verticals_p g.Verticals.length g_Verticals_c]] w (fun e w => ∃ (p'1 : Option Addr) (c'1 : Nat), e = .returned (.tuple #[.slice p'1 res.1.length c'1, .int .i64 res.2]) ∧ Ctx G (.row p'1 c'1 (res.1.map enc_api_Span) 24 2 :: Lf) w) := by
  unfold gauge_Panels at hF
  refine fnInM (args := [.agg #[.int .i64 g.Left, .int .i64 g.Right, .slice g_Verticals_p g.Verticals.length g_Verticals_c]]) Try.func31 rfl Try.ntmps31 rfl fun a hf => ?_
  refine wp_seq_k fun K1 h1 => ?_
  refine cReg ?_
  refine stBx (cs := [.int .i64 g.Left, .int .i64 g.Right, .slice g_Verticals_p g.Verticals.length g_Verticals_c]) hf hc rfl rfl rfl rfl fun b_1 a w hf hc => ?_
  refine stP hf rfl rfl rfl (pA rfl) fun a hf => ?_
  refine stP hf rfl rfl rfl (pA rfl) fun a hf => ?_
  refine cNil ?_
  refine h1 _ _ ?_
  refine wp_seq_k fun K2 h2 => ?_
  refine wp_seq_k fun K3 h3 => ?_
  refine cReg ?_
  refine stE hf hc rfl rfl rfl (eLdN (vs := [.int .i64 g.Left, .int .i64 g.Right, .slice g_Verticals_p g.Verticals.length g_Verticals_c]) ag_48 rfl rfl (cells_box (n := 3) m0 rfl)) fun a w hf hc => ?_
  obtain ⟨r, hr, hF⟩ := bnd_some hF
  refine stE hf hc rfl rfl rfl (eC (v := .int .i64 r) (vs := [.agg #[.int .i64 g.Left, .int .i64 g.Right, .slice g_Verticals_p g.Verticals.length g_Verticals_c]]) (caps := []) en_69 rfl rfl rfl rfl (fun w hc => gauge_Check_ok g h_g_Verticals hc hr)) fun a w hf hc => ?_
  refine stP hf rfl rfl rfl (pA rfl) fun a hf => ?_
  refine cNil ?_
  refine h3 _ _ ?_
  refine wp_seq_k fun K4 h4 => ?_
  refine cReg ?_
  refine stP hf rfl rfl rfl (pM rfl) fun a hf => ?_
  refine stP hf rfl rfl rfl (pNe rfl rfl) fun a hf => ?_
  refine cNil ?_
  refine h4 _ _ ?_
  refine cCond (b := (r != 0)) hf rfl (fun hb => ?_) (fun hb => ?_)
  · replace hF := condT hb hF
    clear hb
    refine wp_seq_k fun K5 h5 => ?_
    refine cReg ?_
    refine stP hf rfl rfl rfl (pM rfl) fun a hf => ?_
    refine stP hf rfl rfl rfl (pA rfl) fun a hf => ?_
    refine stP hf rfl rfl rfl (pA rfl) fun a hf => ?_
    refine cNil ?_
    refine h5 _ _ ?_
    refine wp_ret ?_
    refine xThenR ?_
    obtain rfl := Option.some.inj hF
    replace hc := hc.nilRow 24 2
    replace hc := hc.drop k1
    refine outM hf ?_
    exact outM2 Try.results31 hf hc (show look _ 2 = _ from rfl) (show look _ 3 = _ from rfl) ⟨none, 0, rfl, hc⟩
  · replace hF := condF hb hF
    clear hb
    refine wp_skip ?_
    refine h2 _ _ ?_
    refine wp_seq_k fun K6 h6 => ?_
    refine cReg ?_
    refine stAl (cs := [.slice none 0 0]) hf hc rfl rfl zr_72 rfl fun b_2 a w hf hc => ?_
    refine cNil ?_
    refine h6 _ _ ?_
    refine wp_seq_k fun K7 h7 => ?_
    refine wp_seq_k fun K8 h8 => ?_
    refine cReg ?_
    refine stE hf hc rfl rfl rfl (eLdN (vs := [.int .i64 g.Left, .int .i64 g.Right, .slice g_Verticals_p g.Verticals.length g_Verticals_c]) ag_48 rfl rfl (cells_box (n := 3) m1 rfl)) fun a w hf hc => ?_
    obtain ⟨r_1, hr_1, hF⟩ := bnd_some hF
    refine stC (vs := [.agg #[.int .i64 g.Left, .int .i64 g.Right, .slice g_Verticals_p g.Verticals.length g_Verticals_c]]) (caps := []) hf rfl rfl rfl en_70 rfl rfl rfl rfl (gauge_Gauging_widths_ok g h_g_Verticals hc hr_1) ?_
    rintro _ w ⟨b_3, rfl, hc⟩
    refine ⟨_, rfl, fun a hf => ?_⟩
    refine cNil ?_
    refine h8 _ _ ?_
    obtain ⟨x9, hx9, hF⟩ := bnd_some hF
    replace hc := hc.nilRow 24 2
    replace hc := hc.drop k3
    replace hc := hc.pick k0
    replace hc := hc.pick k1
    refine cRange (C := [.box b_3 [.int .i64 r_1.1, .int .i64 r_1.2, .slice g_Verticals_p g.Verticals.length g_Verticals_c] 48]) (C2 := [.box b_3 [.int .i64 r_1.1, .int .i64 r_1.2, .slice g_Verticals_p g.Verticals.length g_Verticals_c] 48]) (L0 := [.row none 0 ((([] : List api_Span)).map enc_api_Span) 24 2, .box b_2 [.slice none (([] : List api_Span)).length 0] 72]) (Lf := Lf) (encs := fun x : (gauge_Vertical × Int) => [.agg #[.int .i64 x.1.At, .int .i64 x.1.Depth.Lo, .int .i64 x.1.Depth.Hi, .int .i64 x.1.Speed.Lo, .int .i64 x.1.Speed.Hi], .int .i64 x.2]) (fun (zz : (List api_Span)) L => ∃ (p_1 : Option Addr) (c_1 : Nat), L = [.row p_1 c_1 (zz.map enc_api_Span) 24 2, .box b_2 [.slice p_1 zz.length c_1] 72]) (fun (zz : (List api_Span)) (x : (gauge_Vertical × Int)) => gauge_Panels_r9 N zz x.1 x.2) ([] : List api_Span) x9 hf hc rfl en_103 (fun _ => rfl) rfl ⟨none, 0, rfl⟩ ?_ ?_ ?_ ?_
    · intro l m J L Lx w hy hJ hc
      exact gauge_Gauging_widths_1_ok (⟨r_1.1, r_1.2, g.Verticals⟩ : gauge_Gauging) h_g_Verticals J _ hy _ hJ hc hx9
    · clear hF hf hc
      rintro l m x ⟨xv, xv_1⟩ o _ Lr Lb a w hK0 ⟨p_1, c_1, rfl⟩ hF hf hc hK
      replace hf : Has 29 a [(5, .pointer (some ⟨b_2, 0, none⟩)), (15, .agg #[.int .i64 xv.At, .int .i64 xv.Depth.Lo, .int .i64 xv.Depth.Hi, .int .i64 xv.Speed.Lo, .int .i64 xv.Speed.Hi]), (16, .int .i64 xv_1)] := hf.keep ⟨rfl, rfl, rfl, trivial⟩
      replace hc : Ctx G (.row p_1 c_1 (x.map enc_api_Span) 24 2 :: .box b_2 [.slice p_1 x.length c_1] 72 :: Lr) w := hc
      replace hF : gauge_Panels_r9 N x xv xv_1 = some o := hF
      unfold gauge_Panels_r9 at hF
      refine rSeq fun K10 h10 => ?_
      refine rReg (fun _ _ h => h) rfl ?_
      refine stAl (cs := [.int .i64 0, .int .i64 0, .int .i64 0, .int .i64 0, .int .i64 0]) hf hc rfl rfl zr_61 rfl fun b_4 a w hf hc => ?_
      refine stSt (vs := [.int .i64 xv.At, .int .i64 xv.Depth.Lo, .int .i64 xv.Depth.Hi, .int .i64 xv.Speed.Lo, .int .i64 xv.Speed.Hi]) hf hc rfl rfl rfl rfl sz_61 rfl rfl u0 fun w hc => ?_
      refine cNil ?_
      refine h10 _ _ ?_
      refine rReg (fun _ _ h => h) rfl ?_
      refine stP hf rfl rfl rfl (pA rfl) fun a hf => ?_
      refine cNil ?_
      refine hK _ _ [.box b_4 [.int .i64 xv.At, .int .i64 xv.Depth.Lo, .int .i64 xv.Depth.Hi, .int .i64 xv.Speed.Lo, .int .i64 xv.Speed.Hi] 61, .row p_1 c_1 (x.map enc_api_Span) 24 2, .box b_2 [.slice p_1 x.length c_1] 72] hc fun w hc => ?_
      replace hc : Ctx G (.box b_4 [.int .i64 xv.At, .int .i64 xv.Depth.Lo, .int .i64 xv.Depth.Hi, .int .i64 xv.Speed.Lo, .int .i64 xv.Speed.Hi] 61 :: .row p_1 c_1 (x.map enc_api_Span) 24 2 :: .box b_2 [.slice p_1 x.length c_1] 72 :: Lb) w := hc
      refine rThenK fun K11 h11 => ?_
      refine rBlock ?_
      obtain ⟨r_2, hr_2, hF⟩ := bnd_some hF
      obtain ⟨r_3, hr_3, hF⟩ := bnd_some hF
      obtain ⟨un, hun, hF⟩ := bnd_some hF
      replace hc := hc.nilRow 0 0
      replace hc := hc.nilRow 0 0
      refine rRegE (fun _ _ h => h) rfl (fun θ => [⟨none, none, 5, .pointer (some ⟨b_2, 0, none⟩)⟩, ⟨none, none, 6, .pointer (some ⟨b_4, 0, none⟩)⟩, ⟨none, none, 7, .int .i64 xv_1⟩, ⟨some 0, none, 17, .slice p_1 x.length c_1⟩, ⟨some 1, none, 18, .int .i64 xv_1⟩, ⟨some 2, none, 19, .agg #[.int .i64 r_2.Lo, .int .i64 r_2.Hi]⟩, ⟨some 3, none, 20, .pointer (some ⟨b_4, 1, none⟩)⟩, ⟨some 4, none, 21, .agg #[.int .i64 xv.Depth.Lo, .int .i64 xv.Depth.Hi]⟩, ⟨some 5, none, 22, .pointer (some ⟨b_4, 3, none⟩)⟩, ⟨some 6, none, 23, .agg #[.int .i64 xv.Speed.Lo, .int .i64 xv.Speed.Hi]⟩, ⟨some 7, none, 24, .slice (some ⟨(θ 56).b, 0, none⟩) 3 3⟩, ⟨some 8, none, 25, .agg #[.int .i64 r_3.Lo, .int .i64 r_3.Hi]⟩, ⟨some 9, none, 26, .slice (some ⟨(θ 72).b, 0, none⟩) 1 1⟩, ⟨some 10, none, 27, .slice ((θ 80).p) ((x ++ [r_3]).length) ((θ 80).c)⟩]) (fun E θ => (bif E 9 then .row (some ⟨(θ 72).b, 0, none⟩) 1 (([r_3] : List api_Span).map enc_api_Span) 24 2 else .row none 0 [] 0 0) :: (bif E 7 then .row (some ⟨(θ 56).b, 0, none⟩) 3 (([r_2, xv.Depth, xv.Speed] : List api_Span).map enc_api_Span) 24 2 else .row none 0 [] 0 0) :: .box b_4 [.int .i64 xv.At, .int .i64 xv.Depth.Lo, .int .i64 xv.Depth.Hi, .int .i64 xv.Speed.Lo, .int .i64 xv.Speed.Hi] 61 :: (bif E 10 then .row ((θ 80).p) ((θ 80).c) ((x ++ [r_3]).map enc_api_Span) 24 2 else .row p_1 c_1 (x.map enc_api_Span) 24 2) :: (bif E 11 then .box b_2 [.slice ((θ 80).p) ((x ++ [r_3]).length) ((θ 80).c)] 72 else .box b_2 [.slice p_1 x.length c_1] 72) :: Lb) [(11, 0), (11, 10)] (fun a w => ∃ (b_7 : Nat) (b_8 : Nat) (p_3 : Option Addr) (c_3 : Nat), Has 29 a [] ∧ Ctx G (.row (some ⟨b_7, 0, none⟩) 1 (([r_3] : List api_Span).map enc_api_Span) 24 2 :: .row (some ⟨b_8, 0, none⟩) 3 (([r_2, xv.Depth, xv.Speed] : List api_Span).map enc_api_Span) 24 2 :: .box b_4 [.int .i64 xv.At, .int .i64 xv.Depth.Lo, .int .i64 xv.Depth.Hi, .int .i64 xv.Speed.Lo, .int .i64 xv.Speed.Hi] 61 :: .row p_3 c_3 ((x ++ [r_3]).map enc_api_Span) 24 2 :: .box b_2 [.slice p_3 ((x ++ [r_3]).length) c_3] 72 :: Lb) w) follows_mx (by kernel_rfl) (by kernel_rfl) (HasE.of hf ⟨rfl, rfl, rfl, trivial, trivial, trivial, trivial, trivial, trivial, trivial, trivial, trivial, trivial, trivial, trivial⟩) hc ⟨?_, ?_, ?_, ?_, ?_, ?_, ?_, ?_, ?_, ?_, ?_, ?_, trivial⟩ ?_ ?_
      · intro E θ a w hD hi hp he hc
        have e11 := hD.f 0 rfl hi
        replace hc : Ctx G ((bif E 9 then .row (some ⟨(θ 72).b, 0, none⟩) 1 (([r_3] : List api_Span).map enc_api_Span) 24 2 else .row none 0 [] 0 0) :: (bif E 7 then .row (some ⟨(θ 56).b, 0, none⟩) 3 (([r_2, xv.Depth, xv.Speed] : List api_Span).map enc_api_Span) 24 2 else .row none 0 [] 0 0) :: .box b_4 [.int .i64 xv.At, .int .i64 xv.Depth.Lo, .int .i64 xv.Depth.Hi, .int .i64 xv.Speed.Lo, .int .i64 xv.Speed.Hi] 61 :: (bif E 10 then .row ((θ 80).p) ((θ 80).c) ((x ++ [r_3]).map enc_api_Span) 24 2 else .row p_1 c_1 (x.map enc_api_Span) 24 2) :: (bif E 11 then .box b_2 [.slice ((θ 80).p) ((x ++ [r_3]).length) ((θ 80).c)] 72 else .box b_2 [.slice p_1 x.length c_1] 72) :: Lb) w := hc
        rw [e11] at hc
        replace hc : Ctx G ((bif E 9 then .row (some ⟨(θ 72).b, 0, none⟩) 1 (([r_3] : List api_Span).map enc_api_Span) 24 2 else .row none 0 [] 0 0) :: (bif E 7 then .row (some ⟨(θ 56).b, 0, none⟩) 3 (([r_2, xv.Depth, xv.Speed] : List api_Span).map enc_api_Span) 24 2 else .row none 0 [] 0 0) :: .box b_4 [.int .i64 xv.At, .int .i64 xv.Depth.Lo, .int .i64 xv.Depth.Hi, .int .i64 xv.Speed.Lo, .int .i64 xv.Speed.Hi] 61 :: (bif E 10 then .row ((θ 80).p) ((θ 80).c) ((x ++ [r_3]).map enc_api_Span) 24 2 else .row p_1 c_1 (x.map enc_api_Span) 24 2) :: .box b_2 [.slice p_1 x.length c_1] 72 :: Lb) w := hc
        have hf := he.h0
        replace hf := hf.more he 0 rfl onT
        refine stE hf hc rfl rfl rfl (eLd1 sc_72 rfl (cell_box m4 rfl)) fun a w hf hc => ?_
        refine cNil ?_
        refine xThenN ?_
        intro ds u hau
        refine ⟨θ, he.put0 hi hau hf rfl 3 rfl rfl, ?_⟩
        show Ctx G ((bif E 9 then .row (some ⟨(θ 72).b, 0, none⟩) 1 (([r_3] : List api_Span).map enc_api_Span) 24 2 else .row none 0 [] 0 0) :: (bif E 7 then .row (some ⟨(θ 56).b, 0, none⟩) 3 (([r_2, xv.Depth, xv.Speed] : List api_Span).map enc_api_Span) 24 2 else .row none 0 [] 0 0) :: .box b_4 [.int .i64 xv.At, .int .i64 xv.Depth.Lo, .int .i64 xv.Depth.Hi, .int .i64 xv.Speed.Lo, .int .i64 xv.Speed.Hi] 61 :: (bif E 10 then .row ((θ 80).p) ((θ 80).c) ((x ++ [r_3]).map enc_api_Span) 24 2 else .row p_1 c_1 (x.map enc_api_Span) 24 2) :: (bif E 11 then .box b_2 [.slice ((θ 80).p) ((x ++ [r_3]).length) ((θ 80).c)] 72 else .box b_2 [.slice p_1 x.length c_1] 72) :: Lb) w
        rw [e11]
        exact hc
      · intro E θ a w hD hi hp he hc
        have hf := he.h0
        replace hf := hf.more he 2 rfl onT
        refine stP hf rfl rfl rfl (pM rfl) fun a hf => ?_
        refine cNil ?_
        refine xThenN ?_
        intro ds u hau
        refine ⟨θ, he.put0 hi hau hf rfl 4 rfl rfl, ?_⟩
        exact hc
      · intro E θ a w hD hi hp he hc
        have e1 := hp.of (k := 1) rfl
        have hf := he.h0
        replace hf := hf.more he 4 rfl (onP e1)
        refine stE hf hc rfl rfl rfl (eC (v := .agg #[.int .i64 r_2.Lo, .int .i64 r_2.Hi]) (vs := [.int .i64 xv_1]) (caps := []) en_71 rfl rfl rfl rfl (fun w hc => gauge_just_ok xv_1 hc hr_2)) fun a w hf hc => ?_
        refine cNil ?_
        refine xThenN ?_
        intro ds u hau
        refine ⟨θ, he.put0 hi hau hf rfl 5 rfl rfl, ?_⟩
        exact hc
      · intro E θ a w hD hi hp he hc
        have hf := he.h0
        replace hf := hf.more he 1 rfl onT
        refine stP hf rfl rfl rfl (pFA fa_61_1 rfl) fun a hf => ?_
        refine cNil ?_
        refine xThenN ?_
        intro ds u hau
        refine ⟨θ, he.put0 hi hau hf rfl 6 rfl rfl, ?_⟩
        exact hc
      · intro E θ a w hD hi hp he hc
        have e3 := hp.of (k := 3) rfl
        have hf := he.h0
        replace hf := hf.more he 6 rfl (onP e3)
        refine stE hf hc rfl rfl rfl (eLdN (vs := [.int .i64 xv.Depth.Lo, .int .i64 xv.Depth.Hi]) ag_24 rfl rfl (cells_box (n := 2) m2 rfl)) fun a w hf hc => ?_
        refine cNil ?_
        refine xThenN ?_
        intro ds u hau
        refine ⟨θ, he.put0 hi hau hf rfl 7 rfl rfl, ?_⟩
        exact hc
      · intro E θ a w hD hi hp he hc
        have hf := he.h0
        replace hf := hf.more he 1 rfl onT
        refine stP hf rfl rfl rfl (pFA fa_61_2 rfl) fun a hf => ?_
        refine cNil ?_
        refine xThenN ?_
        intro ds u hau
        refine ⟨θ, he.put0 hi hau hf rfl 8 rfl rfl, ?_⟩
        exact hc
      · intro E θ a w hD hi hp he hc
        have e5 := hp.of (k := 5) rfl
        have hf := he.h0
        replace hf := hf.more he 8 rfl (onP e5)
        refine stE hf hc rfl rfl rfl (eLdN (vs := [.int .i64 xv.Speed.Lo, .int .i64 xv.Speed.Hi]) ag_24 rfl rfl (cells_box (n := 2) m2 rfl)) fun a w hf hc => ?_
        refine cNil ?_
        refine xThenN ?_
        intro ds u hau
        refine ⟨θ, he.put0 hi hau hf rfl 9 rfl rfl, ?_⟩
        exact hc
      · intro E θ a w hD hi hp he hc
        have e2 := hp.of (k := 2) rfl
        have e4 := hp.of (k := 4) rfl
        have e6 := hp.of (k := 6) rfl
        replace hc : Ctx G ((bif E 9 then .row (some ⟨(θ 72).b, 0, none⟩) 1 (([r_3] : List api_Span).map enc_api_Span) 24 2 else .row none 0 [] 0 0) :: (bif E 7 then .row (some ⟨(θ 56).b, 0, none⟩) 3 (([r_2, xv.Depth, xv.Speed] : List api_Span).map enc_api_Span) 24 2 else .row none 0 [] 0 0) :: .box b_4 [.int .i64 xv.At, .int .i64 xv.Depth.Lo, .int .i64 xv.Depth.Hi, .int .i64 xv.Speed.Lo, .int .i64 xv.Speed.Hi] 61 :: (bif E 10 then .row ((θ 80).p) ((θ 80).c) ((x ++ [r_3]).map enc_api_Span) 24 2 else .row p_1 c_1 (x.map enc_api_Span) 24 2) :: (bif E 11 then .box b_2 [.slice ((θ 80).p) ((x ++ [r_3]).length) ((θ 80).c)] 72 else .box b_2 [.slice p_1 x.length c_1] 72) :: Lb) w := hc
        rw [hi] at hc
        replace hc : Ctx G ((bif E 9 then .row (some ⟨(θ 72).b, 0, none⟩) 1 (([r_3] : List api_Span).map enc_api_Span) 24 2 else .row none 0 [] 0 0) :: .row none 0 [] 0 0 :: .box b_4 [.int .i64 xv.At, .int .i64 xv.Depth.Lo, .int .i64 xv.Depth.Hi, .int .i64 xv.Speed.Lo, .int .i64 xv.Speed.Hi] 61 :: (bif E 10 then .row ((θ 80).p) ((θ 80).c) ((x ++ [r_3]).map enc_api_Span) 24 2 else .row p_1 c_1 (x.map enc_api_Span) 24 2) :: (bif E 11 then .box b_2 [.slice ((θ 80).p) ((x ++ [r_3]).length) ((θ 80).c)] 72 else .box b_2 [.slice p_1 x.length c_1] 72) :: Lb) w := hc
        have hf := he.h0
        replace hf := hf.more he 5 rfl (onP e2)
        replace hf := hf.more he 7 rfl (onP e4)
        replace hf := hf.more he 9 rfl (onP e6)
        refine stBS (rows := ([r_2, xv.Depth, xv.Speed] : List api_Span).map enc_api_Span) (vs := [(0, .agg #[.int .i64 r_2.Lo, .int .i64 r_2.Hi]), (1, .agg #[.int .i64 xv.Depth.Lo, .int .i64 xv.Depth.Hi]), (2, .agg #[.int .i64 xv.Speed.Lo, .int .i64 xv.Speed.Hi])]) hf hc rfl rfl sl_72 rfl ⟨rfl, rfl, rfl, rfl, rfl, rfl, rfl, rfl, rfl, trivial⟩ rfl rfl fun b_5 a w hf hc => ?_
        refine cNil ?_
        refine xThenN ?_
        intro ds u hau
        replace hc := hc.drop k2
        replace hc := hc.pick k0
        replace hc := hc.pick k1
        refine ⟨(setT θ 56 ⟨b_5, none, 0⟩), he.put hi hau hf rfl [] trivial ⟨qq, qq, qq, qq, qq, qq, qq, qq, qq, qq, qq, qq, qq, qq, trivial⟩, ?_⟩
        show Ctx G ((bif E 9 then .row (some ⟨(θ 72).b, 0, none⟩) 1 (([r_3] : List api_Span).map enc_api_Span) 24 2 else .row none 0 [] 0 0) :: (bif true then .row (some ⟨b_5, 0, none⟩) 3 (([r_2, xv.Depth, xv.Speed] : List api_Span).map enc_api_Span) 24 2 else .row none 0 [] 0 0) :: .box b_4 [.int .i64 xv.At, .int .i64 xv.Depth.Lo, .int .i64 xv.Depth.Hi, .int .i64 xv.Speed.Lo, .int .i64 xv.Speed.Hi] 61 :: (bif E 10 then .row ((θ 80).p) ((θ 80).c) ((x ++ [r_3]).map enc_api_Span) 24 2 else .row p_1 c_1 (x.map enc_api_Span) 24 2) :: (bif E 11 then .box b_2 [.slice ((θ 80).p) ((x ++ [r_3]).length) ((θ 80).c)] 72 else .box b_2 [.slice p_1 x.length c_1] 72) :: Lb) w
        exact hc
      · intro E θ a w hD hi hp he hc
        have e7 := hp.of (k := 7) rfl
        replace hc : Ctx G ((bif E 9 then .row (some ⟨(θ 72).b, 0, none⟩) 1 (([r_3] : List api_Span).map enc_api_Span) 24 2 else .row none 0 [] 0 0) :: (bif E 7 then .row (some ⟨(θ 56).b, 0, none⟩) 3 (([r_2, xv.Depth, xv.Speed] : List api_Span).map enc_api_Span) 24 2 else .row none 0 [] 0 0) :: .box b_4 [.int .i64 xv.At, .int .i64 xv.Depth.Lo, .int .i64 xv.Depth.Hi, .int .i64 xv.Speed.Lo, .int .i64 xv.Speed.Hi] 61 :: (bif E 10 then .row ((θ 80).p) ((θ 80).c) ((x ++ [r_3]).map enc_api_Span) 24 2 else .row p_1 c_1 (x.map enc_api_Span) 24 2) :: (bif E 11 then .box b_2 [.slice ((θ 80).p) ((x ++ [r_3]).length) ((θ 80).c)] 72 else .box b_2 [.slice p_1 x.length c_1] 72) :: Lb) w := hc
        rw [e7] at hc
        replace hc : Ctx G ((bif E 9 then .row (some ⟨(θ 72).b, 0, none⟩) 1 (([r_3] : List api_Span).map enc_api_Span) 24 2 else .row none 0 [] 0 0) :: .row (some ⟨(θ 56).b, 0, none⟩) 3 (([r_2, xv.Depth, xv.Speed] : List api_Span).map enc_api_Span) 24 2 :: .box b_4 [.int .i64 xv.At, .int .i64 xv.Depth.Lo, .int .i64 xv.Depth.Hi, .int .i64 xv.Speed.Lo, .int .i64 xv.Speed.Hi] 61 :: (bif E 10 then .row ((θ 80).p) ((θ 80).c) ((x ++ [r_3]).map enc_api_Span) 24 2 else .row p_1 c_1 (x.map enc_api_Span) 24 2) :: (bif E 11 then .box b_2 [.slice ((θ 80).p) ((x ++ [r_3]).length) ((θ 80).c)] 72 else .box b_2 [.slice p_1 x.length c_1] 72) :: Lb) w := hc
        have hf := he.h0
        replace hf := hf.more he 10 rfl (onP e7)
        refine stE hf hc rfl rfl rfl (eC (v := .agg #[.int .i64 r_3.Lo, .int .i64 r_3.Hi]) (vs := [.slice (some ⟨(θ 56).b, 0, none⟩) 3 3]) (caps := []) en_59 rfl rfl rfl rfl (fun w hc => by obtain ⟨G1, hle1, hrd1, hc, hth1⟩ := lend hc k1; exact (gauge_times_ok ([r_2, xv.Depth, xv.Speed] : List api_Span) hrd1 hc hr_3).mono fun e w h => ⟨h.1, ((hth1 _ _ h.2).unpick k1)⟩)) fun a w hf hc => ?_
        refine cNil ?_
        refine xThenN ?_
        intro ds u hau
        refine ⟨θ, he.put0 hi hau hf rfl 11 rfl rfl, ?_⟩
        show Ctx G ((bif E 9 then .row (some ⟨(θ 72).b, 0, none⟩) 1 (([r_3] : List api_Span).map enc_api_Span) 24 2 else .row none 0 [] 0 0) :: (bif E 7 then .row (some ⟨(θ 56).b, 0, none⟩) 3 (([r_2, xv.Depth, xv.Speed] : List api_Span).map enc_api_Span) 24 2 else .row none 0 [] 0 0) :: .box b_4 [.int .i64 xv.At, .int .i64 xv.Depth.Lo, .int .i64 xv.Depth.Hi, .int .i64 xv.Speed.Lo, .int .i64 xv.Speed.Hi] 61 :: (bif E 10 then .row ((θ 80).p) ((θ 80).c) ((x ++ [r_3]).map enc_api_Span) 24 2 else .row p_1 c_1 (x.map enc_api_Span) 24 2) :: (bif E 11 then .box b_2 [.slice ((θ 80).p) ((x ++ [r_3]).length) ((θ 80).c)] 72 else .box b_2 [.slice p_1 x.length c_1] 72) :: Lb) w
        rw [e7]
        exact hc
      · intro E θ a w hD hi hp he hc
        have e8 := hp.of (k := 8) rfl
        replace hc : Ctx G ((bif E 9 then .row (some ⟨(θ 72).b, 0, none⟩) 1 (([r_3] : List api_Span).map enc_api_Span) 24 2 else .row none 0 [] 0 0) :: (bif E 7 then .row (some ⟨(θ 56).b, 0, none⟩) 3 (([r_2, xv.Depth, xv.Speed] : List api_Span).map enc_api_Span) 24 2 else .row none 0 [] 0 0) :: .box b_4 [.int .i64 xv.At, .int .i64 xv.Depth.Lo, .int .i64 xv.Depth.Hi, .int .i64 xv.Speed.Lo, .int .i64 xv.Speed.Hi] 61 :: (bif E 10 then .row ((θ 80).p) ((θ 80).c) ((x ++ [r_3]).map enc_api_Span) 24 2 else .row p_1 c_1 (x.map enc_api_Span) 24 2) :: (bif E 11 then .box b_2 [.slice ((θ 80).p) ((x ++ [r_3]).length) ((θ 80).c)] 72 else .box b_2 [.slice p_1 x.length c_1] 72) :: Lb) w := hc
        rw [hi] at hc
        replace hc : Ctx G (.row none 0 [] 0 0 :: (bif E 7 then .row (some ⟨(θ 56).b, 0, none⟩) 3 (([r_2, xv.Depth, xv.Speed] : List api_Span).map enc_api_Span) 24 2 else .row none 0 [] 0 0) :: .box b_4 [.int .i64 xv.At, .int .i64 xv.Depth.Lo, .int .i64 xv.Depth.Hi, .int .i64 xv.Speed.Lo, .int .i64 xv.Speed.Hi] 61 :: (bif E 10 then .row ((θ 80).p) ((θ 80).c) ((x ++ [r_3]).map enc_api_Span) 24 2 else .row p_1 c_1 (x.map enc_api_Span) 24 2) :: (bif E 11 then .box b_2 [.slice ((θ 80).p) ((x ++ [r_3]).length) ((θ 80).c)] 72 else .box b_2 [.slice p_1 x.length c_1] 72) :: Lb) w := hc
        have hf := he.h0
        replace hf := hf.more he 11 rfl (onP e8)
        refine stBS (rows := ([r_3] : List api_Span).map enc_api_Span) (vs := [(0, .agg #[.int .i64 r_3.Lo, .int .i64 r_3.Hi])]) hf hc rfl rfl sl_72 rfl ⟨rfl, rfl, rfl, trivial⟩ rfl rfl fun b_6 a w hf hc => ?_
        refine cNil ?_
        refine xThenN ?_
        intro ds u hau
        replace hc := hc.drop k1
        refine ⟨(setT θ 72 ⟨b_6, none, 0⟩), he.put hi hau hf rfl [] trivial ⟨qq, qq, qq, qq, qq, qq, qq, qq, qq, qq, qq, qq, qq, qq, trivial⟩, ?_⟩
        show Ctx G ((bif true then .row (some ⟨b_6, 0, none⟩) 1 (([r_3] : List api_Span).map enc_api_Span) 24 2 else .row none 0 [] 0 0) :: (bif E 7 then .row (some ⟨(θ 56).b, 0, none⟩) 3 (([r_2, xv.Depth, xv.Speed] : List api_Span).map enc_api_Span) 24 2 else .row none 0 [] 0 0) :: .box b_4 [.int .i64 xv.At, .int .i64 xv.Depth.Lo, .int .i64 xv.Depth.Hi, .int .i64 xv.Speed.Lo, .int .i64 xv.Speed.Hi] 61 :: (bif E 10 then .row ((θ 80).p) ((θ 80).c) ((x ++ [r_3]).map enc_api_Span) 24 2 else .row p_1 c_1 (x.map enc_api_Span) 24 2) :: (bif E 11 then .box b_2 [.slice ((θ 80).p) ((x ++ [r_3]).length) ((θ 80).c)] 72 else .box b_2 [.slice p_1 x.length c_1] 72) :: Lb) w
        exact hc
      · intro E θ a w hD hi hp he hc
        have e0 := hp.of (k := 0) rfl
        have e9 := hp.of (k := 9) rfl
        have e11 := hD.f 1 rfl hi
        replace hc : Ctx G ((bif E 9 then .row (some ⟨(θ 72).b, 0, none⟩) 1 (([r_3] : List api_Span).map enc_api_Span) 24 2 else .row none 0 [] 0 0) :: (bif E 7 then .row (some ⟨(θ 56).b, 0, none⟩) 3 (([r_2, xv.Depth, xv.Speed] : List api_Span).map enc_api_Span) 24 2 else .row none 0 [] 0 0) :: .box b_4 [.int .i64 xv.At, .int .i64 xv.Depth.Lo, .int .i64 xv.Depth.Hi, .int .i64 xv.Speed.Lo, .int .i64 xv.Speed.Hi] 61 :: (bif E 10 then .row ((θ 80).p) ((θ 80).c) ((x ++ [r_3]).map enc_api_Span) 24 2 else .row p_1 c_1 (x.map enc_api_Span) 24 2) :: (bif E 11 then .box b_2 [.slice ((θ 80).p) ((x ++ [r_3]).length) ((θ 80).c)] 72 else .box b_2 [.slice p_1 x.length c_1] 72) :: Lb) w := hc
        rw [e9, hi, e11] at hc
        replace hc : Ctx G (.row (some ⟨(θ 72).b, 0, none⟩) 1 (([r_3] : List api_Span).map enc_api_Span) 24 2 :: (bif E 7 then .row (some ⟨(θ 56).b, 0, none⟩) 3 (([r_2, xv.Depth, xv.Speed] : List api_Span).map enc_api_Span) 24 2 else .row none 0 [] 0 0) :: .box b_4 [.int .i64 xv.At, .int .i64 xv.Depth.Lo, .int .i64 xv.Depth.Hi, .int .i64 xv.Speed.Lo, .int .i64 xv.Speed.Hi] 61 :: .row p_1 c_1 (x.map enc_api_Span) 24 2 :: (bif false then .box b_2 [.slice ((θ 80).p) ((x ++ [r_3]).length) ((θ 80).c)] 72 else .box b_2 [.slice p_1 x.length c_1] 72) :: Lb) w := hc
        have hf := he.h0
        replace hf := hf.more he 3 rfl (onP e0)
        replace hf := hf.more he 12 rfl (onP e9)
        refine stApm (xs := x) (ys := ([r_3] : List api_Span)) hf hc rfl rfl sl_72 rfl rfl rfl rfl rfl one_enc_api_Span (src_row hc m0) (fun _ _ => u3) (by simpa using room_spec hun) fun p_2 c_2 a w hf hc => ?_
        refine cNil ?_
        refine xThenN ?_
        intro ds u hau
        refine ⟨(setT θ 80 ⟨0, p_2, c_2⟩), he.put hi hau hf rfl [] trivial ⟨qq, qq, qq, qq, qq, qq, qq, qq, qq, qq, qq, qq, qq, qq, trivial⟩, ?_⟩
        show Ctx G ((bif E 9 then .row (some ⟨(θ 72).b, 0, none⟩) 1 (([r_3] : List api_Span).map enc_api_Span) 24 2 else .row none 0 [] 0 0) :: (bif E 7 then .row (some ⟨(θ 56).b, 0, none⟩) 3 (([r_2, xv.Depth, xv.Speed] : List api_Span).map enc_api_Span) 24 2 else .row none 0 [] 0 0) :: .box b_4 [.int .i64 xv.At, .int .i64 xv.Depth.Lo, .int .i64 xv.Depth.Hi, .int .i64 xv.Speed.Lo, .int .i64 xv.Speed.Hi] 61 :: (bif true then .row p_2 c_2 ((x ++ [r_3]).map enc_api_Span) 24 2 else .row p_1 c_1 (x.map enc_api_Span) 24 2) :: (bif E 11 then .box b_2 [.slice p_2 ((x ++ [r_3]).length) c_2] 72 else .box b_2 [.slice p_1 x.length c_1] 72) :: Lb) w
        rw [e9, e11]
        exact hc
      · intro E θ a w hD hi hp he hc
        have e10 := hp.of (k := 10) rfl
        replace hc : Ctx G ((bif E 9 then .row (some ⟨(θ 72).b, 0, none⟩) 1 (([r_3] : List api_Span).map enc_api_Span) 24 2 else .row none 0 [] 0 0) :: (bif E 7 then .row (some ⟨(θ 56).b, 0, none⟩) 3 (([r_2, xv.Depth, xv.Speed] : List api_Span).map enc_api_Span) 24 2 else .row none 0 [] 0 0) :: .box b_4 [.int .i64 xv.At, .int .i64 xv.Depth.Lo, .int .i64 xv.Depth.Hi, .int .i64 xv.Speed.Lo, .int .i64 xv.Speed.Hi] 61 :: (bif E 10 then .row ((θ 80).p) ((θ 80).c) ((x ++ [r_3]).map enc_api_Span) 24 2 else .row p_1 c_1 (x.map enc_api_Span) 24 2) :: (bif E 11 then .box b_2 [.slice ((θ 80).p) ((x ++ [r_3]).length) ((θ 80).c)] 72 else .box b_2 [.slice p_1 x.length c_1] 72) :: Lb) w := hc
        rw [hi] at hc
        replace hc : Ctx G ((bif E 9 then .row (some ⟨(θ 72).b, 0, none⟩) 1 (([r_3] : List api_Span).map enc_api_Span) 24 2 else .row none 0 [] 0 0) :: (bif E 7 then .row (some ⟨(θ 56).b, 0, none⟩) 3 (([r_2, xv.Depth, xv.Speed] : List api_Span).map enc_api_Span) 24 2 else .row none 0 [] 0 0) :: .box b_4 [.int .i64 xv.At, .int .i64 xv.Depth.Lo, .int .i64 xv.Depth.Hi, .int .i64 xv.Speed.Lo, .int .i64 xv.Speed.Hi] 61 :: (bif E 10 then .row ((θ 80).p) ((θ 80).c) ((x ++ [r_3]).map enc_api_Span) 24 2 else .row p_1 c_1 (x.map enc_api_Span) 24 2) :: .box b_2 [.slice p_1 x.length c_1] 72 :: Lb) w := hc
        have hf := he.h0
        replace hf := hf.more he 0 rfl onT
        replace hf := hf.more he 13 rfl (onP e10)
        refine stSt (vs := [.slice ((θ 80).p) ((x ++ [r_3]).length) ((θ 80).c)]) hf hc rfl rfl rfl rfl sz_72 rfl rfl u4 fun w hc => ?_
        refine cNil ?_
        refine xThenN ?_
        intro ds u hau
        refine ⟨θ, he.stay0 hi hau hf rfl, ?_⟩
        show Ctx G ((bif E 9 then .row (some ⟨(θ 72).b, 0, none⟩) 1 (([r_3] : List api_Span).map enc_api_Span) 24 2 else .row none 0 [] 0 0) :: (bif E 7 then .row (some ⟨(θ 56).b, 0, none⟩) 3 (([r_2, xv.Depth, xv.Speed] : List api_Span).map enc_api_Span) 24 2 else .row none 0 [] 0 0) :: .box b_4 [.int .i64 xv.At, .int .i64 xv.Depth.Lo, .int .i64 xv.Depth.Hi, .int .i64 xv.Speed.Lo, .int .i64 xv.Speed.Hi] 61 :: (bif E 10 then .row ((θ 80).p) ((θ 80).c) ((x ++ [r_3]).map enc_api_Span) 24 2 else .row p_1 c_1 (x.map enc_api_Span) 24 2) :: (bif true then .box b_2 [.slice ((θ 80).p) ((x ++ [r_3]).length) ((θ 80).c)] 72 else .box b_2 [.slice p_1 x.length c_1] 72) :: Lb) w
        exact hc
      · intro E θ a w hall he hc
        have hf := he.h0
        have e7 := hall 7 rfl
        have e9 := hall 9 rfl
        have e10 := hall 10 rfl
        have e11 := hall 11 rfl
        replace hc : Ctx G ((bif E 9 then .row (some ⟨(θ 72).b, 0, none⟩) 1 (([r_3] : List api_Span).map enc_api_Span) 24 2 else .row none 0 [] 0 0) :: (bif E 7 then .row (some ⟨(θ 56).b, 0, none⟩) 3 (([r_2, xv.Depth, xv.Speed] : List api_Span).map enc_api_Span) 24 2 else .row none 0 [] 0 0) :: .box b_4 [.int .i64 xv.At, .int .i64 xv.Depth.Lo, .int .i64 xv.Depth.Hi, .int .i64 xv.Speed.Lo, .int .i64 xv.Speed.Hi] 61 :: (bif E 10 then .row ((θ 80).p) ((θ 80).c) ((x ++ [r_3]).map enc_api_Span) 24 2 else .row p_1 c_1 (x.map enc_api_Span) 24 2) :: (bif E 11 then .box b_2 [.slice ((θ 80).p) ((x ++ [r_3]).length) ((θ 80).c)] 72 else .box b_2 [.slice p_1 x.length c_1] 72) :: Lb) w := hc
        rw [e7, e9, e10, e11] at hc
        exact ⟨(θ 72).b, (θ 56).b, (θ 80).p, (θ 80).c, hf.keep trivial, hc⟩
      rintro a w ⟨b_7, b_8, p_3, c_3, hf, hc⟩
      refine h11 _ _ ?_
      replace hc := hc.drop k2
      replace hc := hc.drop k1
      replace hc := hc.drop k0
      exact ⟨(x ++ [r_3]), _, (Option.some.inj hF).symm, ⟨p_3, c_3, rfl⟩, hc⟩
    · rintro D_1 x _ a w hsF ⟨p_1, c_1, rfl⟩ hf hc
      replace hc : Ctx G (.raw D_1 (.deferred (some [])) :: .box b_3 [.int .i64 r_1.1, .int .i64 r_1.2, .slice g_Verticals_p g.Verticals.length g_Verticals_c] 48 :: .row p_1 c_1 (x.map enc_api_Span) 24 2 :: .box b_2 [.slice p_1 x.length c_1] 72 :: Lf) w := hc
      replace hF : (some (x, 0)) = some res := by rcases hsF with rfl | rfl <;> exact hF
      refine h7 _ _ ?_
      refine wp_seq_k fun K12 h12 => ?_
      refine cReg ?_
      refine stE hf hc rfl rfl rfl (eLd1 sc_72 rfl (cell_box m3 rfl)) fun a w hf hc => ?_
      refine stP hf rfl rfl rfl (pA rfl) fun a hf => ?_
      refine stP hf rfl rfl rfl (pA rfl) fun a hf => ?_
      refine cNil ?_
      refine h12 _ _ ?_
      refine wp_ret ?_
      obtain rfl := Option.some.inj hF
      replace hc := hc.drop k3
      replace hc := hc.drop k1
      replace hc := hc.pick k0
      replace hc := hc.pick k1
      refine outM hf ?_
      refine outMc hc m1 u1 fun w hc => ?_
      exact outM2 Try.results31 hf hc (show look _ 2 = _ from rfl) (show look _ 3 = _ from rfl) ⟨p_1, c_1, rfl, (hc.drop k1)⟩
    · rintro D_1 x _ a w hsF ⟨p_1, c_1, rfl⟩ hf hc
      replace hc : Ctx G (.raw D_1 (.deferred (some [])) :: .box b_3 [.int .i64 r_1.1, .int .i64 r_1.2, .slice g_Verticals_p g.Verticals.length g_Verticals_c] 48 :: .row p_1 c_1 (x.map enc_api_Span) 24 2 :: .box b_2 [.slice p_1 x.length c_1] 72 :: Lf) w := hc
      replace hF : (none) = some res := by subst hsF; exact hF
      cases hF

def gauge_plus (N : Nat) (a_ : api_Span) (b_ : api_Span) : Option (api_Span) :=
  some (⟨W (a_.Lo + b_.Lo), W (a_.Hi + b_.Hi)⟩ : api_Span)
theorem gauge_plus_ok {N : Nat} {G : Pers} {Lf : List Ent} {w : World} (a_ : api_Span) (b_ : api_Span)   (hc : Ctx G (Lf) w) {res : api_Span} (hF : gauge_plus N a_ b_ = some res) : Calls Try.prog 58 #[.agg #[.int .i64 a_.Lo, .int .i64 a_.Hi], .agg #[.int .i64 b_.Lo, .int .i64 b_.Hi]] w (fun e w => e = .returned (.agg #[.int .i64 res.Lo, .int .i64 res.Hi]) ∧ Ctx G (Lf) w) := by
  unfold gauge_plus at hF
  refine fnIn (args := [.agg #[.int .i64 a_.Lo, .int .i64 a_.Hi], .agg #[.int .i64 b_.Lo, .int .i64 b_.Hi]]) Try.func58 rfl Try.ntmps58 rfl fun a hf => ?_
  refine wp_seq_k fun K1 h1 => ?_
  refine cReg ?_
  refine stBx (cs := [.int .i64 a_.Lo, .int .i64 a_.Hi]) hf hc rfl rfl rfl rfl fun b_1 a w hf hc => ?_
  refine stBx (cs := [.int .i64 b_.Lo, .int .i64 b_.Hi]) hf hc rfl rfl rfl rfl fun b_2 a w hf hc => ?_
  refine stAl (cs := [.int .i64 0, .int .i64 0]) hf hc rfl rfl zr_24 rfl fun b_3 a w hf hc => ?_
  refine cNil ?_
  refine h1 _ _ ?_
  refine wp_seq_k fun K2 h2 => ?_
  refine cReg ?_
  refine stP hf rfl rfl rfl (pFA fa_24_0 rfl) fun a hf => ?_
  refine stE hf hc rfl rfl rfl (eLd1 sc_3 rfl (cell_box m2 rfl)) fun a w hf hc => ?_
  refine stP hf rfl rfl rfl (pFA fa_24_0 rfl) fun a hf => ?_
  refine stE hf hc rfl rfl rfl (eLd1 sc_3 rfl (cell_box m1 rfl)) fun a w hf hc => ?_
  refine stP hf rfl rfl rfl (pAdd rfl rfl) fun a hf => ?_
  refine stP hf rfl rfl rfl (pFA fa_24_1 rfl) fun a hf => ?_
  refine stE hf hc rfl rfl rfl (eLd1 sc_3 rfl (cell_box m2 rfl)) fun a w hf hc => ?_
  refine stP hf rfl rfl rfl (pFA fa_24_1 rfl) fun a hf => ?_
  refine stE hf hc rfl rfl rfl (eLd1 sc_3 rfl (cell_box m1 rfl)) fun a w hf hc => ?_
  refine stP hf rfl rfl rfl (pAdd rfl rfl) fun a hf => ?_
  refine stP hf rfl rfl rfl (pBuildS (cells := [.int .i64 (W (a_.Lo + b_.Lo)), .int .i64 (W (a_.Hi + b_.Hi))]) bt_24 rfl rfl) fun a hf => ?_
  refine stSt (vs := [.int .i64 (W (a_.Lo + b_.Lo)), .int .i64 (W (a_.Hi + b_.Hi))]) hf hc rfl rfl rfl rfl sz_24 rfl rfl u0 fun w hc => ?_
  refine cNil ?_
  refine h2 _ _ ?_
  refine wp_ret ?_
  obtain rfl := Option.some.inj hF
  replace hc := hc.drop k2
  replace hc := hc.drop k1
  exact fnOut1 (by simp) rfl Try.results58 hf hc (rv_cellN (vs := [.int .i64 (W (a_.Lo + b_.Lo)), .int .i64 (W (a_.Hi + b_.Hi))]) ag_24 rfl rfl (cells_box (n := 2) m0 rfl)) ⟨rfl, (hc.drop k0)⟩

def gauge_Flow_b6 (N : Nat) (r : (List api_Span) × Int) (x : List api_Span) (x_1 : Int) (x_2 : Int) (x_3 : Int) : Option (Step ((List api_Span) × Int × Int × Int) (api_Span × Int)) :=
  cond (decide (x_1 < ((r.1.length : Nat) : Int)))
  (Option.bind (getI x x_1) fun e_1 =>
  Option.bind (gauge_plus N (⟨x_2, x_3⟩ : api_Span) e_1) fun r_1 =>
  some (.cont (x, W (x_1 + 1), r_1.Lo, r_1.Hi)))
  (some (.brk (x, x_1, x_2, x_3)))
def gauge_Flow (N : Nat) (g : gauge_Gauging) : Option (api_Span × Int) :=
  Option.bind (gauge_Panels N g) fun r =>
  Option.bind (loopO (fun s6 => gauge_Flow_b6 N r s6.1 s6.2.1 s6.2.2.1 s6.2.2.2) N (r.1, 0, 0, 0)) fun x6 =>
  exK x6 (fun s6 => some ((⟨s6.2.2.1, s6.2.2.2⟩ : api_Span), r.2)) some
theorem gauge_Flow_ok {N : Nat} {G : Pers} {Lf : List Ent} {w : World} (g : gauge_Gauging) {g_Verticals_p : Option Addr} {g_Verticals_c : Nat} (h_g_Verticals : Rd G 5 g_Verticals_p g_Verticals_c (g.Verticals.map enc_gauge_Vertical)) (hc : Ctx G (Lf) w) {res : api_Span × Int} (hF : gauge_Flow N g = some res) : Calls Try.prog 27 #[.agg #[.int .i64 g.Left, .int .i64 g.Right, .slice g_Verticals_p g.Verticals.length g_Verticals_c]] w (fun e w => e = .returned (.tuple #[.agg #[.int .i64 res.1.Lo, .int .i64 res.1.Hi], .int .i64 res.2]) ∧ Ctx G (Lf) w) := by
  unfold gauge_Flow at hF
  refine fnIn (args := [.agg #[.int .i64 g.Left, .int .i64 g.Right, .slice g_Verticals_p g.Verticals.length g_Verticals_c]]) Try.func27 rfl Try.ntmps27 rfl fun a hf => ?_
  refine wp_seq_k fun K1 h1 => ?_
  refine cReg ?_
  refine stBx (cs := [.int .i64 g.Left, .int .i64 g.Right, .slice g_Verticals_p g.Verticals.length g_Verticals_c]) hf hc rfl rfl rfl rfl fun b_1 a w hf hc => ?_
  refine stAl (cs := [.int .i64 0, .int .i64 0]) hf hc rfl rfl zr_24 rfl fun b_2 a w hf hc => ?_
  refine stP hf rfl rfl rfl (pA rfl) fun a hf => ?_
  refine cNil ?_
  refine h1 _ _ ?_
  refine wp_seq_k fun K2 h2 => ?_
  refine cReg ?_
  refine stE hf hc rfl rfl rfl (eLdN (vs := [.int .i64 g.Left, .int .i64 g.Right, .slice g_Verticals_p g.Verticals.length g_Verticals_c]) ag_48 rfl rfl (cells_box (n := 3) m1 rfl)) fun a w hf hc => ?_
  obtain ⟨r, hr, hF⟩ := bnd_some hF
  refine stC (vs := [.agg #[.int .i64 g.Left, .int .i64 g.Right, .slice g_Verticals_p g.Verticals.length g_Verticals_c]]) (caps := []) hf rfl rfl rfl en_31 rfl rfl rfl rfl (gauge_Panels_ok g h_g_Verticals hc hr) ?_
  rintro _ w ⟨p_1, c_1, rfl, hc⟩
  refine ⟨_, rfl, fun a hf => ?_⟩
  refine stP hf rfl rfl rfl (pM rfl) fun a hf => ?_
  refine stP hf rfl rfl rfl (pX rfl rfl) fun a hf => ?_
  refine stP hf rfl rfl rfl (pX rfl rfl) fun a hf => ?_
  refine stP hf rfl rfl rfl (pA rfl) fun a hf => ?_
  refine stP hf rfl rfl rfl (pA rfl) fun a hf => ?_
  refine cNil ?_
  refine h2 _ _ ?_
  refine wp_seq_k fun K3 h3 => ?_
  refine cReg ?_
  refine stAl (cs := [.int .i64 0, .int .i64 0]) hf hc rfl rfl zr_24 rfl fun b_3 a w hf hc => ?_
  refine cNil ?_
  refine h3 _ _ ?_
  refine wp_seq_k fun K4 h4 => ?_
  refine wp_seq_k fun K5 h5 => ?_
  refine cReg ?_
  refine stP hf rfl rfl rfl (pM rfl) fun a hf => ?_
  refine stP hf rfl rfl rfl (pLenS Try.underlying72 rfl) fun a hf => ?_
  refine stP hf rfl rfl rfl (pM rfl) fun a hf => ?_
  refine cNil ?_
  refine h5 _ _ ?_
  refine wp_block ?_
  obtain ⟨x6, hx6, hF⟩ := bnd_some hF
  let S6 : ((List api_Span) × Int × Int × Int) → Act → World → Prop := (fun (zz : (List api_Span) × Int × Int × Int) a w => ∃ (p_2 : Option Addr) (c_2 : Nat), Has 26 a [(2, .pointer (some ⟨b_2, 0, none⟩)), (5, .int .i64 r.2), (6, .pointer (some ⟨b_3, 0, none⟩)), (14, .slice p_2 zz.1.length c_2), (15, .int .i64 ((r.1.length : Nat) : Int)), (16, .int .i64 zz.2.1)] ∧ Ctx G (.box b_3 [.int .i64 zz.2.2.1, .int .i64 zz.2.2.2] 24 :: .row p_2 c_2 (zz.1.map enc_api_Span) 24 2 :: .box b_2 [.int .i64 0, .int .i64 0] 24 :: Lf) w)
  have hr6 : ∀ (zz : (List api_Span) × Int × Int × Int) a w, x6 = .go zz → S6 zz a w → K4 a w := by
    rintro ⟨x, x_1, x_2, x_3⟩ a w rfl ⟨p_2, c_2, hf, hc⟩
    replace hF : _ = some res := hF
    refine h4 _ _ ?_
    refine wp_seq_k fun K7 h7 => ?_
    refine cReg ?_
    refine stE hf hc rfl rfl rfl (eLdN (vs := [.int .i64 x_2, .int .i64 x_3]) ag_24 rfl rfl (cells_box (n := 2) m0 rfl)) fun a w hf hc => ?_
    refine stP hf rfl rfl rfl (pM rfl) fun a hf => ?_
    refine stSt (vs := [.int .i64 x_2, .int .i64 x_3]) hf hc rfl rfl rfl rfl sz_24 rfl rfl u2 fun w hc => ?_
    refine stP hf rfl rfl rfl (pA rfl) fun a hf => ?_
    refine cNil ?_
    refine h7 _ _ ?_
    refine wp_ret ?_
    obtain rfl := Option.some.inj hF
    replace hc := hc.drop k1
    replace hc := hc.drop k0
    exact fnOut2 (by simp) rfl Try.results27 hf hc (rv_cellN (vs := [.int .i64 x_2, .int .i64 x_3]) ag_24 rfl rfl (cells_box (n := 2) m0 rfl)) (show look _ 3 = _ from rfl) ⟨rfl, (hc.drop k0)⟩
  have ho6 : ∀ r, x6 = .out r → r = res := by
    rintro r rfl
    exact Option.some.inj hF
  replace hc := hc.drop k3
  refine cLoop N (loopW (S := S6) (x := x6) ?_ N (r.1, 0, 0, 0) _ _ ⟨p_1, c_1, hf.keep ⟨rfl, rfl, rfl, rfl, rfl, rfl, trivial⟩, hc⟩ hx6)
  clear hF hf hc
  rintro ⟨x, x_1, x_2, x_3⟩ st6 a w KB6 ⟨p_2, c_2, hf, hc⟩ hF hfin6 hK6
  unfold gauge_Flow_b6 at hF
  refine wp_seq_k fun K8 h8 => ?_
  refine cReg ?_
  refine stP hf rfl rfl rfl (pLt rfl rfl) fun a hf => ?_
  refine cNil ?_
  refine h8 _ _ ?_
  refine wp_seq_k fun K9 h9 => ?_
  refine cCond (b := (decide (x_1 < ((r.1.length : Nat) : Int)))) hf rfl (fun hb => ?_) (fun hb => ?_)
  · replace hF := condT hb hF
    clear hb
    refine wp_skip ?_
    refine h9 _ _ ?_
    refine wp_seq_k fun K10 h10 => ?_
    refine wp_block ?_
    refine wp_seq_k fun K11 h11 => ?_
    refine cReg ?_
    obtain ⟨e_1, he_1, hF⟩ := bnd_some hF
    obtain ⟨g_0, rfl, ha, hr⟩ := row_atm hc m1 he_1
    refine stP hf rfl rfl rfl (pIA Try.underlying72 sz_24 rfl rfl ha) fun a hf => ?_
    refine stE hf hc rfl rfl rfl (eLdN (vs := [.int .i64 e_1.Lo, .int .i64 e_1.Hi]) ag_24 rfl rfl (cells_rw m1 hr (n := 2) (o' := 0) rfl)) fun a w hf hc => ?_
    refine stAl (cs := [.int .i64 0, .int .i64 0]) hf hc rfl rfl zr_24 rfl fun b_4 a w hf hc => ?_
    refine stSt (vs := [.int .i64 e_1.Lo, .int .i64 e_1.Hi]) hf hc rfl rfl rfl rfl sz_24 rfl rfl u0 fun w hc => ?_
    refine cNil ?_
    refine h11 _ _ ?_
    refine cReg ?_
    refine stE hf hc rfl rfl rfl (eLdN (vs := [.int .i64 x_2, .int .i64 x_3]) ag_24 rfl rfl (cells_box (n := 2) m1 rfl)) fun a w hf hc => ?_
    refine stE hf hc rfl rfl rfl (eLdN (vs := [.int .i64 e_1.Lo, .int .i64 e_1.Hi]) ag_24 rfl rfl (cells_box (n := 2) m0 rfl)) fun a w hf hc => ?_
    obtain ⟨r_1, hr_1, hF⟩ := bnd_some hF
    refine stE hf hc rfl rfl rfl (eC (v := .agg #[.int .i64 r_1.Lo, .int .i64 r_1.Hi]) (vs := [.agg #[.int .i64 x_2, .int .i64 x_3], .agg #[.int .i64 e_1.Lo, .int .i64 e_1.Hi]]) (caps := []) en_58 rfl rfl rfl rfl (fun w hc => gauge_plus_ok (⟨x_2, x_3⟩ : api_Span) e_1 hc hr_1)) fun a w hf hc => ?_
    refine stSt (vs := [.int .i64 r_1.Lo, .int .i64 r_1.Hi]) hf hc rfl rfl rfl rfl sz_24 rfl rfl u1 fun w hc => ?_
    refine cNil ?_
    refine h10 _ _ ?_
    refine cReg ?_
    refine stP hf rfl rfl rfl (pAdd rfl rfl) fun a hf => ?_
    refine stP hf rfl rfl rfl (pM rfl) fun a hf => ?_
    refine cNil ?_
    replace hc := hc.drop k0
    exact hK6 (x, W (x_1 + 1), r_1.Lo, r_1.Hi) _ _ (Option.some.inj hF).symm ⟨(some ⟨g_0, 0, none⟩), c_2, hf.keep ⟨rfl, rfl, rfl, rfl, rfl, rfl, trivial⟩, hc⟩
  · replace hF := condF hb hF
    clear hb
    refine wp_exit ?_
    refine xThen ?_
    refine xThen ?_
    have he := Option.some.inj hF
    rw [← he] at hfin6
    refine cHit ?_
    exact hr6 _ _ _ hfin6 ⟨p_2, c_2, hf.keep ⟨rfl, rfl, rfl, rfl, rfl, rfl, trivial⟩, hc⟩

def gauge_Real_r11 (N : Nat) (depths : List Int) (speeds : List Int) (x : Int) (x_1 : Int) (x_2 : Int) (xv : gauge_Vertical) (xv_1 : Int) : Option (Rs (Int × Int × Int)) :=
  Option.bind (getI depths x_2) fun e_1 =>
  Option.bind (cond (!(!(gauge_in e_1 xv.Depth.Lo xv.Depth.Hi))) (getI speeds x_2) (some 0)) fun e_2 =>
  cond ((!(gauge_in e_1 xv.Depth.Lo xv.Depth.Hi)) || (!(gauge_in e_2 xv.Speed.Lo xv.Speed.Hi)))
  (some (.ret (7, x_1, x_2)))
  (Option.bind (getI depths x_2) fun e_3 =>
  Option.bind (getI speeds x_2) fun e_4 =>
  some (.go (x, W (x_1 + (W ((W (xv_1 * e_3)) * e_4))), W (x_2 + 1))))
def gauge_Real (N : Nat) (g : gauge_Gauging) (depths : List Int) (speeds : List Int) : Option (Int × Int) :=
  Option.bind (gauge_Check N g) fun r =>
  cond (r != 0)
  (some (0, r))
  (cond ((((depths.length : Nat) : Int) != ((g.Verticals.length : Nat) : Int)) || (((speeds.length : Nat) : Int) != ((g.Verticals.length : Nat) : Int)))
  (some (0, 2))
  (Option.bind (gauge_Gauging_widths N g) fun r_1 =>
  Option.bind (gauge_Gauging_widths_1 N (⟨r_1.1, r_1.2, g.Verticals⟩ : gauge_Gauging) (rY (fun (zz : Int × Int × Int) (x : (gauge_Vertical × Int)) => gauge_Real_r11 N depths speeds zz.1 zz.2.1 zz.2.2 x.1 x.2)) (.go (0, 0, 0))) fun x11 =>
  rsK x11 (fun zz => some (zz.2.1, 0)) (fun zz => some (0, zz.1))))
theorem gauge_Real_ok {N : Nat} {G : Pers} {Lf : List Ent} {w : World} (g : gauge_Gauging) (depths : List Int) (speeds : List Int) {g_Verticals_p : Option Addr} {g_Verticals_c : Nat} {depths_p : Option Addr} {depths_c : Nat} {speeds_p : Option Addr} {speeds_c : Nat} (h_g_Verticals : Rd G 5 g_Verticals_p g_Verticals_c (g.Verticals.map enc_gauge_Vertical)) (h_depths : Rd G 1 depths_p depths_c (depths.map encI_i64)) (h_speeds : Rd G 1 speeds_p speeds_c (speeds.map encI_i64)) (hc : Ctx G (Lf) w) {res : Int × Int} (hF : gauge_Real N g depths speeds = some res) : Calls Try.prog 33 #[.agg #[.int .i64 g.Left, .int .i64 g.Right, .slice g_Verticals_p g.Verticals.length g_Verticals_c], .slice depths_p depths.length depths_c, .slice speeds_p speeds.length speeds_c] w (fun e w => e = .returned (.tuple #[.int .i64 res.1, .int .i64 res.2]) ∧ Ctx G (Lf) w) := by
  unfold gauge_Real at hF
  refine fnInM (args := [.agg #[.int .i64 g.Left, .int .i64 g.Right, .slice g_Verticals_p g.Verticals.length g_Verticals_c], .slice depths_p depths.length depths_c, .slice speeds_p speeds.length speeds_c]) Try.func33 rfl Try.ntmps33 rfl fun a hf => ?_
  refine wp_seq_k fun K1 h1 => ?_
  refine cReg ?_
  refine stBx (cs := [.int .i64 g.Left, .int .i64 g.Right, .slice g_Verticals_p g.Verticals.length g_Verticals_c]) hf hc rfl rfl rfl rfl fun b_1 a w hf hc => ?_
  refine stBx (cs := [.slice depths_p depths.length depths_c]) hf hc rfl rfl rfl rfl fun b_2 a w hf hc => ?_
  refine stBx (cs := [.slice speeds_p speeds.length speeds_c]) hf hc rfl rfl rfl rfl fun b_3 a w hf hc => ?_
  refine stAl (cs := [.int .i64 0]) hf hc rfl rfl zr_3 rfl fun b_4 a w hf hc => ?_
  refine stAl (cs := [.int .i64 0]) hf hc rfl rfl zr_31 rfl fun b_5 a w hf hc => ?_
  refine cNil ?_
  refine h1 _ _ ?_
  refine wp_seq_k fun K2 h2 => ?_
  refine cReg ?_
  refine stE hf hc rfl rfl rfl (eLdN (vs := [.int .i64 g.Left, .int .i64 g.Right, .slice g_Verticals_p g.Verticals.length g_Verticals_c]) ag_48 rfl rfl (cells_box (n := 3) m4 rfl)) fun a w hf hc => ?_
  obtain ⟨r, hr, hF⟩ := bnd_some hF
  refine stE hf hc rfl rfl rfl (eC (v := .int .i64 r) (vs := [.agg #[.int .i64 g.Left, .int .i64 g.Right, .slice g_Verticals_p g.Verticals.length g_Verticals_c]]) (caps := []) en_69 rfl rfl rfl rfl (fun w hc => gauge_Check_ok g h_g_Verticals hc hr)) fun a w hf hc => ?_
  refine stP hf rfl rfl rfl (pA rfl) fun a hf => ?_
  refine cNil ?_
  refine h2 _ _ ?_
  refine wp_seq_k fun K3 h3 => ?_
  refine wp_block ?_
  refine wp_seq_k fun K4 h4 => ?_
  refine cReg ?_
  refine stP hf rfl rfl rfl (pM rfl) fun a hf => ?_
  refine stP hf rfl rfl rfl (pNe rfl rfl) fun a hf => ?_
  refine stP hf rfl rfl rfl (pA rfl) fun a hf => ?_
  refine cNil ?_
  refine h4 _ _ ?_
  refine cCond (b := (r != 0)) hf rfl (fun hb => ?_) (fun hb => ?_)
  · replace hF := condT hb hF
    clear hb
    refine wp_seq_k fun K5 h5 => ?_
    refine cReg ?_
    refine stP hf rfl rfl rfl (pM rfl) fun a hf => ?_
    refine stSt (vs := [.int .i64 0]) hf hc rfl rfl rfl rfl sz_3 rfl rfl u1 fun w hc => ?_
    refine stSt (vs := [.int .i64 r]) hf hc rfl rfl rfl rfl sz_31 rfl rfl u0 fun w hc => ?_
    refine cNil ?_
    refine h5 _ _ ?_
    refine wp_ret ?_
    refine xBlkR ?_
    refine xThenR ?_
    obtain rfl := Option.some.inj hF
    replace hc := hc.drop k4
    replace hc := hc.drop k3
    replace hc := hc.drop k2
    replace hc := hc.pick k0
    replace hc := hc.pick k1
    refine outM hf ?_
    exact outM2 Try.results33 hf hc (rv_cell1 sc_3 rfl (cell_box m0 rfl)) (rv_cell1 sc_31 rfl (cell_box m1 rfl)) ⟨rfl, ((hc.drop k1).drop k0)⟩
  · replace hF := condF hb hF
    clear hb
    refine wp_seq_k fun K6 h6 => ?_
    refine cReg ?_
    refine stE hf hc rfl rfl rfl (eLd1 sc_43 rfl (cell_box m3 rfl)) fun a w hf hc => ?_
    refine stP hf rfl rfl rfl (pLenS Try.underlying43 rfl) fun a hf => ?_
    refine stP hf rfl rfl rfl (pFA fa_48_2 rfl) fun a hf => ?_
    refine stE hf hc rfl rfl rfl (eLd1 sc_46 rfl (cell_box m4 rfl)) fun a w hf hc => ?_
    refine stP hf rfl rfl rfl (pLenS Try.underlying46 rfl) fun a hf => ?_
    refine stP hf rfl rfl rfl (pNe rfl rfl) fun a hf => ?_
    refine stP hf rfl rfl rfl (pM rfl) fun a hf => ?_
    refine stCut 7 (fun a w => Has 80 a [(3, .pointer (some ⟨b_1, 0, none⟩)), (4, .pointer (some ⟨b_2, 0, none⟩)), (5, .pointer (some ⟨b_3, 0, none⟩)), (6, .pointer (some ⟨b_4, 0, none⟩)), (7, .pointer (some ⟨b_5, 0, none⟩)), (20, .slice depths_p depths.length depths_c), (21, .int .i64 ((depths.length : Nat) : Int)), (22, .pointer (some ⟨b_1, 2, none⟩)), (23, .slice g_Verticals_p g.Verticals.length g_Verticals_c), (24, .int .i64 ((g.Verticals.length : Nat) : Int)), (25, .bool (((depths.length : Nat) : Int) != ((g.Verticals.length : Nat) : Int))), (26, .bool (((depths.length : Nat) : Int) != ((g.Verticals.length : Nat) : Int))), (33, .bool ((((depths.length : Nat) : Int) != ((g.Verticals.length : Nat) : Int)) || (((speeds.length : Nat) : Int) != ((g.Verticals.length : Nat) : Int))))] ∧ Ctx G (.box b_5 [.int .i64 0] 31 :: .box b_4 [.int .i64 0] 3 :: .box b_3 [.slice speeds_p speeds.length speeds_c] 43 :: .box b_2 [.slice depths_p depths.length depths_c] 43 :: .box b_1 [.int .i64 g.Left, .int .i64 g.Right, .slice g_Verticals_p g.Verticals.length g_Verticals_c] 48 :: Lf) w) ?_ ?_
    · cases hb : (((depths.length : Nat) : Int) != ((g.Verticals.length : Nat) : Int))
      · rw [hb] at hf
        refine stE hf hc rfl rfl rfl (eLd1 sc_43 rfl (cell_box m2 rfl)) fun a w hf hc => ?_
        refine stP hf rfl rfl rfl (pLenS Try.underlying43 rfl) fun a hf => ?_
        refine stP hf rfl rfl rfl (pFA fa_48_2 rfl) fun a hf => ?_
        refine stE hf hc rfl rfl rfl (eLd1 sc_46 rfl (cell_box m4 rfl)) fun a w hf hc => ?_
        refine stP hf rfl rfl rfl (pLenS Try.underlying46 rfl) fun a hf => ?_
        refine stP hf rfl rfl rfl (pNe rfl rfl) fun a hf => ?_
        refine stP hf rfl rfl rfl (pPf rfl rfl) fun a hf => ?_
        exact cNil ⟨hf.keep ⟨rfl, rfl, rfl, rfl, rfl, rfl, rfl, rfl, rfl, rfl, rfl, rfl, rfl, trivial⟩, hc⟩
      · rw [hb] at hf
        refine stS hf rfl rfl rfl fun a hf => ?_
        refine stS hf rfl rfl rfl fun a hf => ?_
        refine stS hf rfl rfl rfl fun a hf => ?_
        refine stS hf rfl rfl rfl fun a hf => ?_
        refine stS hf rfl rfl rfl fun a hf => ?_
        refine stS hf rfl rfl rfl fun a hf => ?_
        refine stP hf rfl rfl rfl (pPt rfl rfl) fun a hf => ?_
        exact cNil ⟨hf.keep ⟨rfl, rfl, rfl, rfl, rfl, rfl, rfl, rfl, rfl, rfl, rfl, rfl, rfl, trivial⟩, hc⟩
    intro a w ⟨hf, hc⟩
    refine stP hf rfl rfl rfl (pA rfl) fun a hf => ?_
    refine cNil ?_
    refine h6 _ _ ?_
    refine cCond (b := ((((depths.length : Nat) : Int) != ((g.Verticals.length : Nat) : Int)) || (((speeds.length : Nat) : Int) != ((g.Verticals.length : Nat) : Int)))) hf rfl (fun hb => ?_) (fun hb => ?_)
    · replace hF := condT hb hF
      clear hb
      refine wp_seq_k fun K7 h7 => ?_
      refine cReg ?_
      refine stSt (vs := [.int .i64 0]) hf hc rfl rfl rfl rfl sz_3 rfl rfl u1 fun w hc => ?_
      refine stSt (vs := [.int .i64 2]) hf hc rfl rfl rfl rfl sz_31 rfl rfl u0 fun w hc => ?_
      refine cNil ?_
      refine h7 _ _ ?_
      refine wp_ret ?_
      refine xBlkR ?_
      refine xThenR ?_
      obtain rfl := Option.some.inj hF
      replace hc := hc.drop k4
      replace hc := hc.drop k3
      replace hc := hc.drop k2
      replace hc := hc.pick k0
      replace hc := hc.pick k1
      refine outM hf ?_
      exact outM2 Try.results33 hf hc (rv_cell1 sc_3 rfl (cell_box m0 rfl)) (rv_cell1 sc_31 rfl (cell_box m1 rfl)) ⟨rfl, ((hc.drop k1).drop k0)⟩
    · replace hF := condF hb hF
      clear hb
      refine wp_skip ?_
      refine h3 _ _ ?_
      refine wp_seq_k fun K8 h8 => ?_
      refine cReg ?_
      refine stAl (cs := [.int .i64 0]) hf hc rfl rfl zr_3 rfl fun b_6 a w hf hc => ?_
      refine stAl (cs := [.int .i64 0]) hf hc rfl rfl zr_3 rfl fun b_7 a w hf hc => ?_
      refine stSt (vs := [.int .i64 0]) hf hc rfl rfl rfl rfl sz_3 rfl rfl u1 fun w hc => ?_
      refine stSt (vs := [.int .i64 0]) hf hc rfl rfl rfl rfl sz_3 rfl rfl u0 fun w hc => ?_
      refine cNil ?_
      refine h8 _ _ ?_
      refine wp_seq_k fun K9 h9 => ?_
      refine wp_seq_k fun K10 h10 => ?_
      refine cReg ?_
      refine stE hf hc rfl rfl rfl (eLdN (vs := [.int .i64 g.Left, .int .i64 g.Right, .slice g_Verticals_p g.Verticals.length g_Verticals_c]) ag_48 rfl rfl (cells_box (n := 3) m6 rfl)) fun a w hf hc => ?_
      obtain ⟨r_1, hr_1, hF⟩ := bnd_some hF
      refine stC (vs := [.agg #[.int .i64 g.Left, .int .i64 g.Right, .slice g_Verticals_p g.Verticals.length g_Verticals_c]]) (caps := []) hf rfl rfl rfl en_70 rfl rfl rfl rfl (gauge_Gauging_widths_ok g h_g_Verticals hc hr_1) ?_
      rintro _ w ⟨b_8, rfl, hc⟩
      refine ⟨_, rfl, fun a hf => ?_⟩
      refine cNil ?_
      refine h10 _ _ ?_
      obtain ⟨x11, hx11, hF⟩ := bnd_some hF
      replace hc := hc.drop k7
      refine cRange (C := [.box b_8 [.int .i64 r_1.1, .int .i64 r_1.2, .slice g_Verticals_p g.Verticals.length g_Verticals_c] 48]) (C2 := [.box b_8 [.int .i64 r_1.1, .int .i64 r_1.2, .slice g_Verticals_p g.Verticals.length g_Verticals_c] 48]) (L0 := [.box b_7 [.int .i64 0] 3, .box b_6 [.int .i64 0] 3, .box b_5 [.int .i64 0] 31, .box b_4 [.int .i64 0] 3, .box b_3 [.slice speeds_p speeds.length speeds_c] 43, .box b_2 [.slice depths_p depths.length depths_c] 43]) (Lf := Lf) (encs := fun x : (gauge_Vertical × Int) => [.agg #[.int .i64 x.1.At, .int .i64 x.1.Depth.Lo, .int .i64 x.1.Depth.Hi, .int .i64 x.1.Speed.Lo, .int .i64 x.1.Speed.Hi], .int .i64 x.2]) (fun (zz : Int × Int × Int) L => L = [.box b_7 [.int .i64 zz.2.2] 3, .box b_6 [.int .i64 zz.2.1] 3, .box b_5 [.int .i64 zz.1] 31, .box b_4 [.int .i64 0] 3, .box b_3 [.slice speeds_p speeds.length speeds_c] 43, .box b_2 [.slice depths_p depths.length depths_c] 43]) (fun (zz : Int × Int × Int) (x : (gauge_Vertical × Int)) => gauge_Real_r11 N depths speeds zz.1 zz.2.1 zz.2.2 x.1 x.2) (0, 0, 0) x11 hf hc rfl en_103 (fun _ => rfl) rfl rfl ?_ ?_ ?_ ?_
      · intro l m J L Lx w hy hJ hc
        exact gauge_Gauging_widths_1_ok (⟨r_1.1, r_1.2, g.Verticals⟩ : gauge_Gauging) h_g_Verticals J _ hy _ hJ hc hx11
      · clear hF hf hc
        rintro l m ⟨x, x_1, x_2⟩ ⟨xv, xv_1⟩ o _ Lr Lb a w hK0 rfl hF hf hc hK
        replace hf : Has 80 a [(4, .pointer (some ⟨b_2, 0, none⟩)), (5, .pointer (some ⟨b_3, 0, none⟩)), (6, .pointer (some ⟨b_4, 0, none⟩)), (7, .pointer (some ⟨b_5, 0, none⟩)), (9, .pointer (some ⟨b_6, 0, none⟩)), (10, .pointer (some ⟨b_7, 0, none⟩)), (36, .agg #[.int .i64 xv.At, .int .i64 xv.Depth.Lo, .int .i64 xv.Depth.Hi, .int .i64 xv.Speed.Lo, .int .i64 xv.Speed.Hi]), (37, .int .i64 xv_1)] := hf.keep ⟨rfl, rfl, rfl, rfl, rfl, rfl, rfl, rfl, trivial⟩
        replace hc : Ctx G (.box b_7 [.int .i64 x_2] 3 :: .box b_6 [.int .i64 x_1] 3 :: .box b_5 [.int .i64 x] 31 :: .box b_4 [.int .i64 0] 3 :: .box b_3 [.slice speeds_p speeds.length speeds_c] 43 :: .box b_2 [.slice depths_p depths.length depths_c] 43 :: Lr) w := hc
        replace hF : gauge_Real_r11 N depths speeds x x_1 x_2 xv xv_1 = some o := hF
        unfold gauge_Real_r11 at hF
        refine rSeq fun K12 h12 => ?_
        refine rReg (fun _ _ h => h) rfl ?_
        refine stAl (cs := [.int .i64 0, .int .i64 0, .int .i64 0, .int .i64 0, .int .i64 0]) hf hc rfl rfl zr_61 rfl fun b_9 a w hf hc => ?_
        refine stSt (vs := [.int .i64 xv.At, .int .i64 xv.Depth.Lo, .int .i64 xv.Depth.Hi, .int .i64 xv.Speed.Lo, .int .i64 xv.Speed.Hi]) hf hc rfl rfl rfl rfl sz_61 rfl rfl u0 fun w hc => ?_
        refine cNil ?_
        refine h12 _ _ ?_
        refine rReg (fun _ _ h => h) rfl ?_
        refine stP hf rfl rfl rfl (pA rfl) fun a hf => ?_
        refine cNil ?_
        refine hK _ _ [.box b_9 [.int .i64 xv.At, .int .i64 xv.Depth.Lo, .int .i64 xv.Depth.Hi, .int .i64 xv.Speed.Lo, .int .i64 xv.Speed.Hi] 61, .box b_7 [.int .i64 x_2] 3, .box b_6 [.int .i64 x_1] 3, .box b_5 [.int .i64 x] 31, .box b_4 [.int .i64 0] 3, .box b_3 [.slice speeds_p speeds.length speeds_c] 43, .box b_2 [.slice depths_p depths.length depths_c] 43] hc fun w hc => ?_
        replace hc : Ctx G (.box b_9 [.int .i64 xv.At, .int .i64 xv.Depth.Lo, .int .i64 xv.Depth.Hi, .int .i64 xv.Speed.Lo, .int .i64 xv.Speed.Hi] 61 :: .box b_7 [.int .i64 x_2] 3 :: .box b_6 [.int .i64 x_1] 3 :: .box b_5 [.int .i64 x] 31 :: .box b_4 [.int .i64 0] 3 :: .box b_3 [.slice speeds_p speeds.length speeds_c] 43 :: .box b_2 [.slice depths_p depths.length depths_c] 43 :: Lb) w := hc
        refine rThenK fun K13 h13 => ?_
        refine rBlock ?_
        refine rSeq fun K14 h14 => ?_
        refine rSeq fun K15 h15 => ?_
        obtain ⟨e_1, he_1, hF⟩ := bnd_some hF
        obtain ⟨b_10, o, ha, hp_1⟩ := h_depths.atm he_1
        obtain ⟨e_2, he_2, hF⟩ := bnd_some hF
        obtain ⟨b_11, o_1, ha_1⟩ := guardEx fun hb : (!(gauge_in e_1 xv.Depth.Lo xv.Depth.Hi)) = false => h_speeds.atm (condT (notT hb) he_2)
        refine rRegE (fun _ _ h => h) rfl (fun θ => (⟨none, none, 4, .pointer (some ⟨b_2, 0, none⟩)⟩ :: ⟨none, none, 5, .pointer (some ⟨b_3, 0, none⟩)⟩ :: ⟨none, none, 6, .pointer (some ⟨b_4, 0, none⟩)⟩ :: ⟨none, none, 7, .pointer (some ⟨b_5, 0, none⟩)⟩ :: ⟨none, none, 9, .pointer (some ⟨b_6, 0, none⟩)⟩ :: ⟨none, none, 10, .pointer (some ⟨b_7, 0, none⟩)⟩ :: ⟨none, none, 11, .pointer (some ⟨b_9, 0, none⟩)⟩ :: ⟨none, none, 12, .int .i64 xv_1⟩ :: ⟨some 0, none, 38, .slice depths_p depths.length depths_c⟩ :: ⟨some 1, none, 39, .int .i64 x_2⟩ :: ⟨some 2, none, 40, .pointer (some ⟨b_10, o, none⟩)⟩ :: ⟨some 3, none, 41, .int .i64 e_1⟩ :: ⟨some 4, none, 42, .pointer (some ⟨b_9, 1, none⟩)⟩ :: ⟨some 5, none, 43, .pointer (some ⟨b_9, 1, none⟩)⟩ :: ⟨some 6, none, 44, .int .i64 xv.Depth.Lo⟩ :: ⟨some 7, none, 45, .pointer (some ⟨b_9, 1, none⟩)⟩ :: ⟨some 8, none, 46, .pointer (some ⟨b_9, 2, none⟩)⟩ :: ⟨some 9, none, 47, .int .i64 xv.Depth.Hi⟩ :: ⟨some 10, none, 48, .bool (gauge_in e_1 xv.Depth.Lo xv.Depth.Hi)⟩ :: ⟨some 11, none, 49, .bool (!(gauge_in e_1 xv.Depth.Lo xv.Depth.Hi))⟩ :: ⟨some 12, none, 50, .bool (!(gauge_in e_1 xv.Depth.Lo xv.Depth.Hi))⟩ :: ⟨some 13, none, 51, (bif (!(gauge_in e_1 xv.Depth.Lo xv.Depth.Hi)) then undef else .slice speeds_p speeds.length speeds_c)⟩ :: ⟨some 14, none, 52, (bif (!(gauge_in e_1 xv.Depth.Lo xv.Depth.Hi)) then undef else .int .i64 x_2)⟩ :: ⟨some 15, none, 53, (bif (!(gauge_in e_1 xv.Depth.Lo xv.Depth.Hi)) then undef else .pointer (some ⟨b_11, o_1, none⟩))⟩ :: ⟨some 16, none, 54, (bif (!(gauge_in e_1 xv.Depth.Lo xv.Depth.Hi)) then undef else .int .i64 e_2)⟩ :: ⟨some 17, none, 55, (bif (!(gauge_in e_1 xv.Depth.Lo xv.Depth.Hi)) then undef else .pointer (some ⟨b_9, 3, none⟩))⟩ :: ⟨some 18, none, 56, (bif (!(gauge_in e_1 xv.Depth.Lo xv.Depth.Hi)) then undef else .pointer (some ⟨b_9, 3, none⟩))⟩ :: ⟨some 19, none, 57, (bif (!(gauge_in e_1 xv.Depth.Lo xv.Depth.Hi)) then undef else .int .i64 xv.Speed.Lo)⟩ :: ⟨some 20, none, 58, (bif (!(gauge_in e_1 xv.Depth.Lo xv.Depth.Hi)) then undef else .pointer (some ⟨b_9, 3, none⟩))⟩ :: ⟨some 21, none, 59, (bif (!(gauge_in e_1 xv.Depth.Lo xv.Depth.Hi)) then undef else .pointer (some ⟨b_9, 4, none⟩))⟩ :: ⟨some 22, none, 60, (bif (!(gauge_in e_1 xv.Depth.Lo xv.Depth.Hi)) then undef else .int .i64 xv.Speed.Hi)⟩ :: ⟨some 23, none, 61, (bif (!(gauge_in e_1 xv.Depth.Lo xv.Depth.Hi)) then undef else .bool (gauge_in e_2 xv.Speed.Lo xv.Speed.Hi))⟩ :: ⟨some 24, none, 62, (bif (!(gauge_in e_1 xv.Depth.Lo xv.Depth.Hi)) then undef else .bool (!(gauge_in e_2 xv.Speed.Lo xv.Speed.Hi)))⟩ :: ⟨some 25, none, 63, .bool ((!(gauge_in e_1 xv.Depth.Lo xv.Depth.Hi)) || (!(gauge_in e_2 xv.Speed.Lo xv.Speed.Hi)))⟩ :: [])) (fun E θ => .box b_9 [.int .i64 xv.At, .int .i64 xv.Depth.Lo, .int .i64 xv.Depth.Hi, .int .i64 xv.Speed.Lo, .int .i64 xv.Speed.Hi] 61 :: .box b_7 [.int .i64 x_2] 3 :: .box b_6 [.int .i64 x_1] 3 :: .box b_5 [.int .i64 x] 31 :: .box b_4 [.int .i64 0] 3 :: .box b_3 [.slice speeds_p speeds.length speeds_c] 43 :: .box b_2 [.slice depths_p depths.length depths_c] 43 :: Lb) [] (fun a w => Has 80 a [(4, .pointer (some ⟨b_2, 0, none⟩)), (5, .pointer (some ⟨b_3, 0, none⟩)), (6, .pointer (some ⟨b_4, 0, none⟩)), (7, .pointer (some ⟨b_5, 0, none⟩)), (9, .pointer (some ⟨b_6, 0, none⟩)), (10, .pointer (some ⟨b_7, 0, none⟩)), (12, .int .i64 xv_1), (63, .bool ((!(gauge_in e_1 xv.Depth.Lo xv.Depth.Hi)) || (!(gauge_in e_2 xv.Speed.Lo xv.Speed.Hi))))] ∧ Ctx G (.box b_9 [.int .i64 xv.At, .int .i64 xv.Depth.Lo, .int .i64 xv.Depth.Hi, .int .i64 xv.Speed.Lo, .int .i64 xv.Speed.Hi] 61 :: .box b_7 [.int .i64 x_2] 3 :: .box b_6 [.int .i64 x_1] 3 :: .box b_5 [.int .i64 x] 31 :: .box b_4 [.int .i64 0] 3 :: .box b_3 [.slice speeds_p speeds.length speeds_c] 43 :: .box b_2 [.slice depths_p depths.length depths_c] 43 :: Lb) w) follows_mx (by kernel_rfl) (by kernel_rfl) (HasE.of hf ⟨rfl, rfl, rfl, rfl, rfl, rfl, rfl, rfl, trivial, trivial, trivial, trivial, trivial, trivial, trivial, trivial, trivial, trivial, trivial, trivial, trivial, trivial, trivial, trivial, trivial, trivial, trivial, trivial, trivial, trivial, trivial, trivial, trivial, trivial, trivial⟩) hc ⟨?_, ?_, ?_, ?_, ?_, ?_, ?_, ?_, ?_, ?_, ?_, ?_, ?_, ?_, ?_, ?_, ?_, ?_, ?_, ?_, ?_, ?_, ?_, ?_, ?_, ?_, trivial⟩ ?_ ?_
        · intro E θ a w hD hi hp he hc
          have hf := he.h0
          replace hf := hf.more he 0 rfl onT
          refine stE hf hc rfl rfl rfl (eLd1 sc_43 rfl (cell_box m6 rfl)) fun a w hf hc => ?_
          refine cNil ?_
          refine xThenN ?_
          intro ds u hau
          refine ⟨θ, he.put0 hi hau hf rfl 8 rfl rfl, ?_⟩
          exact hc
        · intro E θ a w hD hi hp he hc
          have hf := he.h0
          replace hf := hf.more he 5 rfl onT
          refine stE hf hc rfl rfl rfl (eLd1 sc_3 rfl (cell_box m1 rfl)) fun a w hf hc => ?_
          refine cNil ?_
          refine xThenN ?_
          intro ds u hau
          refine ⟨θ, he.put0 hi hau hf rfl 9 rfl rfl, ?_⟩
          exact hc
        · intro E θ a w hD hi hp he hc
          have e0 := hp.of (k := 0) rfl
          have e1 := hp.of (k := 1) rfl
          have hf := he.h0
          replace hf := hf.more he 8 rfl (onP e0)
          replace hf := hf.more he 9 rfl (onP e1)
          refine stP hf rfl rfl rfl (pIA Try.underlying43 sz_3 rfl rfl ha) fun a hf => ?_
          refine cNil ?_
          refine xThenN ?_
          intro ds u hau
          refine ⟨θ, he.put0 hi hau hf rfl 10 rfl rfl, ?_⟩
          exact hc
        · intro E θ a w hD hi hp he hc
          have e2 := hp.of (k := 2) rfl
          have hf := he.h0
          replace hf := hf.more he 10 rfl (onP e2)
          refine stE hf hc rfl rfl rfl (eLd1 sc_3 rfl (cell_pc (j := 0) hp_1 rfl)) fun a w hf hc => ?_
          refine cNil ?_
          refine xThenN ?_
          intro ds u hau
          refine ⟨θ, he.put0 hi hau hf rfl 11 rfl rfl, ?_⟩
          exact hc
        · intro E θ a w hD hi hp he hc
          have hf := he.h0
          replace hf := hf.more he 6 rfl onT
          refine stP hf rfl rfl rfl (pFA fa_61_1 rfl) fun a hf => ?_
          refine cNil ?_
          refine xThenN ?_
          intro ds u hau
          refine ⟨θ, he.put0 hi hau hf rfl 12 rfl rfl, ?_⟩
          exact hc
        · intro E θ a w hD hi hp he hc
          have e4 := hp.of (k := 4) rfl
          have hf := he.h0
          replace hf := hf.more he 12 rfl (onP e4)
          refine stP hf rfl rfl rfl (pFA fa_24_0 rfl) fun a hf => ?_
          refine cNil ?_
          refine xThenN ?_
          intro ds u hau
          refine ⟨θ, he.put0 hi hau hf rfl 13 rfl rfl, ?_⟩
          exact hc
        · intro E θ a w hD hi hp he hc
          have e5 := hp.of (k := 5) rfl
          have hf := he.h0
          replace hf := hf.more he 13 rfl (onP e5)
          refine stE hf hc rfl rfl rfl (eLd1 sc_3 rfl (cell_box m0 rfl)) fun a w hf hc => ?_
          refine cNil ?_
          refine xThenN ?_
          intro ds u hau
          refine ⟨θ, he.put0 hi hau hf rfl 14 rfl rfl, ?_⟩
          exact hc
        · intro E θ a w hD hi hp he hc
          have hf := he.h0
          replace hf := hf.more he 6 rfl onT
          refine stP hf rfl rfl rfl (pFA fa_61_1 rfl) fun a hf => ?_
          refine cNil ?_
          refine xThenN ?_
          intro ds u hau
          refine ⟨θ, he.put0 hi hau hf rfl 15 rfl rfl, ?_⟩
          exact hc
        · intro E θ a w hD hi hp he hc
          have e7 := hp.of (k := 7) rfl
          have hf := he.h0
          replace hf := hf.more he 15 rfl (onP e7)
          refine stP hf rfl rfl rfl (pFA fa_24_1 rfl) fun a hf => ?_
          refine cNil ?_
          refine xThenN ?_
          intro ds u hau
          refine ⟨θ, he.put0 hi hau hf rfl 16 rfl rfl, ?_⟩
          exact hc
        · intro E θ a w hD hi hp he hc
          have e8 := hp.of (k := 8) rfl
          have hf := he.h0
          replace hf := hf.more he 16 rfl (onP e8)
          refine stE hf hc rfl rfl rfl (eLd1 sc_3 rfl (cell_box m0 rfl)) fun a w hf hc => ?_
          refine cNil ?_
          refine xThenN ?_
          intro ds u hau
          refine ⟨θ, he.put0 hi hau hf rfl 17 rfl rfl, ?_⟩
          exact hc
        · intro E θ a w hD hi hp he hc
          have e3 := hp.of (k := 3) rfl
          have e6 := hp.of (k := 6) rfl
          have e9 := hp.of (k := 9) rfl
          have hf := he.h0
          replace hf := hf.more he 11 rfl (onP e3)
          replace hf := hf.more he 14 rfl (onP e6)
          replace hf := hf.more he 17 rfl (onP e9)
          refine stE hf hc rfl rfl rfl (eC (v := .bool (gauge_in e_1 xv.Depth.Lo xv.Depth.Hi)) (vs := [.int .i64 e_1, .int .i64 xv.Depth.Lo, .int .i64 xv.Depth.Hi]) (caps := []) en_55 rfl rfl rfl rfl (fun w hc => gauge_in_ok e_1 xv.Depth.Lo xv.Depth.Hi hc rfl)) fun a w hf hc => ?_
          refine cNil ?_
          refine xThenN ?_
          intro ds u hau
          refine ⟨θ, he.put0 hi hau hf rfl 18 rfl rfl, ?_⟩
          exact hc
        · intro E θ a w hD hi hp he hc
          have e10 := hp.of (k := 10) rfl
          have hf := he.h0
          replace hf := hf.more he 18 rfl (onP e10)
          refine stP hf rfl rfl rfl (pNot rfl) fun a hf => ?_
          refine cNil ?_
          refine xThenN ?_
          intro ds u hau
          refine ⟨θ, he.put0 hi hau hf rfl 19 rfl rfl, ?_⟩
          exact hc
        · intro E θ a w hD hi hp he hc
          have e11 := hp.of (k := 11) rfl
          have hf := he.h0
          replace hf := hf.more he 19 rfl (onP e11)
          refine stP hf rfl rfl rfl (pM rfl) fun a hf => ?_
          refine cNil ?_
          refine xThenN ?_
          intro ds u hau
          refine ⟨θ, he.put0 hi hau hf rfl 20 rfl rfl, ?_⟩
          exact hc
        · intro E θ a w hD hi hp he hc
          have e12 := hp.of (k := 12) rfl
          rcases boolEq (!(gauge_in e_1 xv.Depth.Lo xv.Depth.Hi)) with hb | hb
          · have hf := he.h0
            replace hf := hf.more he 1 rfl onT
            replace hf := hf.more he 20 rfl (onP e12)
            replace hf := castB hb hf
            refine stS hf rfl rfl rfl fun a hf => ?_
            replace hf := castI (u := .slice speeds_p speeds.length speeds_c) hb hf
            refine cNil ?_
            refine xThenN ?_
            intro ds u hau
            refine ⟨θ, he.put0 hi hau hf rfl 21 rfl rfl, ?_⟩
            exact hc
          · have hf := he.h0
            replace hf := hf.more he 1 rfl onT
            replace hf := hf.more he 20 rfl (onP e12)
            replace hf := castB hb hf
            refine stE hf hc rfl rfl rfl (eLd1 sc_43 rfl (cell_box m5 rfl)) fun a w hf hc => ?_
            replace hf := castJ (u := undef) hb hf
            refine cNil ?_
            refine xThenN ?_
            intro ds u hau
            refine ⟨θ, he.put0 hi hau hf rfl 21 rfl rfl, ?_⟩
            exact hc
        · intro E θ a w hD hi hp he hc
          have e12 := hp.of (k := 12) rfl
          rcases boolEq (!(gauge_in e_1 xv.Depth.Lo xv.Depth.Hi)) with hb | hb
          · have hf := he.h0
            replace hf := hf.more he 5 rfl onT
            replace hf := hf.more he 20 rfl (onP e12)
            replace hf := castB hb hf
            refine stS hf rfl rfl rfl fun a hf => ?_
            replace hf := castI (u := .int .i64 x_2) hb hf
            refine cNil ?_
            refine xThenN ?_
            intro ds u hau
            refine ⟨θ, he.put0 hi hau hf rfl 22 rfl rfl, ?_⟩
            exact hc
          · have hf := he.h0
            replace hf := hf.more he 5 rfl onT
            replace hf := hf.more he 20 rfl (onP e12)
            replace hf := castB hb hf
            refine stE hf hc rfl rfl rfl (eLd1 sc_3 rfl (cell_box m1 rfl)) fun a w hf hc => ?_
            replace hf := castJ (u := undef) hb hf
            refine cNil ?_
            refine xThenN ?_
            intro ds u hau
            refine ⟨θ, he.put0 hi hau hf rfl 22 rfl rfl, ?_⟩
            exact hc
        · intro E θ a w hD hi hp he hc
          have e12 := hp.of (k := 12) rfl
          have e13 := hp.of (k := 13) rfl
          have e14 := hp.of (k := 14) rfl
          rcases boolEq (!(gauge_in e_1 xv.Depth.Lo xv.Depth.Hi)) with hb | hb
          · have hf := he.h0
            replace hf := hf.more he 20 rfl (onP e12)
            replace hf := castB hb hf
            replace hf := hf.more he 21 rfl (onP e13)
            replace hf := castCT hb hf
            replace hf := hf.more he 22 rfl (onP e14)
            replace hf := castCT hb hf
            refine stS hf rfl rfl rfl fun a hf => ?_
            replace hf := castI (u := .pointer (some ⟨b_11, o_1, none⟩)) hb hf
            refine cNil ?_
            refine xThenN ?_
            intro ds u hau
            refine ⟨θ, he.put0 hi hau hf rfl 23 rfl rfl, ?_⟩
            exact hc
          · have hf := he.h0
            replace hf := hf.more he 20 rfl (onP e12)
            replace hf := castB hb hf
            replace hf := hf.more he 21 rfl (onP e13)
            replace hf := castCF hb hf
            replace hf := hf.more he 22 rfl (onP e14)
            replace hf := castCF hb hf
            refine stP hf rfl rfl rfl (pIA Try.underlying43 sz_3 rfl rfl (ha_1 hb).1) fun a hf => ?_
            replace hf := castJ (u := undef) hb hf
            refine cNil ?_
            refine xThenN ?_
            intro ds u hau
            refine ⟨θ, he.put0 hi hau hf rfl 23 rfl rfl, ?_⟩
            exact hc
        · intro E θ a w hD hi hp he hc
          have e12 := hp.of (k := 12) rfl
          have e15 := hp.of (k := 15) rfl
          rcases boolEq (!(gauge_in e_1 xv.Depth.Lo xv.Depth.Hi)) with hb | hb
          · have hf := he.h0
            replace hf := hf.more he 20 rfl (onP e12)
            replace hf := castB hb hf
            replace hf := hf.more he 23 rfl (onP e15)
            replace hf := castCT hb hf
            refine stS hf rfl rfl rfl fun a hf => ?_
            replace hf := castI (u := .int .i64 e_2) hb hf
            refine cNil ?_
            refine xThenN ?_
            intro ds u hau
            refine ⟨θ, he.put0 hi hau hf rfl 24 rfl rfl, ?_⟩
            exact hc
          · have hf := he.h0
            replace hf := hf.more he 20 rfl (onP e12)
            replace hf := castB hb hf
            replace hf := hf.more he 23 rfl (onP e15)
            replace hf := castCF hb hf
            refine stE hf hc rfl rfl rfl (eLd1 sc_3 rfl (cell_pc (j := 0) (ha_1 hb).2 rfl)) fun a w hf hc => ?_
            replace hf := castJ (u := undef) hb hf
            refine cNil ?_
            refine xThenN ?_
            intro ds u hau
            refine ⟨θ, he.put0 hi hau hf rfl 24 rfl rfl, ?_⟩
            exact hc
        · intro E θ a w hD hi hp he hc
          have e12 := hp.of (k := 12) rfl
          rcases boolEq (!(gauge_in e_1 xv.Depth.Lo xv.Depth.Hi)) with hb | hb
          · have hf := he.h0
            replace hf := hf.more he 6 rfl onT
            replace hf := hf.more he 20 rfl (onP e12)
            replace hf := castB hb hf
            refine stS hf rfl rfl rfl fun a hf => ?_
            replace hf := castI (u := .pointer (some ⟨b_9, 3, none⟩)) hb hf
            refine cNil ?_
            refine xThenN ?_
            intro ds u hau
            refine ⟨θ, he.put0 hi hau hf rfl 25 rfl rfl, ?_⟩
            exact hc
          · have hf := he.h0
            replace hf := hf.more he 6 rfl onT
            replace hf := hf.more he 20 rfl (onP e12)
            replace hf := castB hb hf
            refine stP hf rfl rfl rfl (pFA fa_61_2 rfl) fun a hf => ?_
            replace hf := castJ (u := undef) hb hf
            refine cNil ?_
            refine xThenN ?_
            intro ds u hau
            refine ⟨θ, he.put0 hi hau hf rfl 25 rfl rfl, ?_⟩
            exact hc
        · intro E θ a w hD hi hp he hc
          have e12 := hp.of (k := 12) rfl
          have e17 := hp.of (k := 17) rfl
          rcases boolEq (!(gauge_in e_1 xv.Depth.Lo xv.Depth.Hi)) with hb | hb
          · have hf := he.h0
            replace hf := hf.more he 20 rfl (onP e12)
            replace hf := castB hb hf
            replace hf := hf.more he 25 rfl (onP e17)
            replace hf := castCT hb hf
            refine stS hf rfl rfl rfl fun a hf => ?_
            replace hf := castI (u := .pointer (some ⟨b_9, 3, none⟩)) hb hf
            refine cNil ?_
            refine xThenN ?_
            intro ds u hau
            refine ⟨θ, he.put0 hi hau hf rfl 26 rfl rfl, ?_⟩
            exact hc
          · have hf := he.h0
            replace hf := hf.more he 20 rfl (onP e12)
            replace hf := castB hb hf
            replace hf := hf.more he 25 rfl (onP e17)
            replace hf := castCF hb hf
            refine stP hf rfl rfl rfl (pFA fa_24_0 rfl) fun a hf => ?_
            replace hf := castJ (u := undef) hb hf
            refine cNil ?_
            refine xThenN ?_
            intro ds u hau
            refine ⟨θ, he.put0 hi hau hf rfl 26 rfl rfl, ?_⟩
            exact hc
        · intro E θ a w hD hi hp he hc
          have e12 := hp.of (k := 12) rfl
          have e18 := hp.of (k := 18) rfl
          rcases boolEq (!(gauge_in e_1 xv.Depth.Lo xv.Depth.Hi)) with hb | hb
          · have hf := he.h0
            replace hf := hf.more he 20 rfl (onP e12)
            replace hf := castB hb hf
            replace hf := hf.more he 26 rfl (onP e18)
            replace hf := castCT hb hf
            refine stS hf rfl rfl rfl fun a hf => ?_
            replace hf := castI (u := .int .i64 xv.Speed.Lo) hb hf
            refine cNil ?_
            refine xThenN ?_
            intro ds u hau
            refine ⟨θ, he.put0 hi hau hf rfl 27 rfl rfl, ?_⟩
            exact hc
          · have hf := he.h0
            replace hf := hf.more he 20 rfl (onP e12)
            replace hf := castB hb hf
            replace hf := hf.more he 26 rfl (onP e18)
            replace hf := castCF hb hf
            refine stE hf hc rfl rfl rfl (eLd1 sc_3 rfl (cell_box m0 rfl)) fun a w hf hc => ?_
            replace hf := castJ (u := undef) hb hf
            refine cNil ?_
            refine xThenN ?_
            intro ds u hau
            refine ⟨θ, he.put0 hi hau hf rfl 27 rfl rfl, ?_⟩
            exact hc
        · intro E θ a w hD hi hp he hc
          have e12 := hp.of (k := 12) rfl
          rcases boolEq (!(gauge_in e_1 xv.Depth.Lo xv.Depth.Hi)) with hb | hb
          · have hf := he.h0
            replace hf := hf.more he 6 rfl onT
            replace hf := hf.more he 20 rfl (onP e12)
            replace hf := castB hb hf
            refine stS hf rfl rfl rfl fun a hf => ?_
            replace hf := castI (u := .pointer (some ⟨b_9, 3, none⟩)) hb hf
            refine cNil ?_
            refine xThenN ?_
            intro ds u hau
            refine ⟨θ, he.put0 hi hau hf rfl 28 rfl rfl, ?_⟩
            exact hc
          · have hf := he.h0
            replace hf := hf.more he 6 rfl onT
            replace hf := hf.more he 20 rfl (onP e12)
            replace hf := castB hb hf
            refine stP hf rfl rfl rfl (pFA fa_61_2 rfl) fun a hf => ?_
            replace hf := castJ (u := undef) hb hf
            refine cNil ?_
            refine xThenN ?_
            intro ds u hau
            refine ⟨θ, he.put0 hi hau hf rfl 28 rfl rfl, ?_⟩
            exact hc
        · intro E θ a w hD hi hp he hc
          have e12 := hp.of (k := 12) rfl
          have e20 := hp.of (k := 20) rfl
          rcases boolEq (!(gauge_in e_1 xv.Depth.Lo xv.Depth.Hi)) with hb | hb
          · have hf := he.h0
            replace hf := hf.more he 20 rfl (onP e12)
            replace hf := castB hb hf
            replace hf := hf.more he 28 rfl (onP e20)
            replace hf := castCT hb hf
            refine stS hf rfl rfl rfl fun a hf => ?_
            replace hf := castI (u := .pointer (some ⟨b_9, 4, none⟩)) hb hf
            refine cNil ?_
            refine xThenN ?_
            intro ds u hau
            refine ⟨θ, he.put0 hi hau hf rfl 29 rfl rfl, ?_⟩
            exact hc
          · have hf := he.h0
            replace hf := hf.more he 20 rfl (onP e12)
            replace hf := castB hb hf
            replace hf := hf.more he 28 rfl (onP e20)
            replace hf := castCF hb hf
            refine stP hf rfl rfl rfl (pFA fa_24_1 rfl) fun a hf => ?_
            replace hf := castJ (u := undef) hb hf
            refine cNil ?_
            refine xThenN ?_
            intro ds u hau
            refine ⟨θ, he.put0 hi hau hf rfl 29 rfl rfl, ?_⟩
            exact hc
        · intro E θ a w hD hi hp he hc
          have e12 := hp.of (k := 12) rfl
          have e21 := hp.of (k := 21) rfl
          rcases boolEq (!(gauge_in e_1 xv.Depth.Lo xv.Depth.Hi)) with hb | hb
          · have hf := he.h0
            replace hf := hf.more he 20 rfl (onP e12)
            replace hf := castB hb hf
            replace hf := hf.more he 29 rfl (onP e21)
            replace hf := castCT hb hf
            refine stS hf rfl rfl rfl fun a hf => ?_
            replace hf := castI (u := .int .i64 xv.Speed.Hi) hb hf
            refine cNil ?_
            refine xThenN ?_
            intro ds u hau
            refine ⟨θ, he.put0 hi hau hf rfl 30 rfl rfl, ?_⟩
            exact hc
          · have hf := he.h0
            replace hf := hf.more he 20 rfl (onP e12)
            replace hf := castB hb hf
            replace hf := hf.more he 29 rfl (onP e21)
            replace hf := castCF hb hf
            refine stE hf hc rfl rfl rfl (eLd1 sc_3 rfl (cell_box m0 rfl)) fun a w hf hc => ?_
            replace hf := castJ (u := undef) hb hf
            refine cNil ?_
            refine xThenN ?_
            intro ds u hau
            refine ⟨θ, he.put0 hi hau hf rfl 30 rfl rfl, ?_⟩
            exact hc
        · intro E θ a w hD hi hp he hc
          have e12 := hp.of (k := 12) rfl
          have e16 := hp.of (k := 16) rfl
          have e19 := hp.of (k := 19) rfl
          have e22 := hp.of (k := 22) rfl
          rcases boolEq (!(gauge_in e_1 xv.Depth.Lo xv.Depth.Hi)) with hb | hb
          · have hf := he.h0
            replace hf := hf.more he 20 rfl (onP e12)
            replace hf := castB hb hf
            replace hf := hf.more he 24 rfl (onP e16)
            replace hf := castCT hb hf
            replace hf := hf.more he 27 rfl (onP e19)
            replace hf := castCT hb hf
            replace hf := hf.more he 30 rfl (onP e22)
            replace hf := castCT hb hf
            refine stS hf rfl rfl rfl fun a hf => ?_
            replace hf := castI (u := .bool (gauge_in e_2 xv.Speed.Lo xv.Speed.Hi)) hb hf
            refine cNil ?_
            refine xThenN ?_
            intro ds u hau
            refine ⟨θ, he.put0 hi hau hf rfl 31 rfl rfl, ?_⟩
            exact hc
          · have hf := he.h0
            replace hf := hf.more he 20 rfl (onP e12)
            replace hf := castB hb hf
            replace hf := hf.more he 24 rfl (onP e16)
            replace hf := castCF hb hf
            replace hf := hf.more he 27 rfl (onP e19)
            replace hf := castCF hb hf
            replace hf := hf.more he 30 rfl (onP e22)
            replace hf := castCF hb hf
            refine stE hf hc rfl rfl rfl (eC (v := .bool (gauge_in e_2 xv.Speed.Lo xv.Speed.Hi)) (vs := [.int .i64 e_2, .int .i64 xv.Speed.Lo, .int .i64 xv.Speed.Hi]) (caps := []) en_55 rfl rfl rfl rfl (fun w hc => gauge_in_ok e_2 xv.Speed.Lo xv.Speed.Hi hc rfl)) fun a w hf hc => ?_
            replace hf := castJ (u := undef) hb hf
            refine cNil ?_
            refine xThenN ?_
            intro ds u hau
            refine ⟨θ, he.put0 hi hau hf rfl 31 rfl rfl, ?_⟩
            exact hc
        · intro E θ a w hD hi hp he hc
          have e12 := hp.of (k := 12) rfl
          have e23 := hp.of (k := 23) rfl
          rcases boolEq (!(gauge_in e_1 xv.Depth.Lo xv.Depth.Hi)) with hb | hb
          · have hf := he.h0
            replace hf := hf.more he 20 rfl (onP e12)
            replace hf := castB hb hf
            replace hf := hf.more he 31 rfl (onP e23)
            replace hf := castCT hb hf
            refine stS hf rfl rfl rfl fun a hf => ?_
            replace hf := castI (u := .bool (!(gauge_in e_2 xv.Speed.Lo xv.Speed.Hi))) hb hf
            refine cNil ?_
            refine xThenN ?_
            intro ds u hau
            refine ⟨θ, he.put0 hi hau hf rfl 32 rfl rfl, ?_⟩
            exact hc
          · have hf := he.h0
            replace hf := hf.more he 20 rfl (onP e12)
            replace hf := castB hb hf
            replace hf := hf.more he 31 rfl (onP e23)
            replace hf := castCF hb hf
            refine stP hf rfl rfl rfl (pNot rfl) fun a hf => ?_
            replace hf := castJ (u := undef) hb hf
            refine cNil ?_
            refine xThenN ?_
            intro ds u hau
            refine ⟨θ, he.put0 hi hau hf rfl 32 rfl rfl, ?_⟩
            exact hc
        · intro E θ a w hD hi hp he hc
          have e12 := hp.of (k := 12) rfl
          have e24 := hp.of (k := 24) rfl
          rcases boolEq (!(gauge_in e_1 xv.Depth.Lo xv.Depth.Hi)) with hb | hb
          · have hf := he.h0
            replace hf := hf.more he 20 rfl (onP e12)
            replace hf := castB hb hf
            replace hf := hf.more he 32 rfl (onP e24)
            replace hf := castCT hb hf
            refine stP hf rfl rfl rfl (pPt rfl rfl) fun a hf => ?_
            replace hf := castV (v' := .bool ((!(gauge_in e_1 xv.Depth.Lo xv.Depth.Hi)) || (!(gauge_in e_2 xv.Speed.Lo xv.Speed.Hi)))) (congrArg Value.bool (orT hb)) hf
            refine cNil ?_
            refine xThenN ?_
            intro ds u hau
            refine ⟨θ, he.put0 hi hau hf rfl 33 rfl rfl, ?_⟩
            exact hc
          · have hf := he.h0
            replace hf := hf.more he 20 rfl (onP e12)
            replace hf := castB hb hf
            replace hf := hf.more he 32 rfl (onP e24)
            replace hf := castCF hb hf
            refine stP hf rfl rfl rfl (pPf rfl rfl) fun a hf => ?_
            replace hf := castV (v' := .bool ((!(gauge_in e_1 xv.Depth.Lo xv.Depth.Hi)) || (!(gauge_in e_2 xv.Speed.Lo xv.Speed.Hi)))) (congrArg Value.bool (orF hb)) hf
            refine cNil ?_
            refine xThenN ?_
            intro ds u hau
            refine ⟨θ, he.put0 hi hau hf rfl 33 rfl rfl, ?_⟩
            exact hc
        · intro E θ a w hall he hc
          have hf := he.h0
          have e25 := hall 25 rfl
          replace hf := hf.more he 33 rfl (onP e25)
          replace hf := hf.more he 7 rfl (onT)
          replace hf := hf.more he 5 rfl (onT)
          replace hf := hf.more he 4 rfl (onT)
          replace hf := hf.more he 3 rfl (onT)
          replace hf := hf.more he 2 rfl (onT)
          replace hf := hf.more he 1 rfl (onT)
          replace hf := hf.more he 0 rfl (onT)
          replace hc : Ctx G (.box b_9 [.int .i64 xv.At, .int .i64 xv.Depth.Lo, .int .i64 xv.Depth.Hi, .int .i64 xv.Speed.Lo, .int .i64 xv.Speed.Hi] 61 :: .box b_7 [.int .i64 x_2] 3 :: .box b_6 [.int .i64 x_1] 3 :: .box b_5 [.int .i64 x] 31 :: .box b_4 [.int .i64 0] 3 :: .box b_3 [.slice speeds_p speeds.length speeds_c] 43 :: .box b_2 [.slice depths_p depths.length depths_c] 43 :: Lb) w := hc
          exact ⟨hf.keep ⟨rfl, rfl, rfl, rfl, rfl, rfl, rfl, rfl, trivial⟩, hc⟩
        rintro a w ⟨hf, hc⟩
        refine h15 _ _ ?_
        refine rCond (b := ((!(gauge_in e_1 xv.Depth.Lo xv.Depth.Hi)) || (!(gauge_in e_2 xv.Speed.Lo xv.Speed.Hi)))) hf rfl (fun hb => ?_) (fun hb => ?_)
        · replace hF := condT hb hF
          clear hb
          refine rSeq fun K16 h16 => ?_
          refine rReg (fun _ _ h => h) rfl ?_
          refine stSt (vs := [.int .i64 0]) hf hc rfl rfl rfl rfl sz_3 rfl rfl u4 fun w hc => ?_
          refine stSt (vs := [.int .i64 7]) hf hc rfl rfl rfl rfl sz_31 rfl rfl u3 fun w hc => ?_
          refine cNil ?_
          refine h16 _ _ ?_
          refine rRet ?_
          refine xThenR ?_
          refine xBlkR ?_
          refine xThenR ?_
          replace hc := hc.drop k0
          exact ⟨(7, x_1, x_2), _, (Option.some.inj hF).symm, rfl, hc⟩
        · replace hF := condF hb hF
          clear hb
          refine rSkip ?_
          refine h14 _ _ ?_
          refine rSeq fun K17 h17 => ?_
          obtain ⟨e_3, he_3, hF⟩ := bnd_some hF
          obtain ⟨b_12, o_2, ha_2, hp_3⟩ := h_depths.atm he_3
          obtain ⟨e_4, he_4, hF⟩ := bnd_some hF
          obtain ⟨b_13, o_3, ha_3, hp_4⟩ := h_speeds.atm he_4
          refine rRegE (fun _ _ h => h) rfl (fun θ => [⟨none, none, 4, .pointer (some ⟨b_2, 0, none⟩)⟩, ⟨none, none, 5, .pointer (some ⟨b_3, 0, none⟩)⟩, ⟨none, none, 9, .pointer (some ⟨b_6, 0, none⟩)⟩, ⟨none, none, 10, .pointer (some ⟨b_7, 0, none⟩)⟩, ⟨none, none, 12, .int .i64 xv_1⟩, ⟨some 0, none, 64, .int .i64 x_1⟩, ⟨some 1, none, 65, .int .i64 xv_1⟩, ⟨some 2, none, 66, .slice depths_p depths.length depths_c⟩, ⟨some 3, none, 67, .int .i64 x_2⟩, ⟨some 4, none, 68, .pointer (some ⟨b_12, o_2, none⟩)⟩, ⟨some 5, none, 69, .int .i64 e_3⟩, ⟨some 6, none, 70, .int .i64 (W (xv_1 * e_3))⟩, ⟨some 7, none, 71, .slice speeds_p speeds.length speeds_c⟩, ⟨some 8, none, 72, .int .i64 x_2⟩, ⟨some 9, none, 73, .pointer (some ⟨b_13, o_3, none⟩)⟩, ⟨some 10, none, 74, .int .i64 e_4⟩, ⟨some 11, none, 75, .int .i64 (W ((W (xv_1 * e_3)) * e_4))⟩, ⟨some 12, none, 76, .int .i64 (W (x_1 + (W ((W (xv_1 * e_3)) * e_4))))⟩]) (fun E θ => .box b_9 [.int .i64 xv.At, .int .i64 xv.Depth.Lo, .int .i64 xv.Depth.Hi, .int .i64 xv.Speed.Lo, .int .i64 xv.Speed.Hi] 61 :: .box b_7 [.int .i64 x_2] 3 :: (bif E 13 then .box b_6 [.int .i64 (W (x_1 + (W ((W (xv_1 * e_3)) * e_4))))] 3 else .box b_6 [.int .i64 x_1] 3) :: .box b_5 [.int .i64 x] 31 :: .box b_4 [.int .i64 0] 3 :: .box b_3 [.slice speeds_p speeds.length speeds_c] 43 :: .box b_2 [.slice depths_p depths.length depths_c] 43 :: Lb) [(13, 0)] (fun a w => Has 80 a [(10, .pointer (some ⟨b_7, 0, none⟩))] ∧ Ctx G (.box b_9 [.int .i64 xv.At, .int .i64 xv.Depth.Lo, .int .i64 xv.Depth.Hi, .int .i64 xv.Speed.Lo, .int .i64 xv.Speed.Hi] 61 :: .box b_7 [.int .i64 x_2] 3 :: .box b_6 [.int .i64 (W (x_1 + (W ((W (xv_1 * e_3)) * e_4))))] 3 :: .box b_5 [.int .i64 x] 31 :: .box b_4 [.int .i64 0] 3 :: .box b_3 [.slice speeds_p speeds.length speeds_c] 43 :: .box b_2 [.slice depths_p depths.length depths_c] 43 :: Lb) w) follows_mx (by kernel_rfl) (by kernel_rfl) (HasE.of hf ⟨rfl, rfl, rfl, rfl, rfl, trivial, trivial, trivial, trivial, trivial, trivial, trivial, trivial, trivial, trivial, trivial, trivial, trivial, trivial⟩) hc ⟨?_, ?_, ?_, ?_, ?_, ?_, ?_, ?_, ?_, ?_, ?_, ?_, ?_, ?_, trivial⟩ ?_ ?_
          · intro E θ a w hD hi hp he hc
            have e13 := hD.f 0 rfl hi
            replace hc : Ctx G (.box b_9 [.int .i64 xv.At, .int .i64 xv.Depth.Lo, .int .i64 xv.Depth.Hi, .int .i64 xv.Speed.Lo, .int .i64 xv.Speed.Hi] 61 :: .box b_7 [.int .i64 x_2] 3 :: (bif E 13 then .box b_6 [.int .i64 (W (x_1 + (W ((W (xv_1 * e_3)) * e_4))))] 3 else .box b_6 [.int .i64 x_1] 3) :: .box b_5 [.int .i64 x] 31 :: .box b_4 [.int .i64 0] 3 :: .box b_3 [.slice speeds_p speeds.length speeds_c] 43 :: .box b_2 [.slice depths_p depths.length depths_c] 43 :: Lb) w := hc
            rw [e13] at hc
            replace hc : Ctx G (.box b_9 [.int .i64 xv.At, .int .i64 xv.Depth.Lo, .int .i64 xv.Depth.Hi, .int .i64 xv.Speed.Lo, .int .i64 xv.Speed.Hi] 61 :: .box b_7 [.int .i64 x_2] 3 :: .box b_6 [.int .i64 x_1] 3 :: .box b_5 [.int .i64 x] 31 :: .box b_4 [.int .i64 0] 3 :: .box b_3 [.slice speeds_p speeds.length speeds_c] 43 :: .box b_2 [.slice depths_p depths.length depths_c] 43 :: Lb) w := hc
            have hf := he.h0
            replace hf := hf.more he 2 rfl onT
            refine stE hf hc rfl rfl rfl (eLd1 sc_3 rfl (cell_box m2 rfl)) fun a w hf hc => ?_
            refine cNil ?_
            refine xThenN ?_
            intro ds u hau
            refine ⟨θ, he.put0 hi hau hf rfl 5 rfl rfl, ?_⟩
            show Ctx G (.box b_9 [.int .i64 xv.At, .int .i64 xv.Depth.Lo, .int .i64 xv.Depth.Hi, .int .i64 xv.Speed.Lo, .int .i64 xv.Speed.Hi] 61 :: .box b_7 [.int .i64 x_2] 3 :: (bif E 13 then .box b_6 [.int .i64 (W (x_1 + (W ((W (xv_1 * e_3)) * e_4))))] 3 else .box b_6 [.int .i64 x_1] 3) :: .box b_5 [.int .i64 x] 31 :: .box b_4 [.int .i64 0] 3 :: .box b_3 [.slice speeds_p speeds.length speeds_c] 43 :: .box b_2 [.slice depths_p depths.length depths_c] 43 :: Lb) w
            rw [e13]
            exact hc
          · intro E θ a w hD hi hp he hc
            have hf := he.h0
            replace hf := hf.more he 4 rfl onT
            refine stP hf rfl rfl rfl (pM rfl) fun a hf => ?_
            refine cNil ?_
            refine xThenN ?_
            intro ds u hau
            refine ⟨θ, he.put0 hi hau hf rfl 6 rfl rfl, ?_⟩
            exact hc
          · intro E θ a w hD hi hp he hc
            have hf := he.h0
            replace hf := hf.more he 0 rfl onT
            refine stE hf hc rfl rfl rfl (eLd1 sc_43 rfl (cell_box m6 rfl)) fun a w hf hc => ?_
            refine cNil ?_
            refine xThenN ?_
            intro ds u hau
            refine ⟨θ, he.put0 hi hau hf rfl 7 rfl rfl, ?_⟩
            exact hc
          · intro E θ a w hD hi hp he hc
            have hf := he.h0
            replace hf := hf.more he 3 rfl onT
            refine stE hf hc rfl rfl rfl (eLd1 sc_3 rfl (cell_box m1 rfl)) fun a w hf hc => ?_
            refine cNil ?_
            refine xThenN ?_
            intro ds u hau
            refine ⟨θ, he.put0 hi hau hf rfl 8 rfl rfl, ?_⟩
            exact hc
          · intro E θ a w hD hi hp he hc
            have e2 := hp.of (k := 2) rfl
            have e3 := hp.of (k := 3) rfl
            have hf := he.h0
            replace hf := hf.more he 7 rfl (onP e2)
            replace hf := hf.more he 8 rfl (onP e3)
            refine stP hf rfl rfl rfl (pIA Try.underlying43 sz_3 rfl rfl ha_2) fun a hf => ?_
            refine cNil ?_
            refine xThenN ?_
            intro ds u hau
            refine ⟨θ, he.put0 hi hau hf rfl 9 rfl rfl, ?_⟩
            exact hc
          · intro E θ a w hD hi hp he hc
            have e4 := hp.of (k := 4) rfl
            have hf := he.h0
            replace hf := hf.more he 9 rfl (onP e4)
            refine stE hf hc rfl rfl rfl (eLd1 sc_3 rfl (cell_pc (j := 0) hp_3 rfl)) fun a w hf hc => ?_
            refine cNil ?_
            refine xThenN ?_
            intro ds u hau
            refine ⟨θ, he.put0 hi hau hf rfl 10 rfl rfl, ?_⟩
            exact hc
          · intro E θ a w hD hi hp he hc
            have e1 := hp.of (k := 1) rfl
            have e5 := hp.of (k := 5) rfl
            have hf := he.h0
            replace hf := hf.more he 6 rfl (onP e1)
            replace hf := hf.more he 10 rfl (onP e5)
            refine stP hf rfl rfl rfl (pMul rfl rfl) fun a hf => ?_
            refine cNil ?_
            refine xThenN ?_
            intro ds u hau
            refine ⟨θ, he.put0 hi hau hf rfl 11 rfl rfl, ?_⟩
            exact hc
          · intro E θ a w hD hi hp he hc
            have hf := he.h0
            replace hf := hf.more he 1 rfl onT
            refine stE hf hc rfl rfl rfl (eLd1 sc_43 rfl (cell_box m5 rfl)) fun a w hf hc => ?_
            refine cNil ?_
            refine xThenN ?_
            intro ds u hau
            refine ⟨θ, he.put0 hi hau hf rfl 12 rfl rfl, ?_⟩
            exact hc
          · intro E θ a w hD hi hp he hc
            have hf := he.h0
            replace hf := hf.more he 3 rfl onT
            refine stE hf hc rfl rfl rfl (eLd1 sc_3 rfl (cell_box m1 rfl)) fun a w hf hc => ?_
            refine cNil ?_
            refine xThenN ?_
            intro ds u hau
            refine ⟨θ, he.put0 hi hau hf rfl 13 rfl rfl, ?_⟩
            exact hc
          · intro E θ a w hD hi hp he hc
            have e7 := hp.of (k := 7) rfl
            have e8 := hp.of (k := 8) rfl
            have hf := he.h0
            replace hf := hf.more he 12 rfl (onP e7)
            replace hf := hf.more he 13 rfl (onP e8)
            refine stP hf rfl rfl rfl (pIA Try.underlying43 sz_3 rfl rfl ha_3) fun a hf => ?_
            refine cNil ?_
            refine xThenN ?_
            intro ds u hau
            refine ⟨θ, he.put0 hi hau hf rfl 14 rfl rfl, ?_⟩
            exact hc
          · intro E θ a w hD hi hp he hc
            have e9 := hp.of (k := 9) rfl
            have hf := he.h0
            replace hf := hf.more he 14 rfl (onP e9)
            refine stE hf hc rfl rfl rfl (eLd1 sc_3 rfl (cell_pc (j := 0) hp_4 rfl)) fun a w hf hc => ?_
            refine cNil ?_
            refine xThenN ?_
            intro ds u hau
            refine ⟨θ, he.put0 hi hau hf rfl 15 rfl rfl, ?_⟩
            exact hc
          · intro E θ a w hD hi hp he hc
            have e6 := hp.of (k := 6) rfl
            have e10 := hp.of (k := 10) rfl
            have hf := he.h0
            replace hf := hf.more he 11 rfl (onP e6)
            replace hf := hf.more he 15 rfl (onP e10)
            refine stP hf rfl rfl rfl (pMul rfl rfl) fun a hf => ?_
            refine cNil ?_
            refine xThenN ?_
            intro ds u hau
            refine ⟨θ, he.put0 hi hau hf rfl 16 rfl rfl, ?_⟩
            exact hc
          · intro E θ a w hD hi hp he hc
            have e0 := hp.of (k := 0) rfl
            have e11 := hp.of (k := 11) rfl
            have hf := he.h0
            replace hf := hf.more he 5 rfl (onP e0)
            replace hf := hf.more he 16 rfl (onP e11)
            refine stP hf rfl rfl rfl (pAdd rfl rfl) fun a hf => ?_
            refine cNil ?_
            refine xThenN ?_
            intro ds u hau
            refine ⟨θ, he.put0 hi hau hf rfl 17 rfl rfl, ?_⟩
            exact hc
          · intro E θ a w hD hi hp he hc
            have e12 := hp.of (k := 12) rfl
            replace hc : Ctx G (.box b_9 [.int .i64 xv.At, .int .i64 xv.Depth.Lo, .int .i64 xv.Depth.Hi, .int .i64 xv.Speed.Lo, .int .i64 xv.Speed.Hi] 61 :: .box b_7 [.int .i64 x_2] 3 :: (bif E 13 then .box b_6 [.int .i64 (W (x_1 + (W ((W (xv_1 * e_3)) * e_4))))] 3 else .box b_6 [.int .i64 x_1] 3) :: .box b_5 [.int .i64 x] 31 :: .box b_4 [.int .i64 0] 3 :: .box b_3 [.slice speeds_p speeds.length speeds_c] 43 :: .box b_2 [.slice depths_p depths.length depths_c] 43 :: Lb) w := hc
            rw [hi] at hc
            replace hc : Ctx G (.box b_9 [.int .i64 xv.At, .int .i64 xv.Depth.Lo, .int .i64 xv.Depth.Hi, .int .i64 xv.Speed.Lo, .int .i64 xv.Speed.Hi] 61 :: .box b_7 [.int .i64 x_2] 3 :: .box b_6 [.int .i64 x_1] 3 :: .box b_5 [.int .i64 x] 31 :: .box b_4 [.int .i64 0] 3 :: .box b_3 [.slice speeds_p speeds.length speeds_c] 43 :: .box b_2 [.slice depths_p depths.length depths_c] 43 :: Lb) w := hc
            have hf := he.h0
            replace hf := hf.more he 2 rfl onT
            replace hf := hf.more he 17 rfl (onP e12)
            refine stSt (vs := [.int .i64 (W (x_1 + (W ((W (xv_1 * e_3)) * e_4))))]) hf hc rfl rfl rfl rfl sz_3 rfl rfl u2 fun w hc => ?_
            refine cNil ?_
            refine xThenN ?_
            intro ds u hau
            refine ⟨θ, he.stay0 hi hau hf rfl, ?_⟩
            show Ctx G (.box b_9 [.int .i64 xv.At, .int .i64 xv.Depth.Lo, .int .i64 xv.Depth.Hi, .int .i64 xv.Speed.Lo, .int .i64 xv.Speed.Hi] 61 :: .box b_7 [.int .i64 x_2] 3 :: (bif true then .box b_6 [.int .i64 (W (x_1 + (W ((W (xv_1 * e_3)) * e_4))))] 3 else .box b_6 [.int .i64 x_1] 3) :: .box b_5 [.int .i64 x] 31 :: .box b_4 [.int .i64 0] 3 :: .box b_3 [.slice speeds_p speeds.length speeds_c] 43 :: .box b_2 [.slice depths_p depths.length depths_c] 43 :: Lb) w
            exact hc
          · intro E θ a w hall he hc
            have hf := he.h0
            have e13 := hall 13 rfl
            replace hf := hf.more he 3 rfl (onT)
            replace hc : Ctx G (.box b_9 [.int .i64 xv.At, .int .i64 xv.Depth.Lo, .int .i64 xv.Depth.Hi, .int .i64 xv.Speed.Lo, .int .i64 xv.Speed.Hi] 61 :: .box b_7 [.int .i64 x_2] 3 :: (bif E 13 then .box b_6 [.int .i64 (W (x_1 + (W ((W (xv_1 * e_3)) * e_4))))] 3 else .box b_6 [.int .i64 x_1] 3) :: .box b_5 [.int .i64 x] 31 :: .box b_4 [.int .i64 0] 3 :: .box b_3 [.slice speeds_p speeds.length speeds_c] 43 :: .box b_2 [.slice depths_p depths.length depths_c] 43 :: Lb) w := hc
            rw [e13] at hc
            exact ⟨hf.keep ⟨rfl, trivial⟩, hc⟩
          rintro a w ⟨hf, hc⟩
          refine h17 _ _ ?_
          refine rReg (fun _ _ h => h) rfl ?_
          refine stE hf hc rfl rfl rfl (eLd1 sc_3 rfl (cell_box m1 rfl)) fun a w hf hc => ?_
          refine stP hf rfl rfl rfl (pAdd rfl rfl) fun a hf => ?_
          refine stSt (vs := [.int .i64 (W (x_2 + 1))]) hf hc rfl rfl rfl rfl sz_3 rfl rfl u1 fun w hc => ?_
          refine cNil ?_
          refine h13 _ _ ?_
          replace hc := hc.drop k0
          exact ⟨(x, W (x_1 + (W ((W (xv_1 * e_3)) * e_4))), W (x_2 + 1)), _, (Option.some.inj hF).symm, rfl, hc⟩
      · rintro D_1 ⟨x, x_1, x_2⟩ _ a w hsF rfl hf hc
        replace hc : Ctx G (.raw D_1 (.deferred (some [])) :: .box b_8 [.int .i64 r_1.1, .int .i64 r_1.2, .slice g_Verticals_p g.Verticals.length g_Verticals_c] 48 :: .box b_7 [.int .i64 x_2] 3 :: .box b_6 [.int .i64 x_1] 3 :: .box b_5 [.int .i64 x] 31 :: .box b_4 [.int .i64 0] 3 :: .box b_3 [.slice speeds_p speeds.length speeds_c] 43 :: .box b_2 [.slice depths_p depths.length depths_c] 43 :: Lf) w := hc
        replace hF : (some (x_1, 0)) = some res := by rcases hsF with rfl | rfl <;> exact hF
        refine h9 _ _ ?_
        refine wp_seq_k fun K18 h18 => ?_
        refine cReg ?_
        refine stE hf hc rfl rfl rfl (eLd1 sc_3 rfl (cell_box m3 rfl)) fun a w hf hc => ?_
        refine stSt (vs := [.int .i64 x_1]) hf hc rfl rfl rfl rfl sz_3 rfl rfl u5 fun w hc => ?_
        refine stSt (vs := [.int .i64 0]) hf hc rfl rfl rfl rfl sz_31 rfl rfl u4 fun w hc => ?_
        refine cNil ?_
        refine h18 _ _ ?_
        refine wp_ret ?_
        obtain rfl := Option.some.inj hF
        replace hc := hc.drop k7
        replace hc := hc.drop k6
        replace hc := hc.drop k3
        replace hc := hc.drop k2
        replace hc := hc.drop k1
        replace hc := hc.pick k0
        replace hc := hc.pick k1
        replace hc := hc.pick k2
        refine outM hf ?_
        refine outMc hc m2 u2 fun w hc => ?_
        exact outM2 Try.results33 hf hc (rv_cell1 sc_3 rfl (cell_box m0 rfl)) (rv_cell1 sc_31 rfl (cell_box m1 rfl)) ⟨rfl, (((hc.drop k2).drop k1).drop k0)⟩
      · rintro D_1 ⟨x, x_1, x_2⟩ _ a w hsF rfl hf hc
        replace hc : Ctx G (.raw D_1 (.deferred (some [])) :: .box b_8 [.int .i64 r_1.1, .int .i64 r_1.2, .slice g_Verticals_p g.Verticals.length g_Verticals_c] 48 :: .box b_7 [.int .i64 x_2] 3 :: .box b_6 [.int .i64 x_1] 3 :: .box b_5 [.int .i64 x] 31 :: .box b_4 [.int .i64 0] 3 :: .box b_3 [.slice speeds_p speeds.length speeds_c] 43 :: .box b_2 [.slice depths_p depths.length depths_c] 43 :: Lf) w := hc
        replace hF : (some (0, x)) = some res := by subst hsF; exact hF
        refine xThenR ?_
        obtain rfl := Option.some.inj hF
        replace hc := hc.drop k7
        replace hc := hc.drop k6
        replace hc := hc.drop k3
        replace hc := hc.drop k2
        replace hc := hc.drop k1
        replace hc := hc.pick k0
        replace hc := hc.pick k1
        replace hc := hc.pick k2
        refine outM hf ?_
        refine outMc hc m2 u2 fun w hc => ?_
        exact outM2 Try.results33 hf hc (rv_cell1 sc_3 rfl (cell_box m0 rfl)) (rv_cell1 sc_31 rfl (cell_box m1 rfl)) ⟨rfl, (((hc.drop k2).drop k1).drop k0)⟩

def law03_span (N : Nat) (lo : Int) (hi_ : Int) : Option (api_Span) :=
  some (⟨lo, hi_⟩ : api_Span)
theorem law03_span_ok {N : Nat} {G : Pers} {Lf : List Ent} {w : World} (lo : Int) (hi_ : Int)   (hc : Ctx G (Lf) w) {res : api_Span} (hF : law03_span N lo hi_ = some res) : Calls Try.prog 14 #[.int .i64 lo, .int .i64 hi_] w (fun e w => e = .returned (.agg #[.int .i64 res.Lo, .int .i64 res.Hi]) ∧ Ctx G (Lf) w) := by
  unfold law03_span at hF
  refine fnIn (args := [.int .i64 lo, .int .i64 hi_]) Try.func14 rfl Try.ntmps14 rfl fun a hf => ?_
  refine wp_seq_k fun K1 h1 => ?_
  refine cReg ?_
  refine stAl (cs := [.int .i64 0, .int .i64 0]) hf hc rfl rfl zr_24 rfl fun b_1 a w hf hc => ?_
  refine cNil ?_
  refine h1 _ _ ?_
  refine wp_seq_k fun K2 h2 => ?_
  refine cReg ?_
  refine stP hf rfl rfl rfl (pM rfl) fun a hf => ?_
  refine stP hf rfl rfl rfl (pM rfl) fun a hf => ?_
  refine stP hf rfl rfl rfl (pBuildS (cells := [.int .i64 lo, .int .i64 hi_]) bt_24 rfl rfl) fun a hf => ?_
  refine stSt (vs := [.int .i64 lo, .int .i64 hi_]) hf hc rfl rfl rfl rfl sz_24 rfl rfl u0 fun w hc => ?_
  refine cNil ?_
  refine h2 _ _ ?_
  refine wp_ret ?_
  obtain rfl := Option.some.inj hF
  exact fnOut1 (by simp) rfl Try.results14 hf hc (rv_cellN (vs := [.int .i64 lo, .int .i64 hi_]) ag_24 rfl rfl (cells_box (n := 2) m0 rfl)) ⟨rfl, (hc.drop k0)⟩

def law03_Two (N : Nat)  : Option (gauge_Gauging) :=
  Option.bind (law03_span N 10 10) fun r =>
  Option.bind (law03_span N 100 110) fun r_1 =>
  Option.bind (law03_span N 20 21) fun r_2 =>
  Option.bind (law03_span N (-5) 200) fun r_3 =>
  some (⟨0, 100, ([(⟨20, r, r_1⟩ : gauge_Vertical), (⟨60, r_2, r_3⟩ : gauge_Vertical)] : List gauge_Vertical)⟩ : gauge_Gauging)
theorem law03_Two_ok {N : Nat} {G : Pers} {Lf : List Ent} {w : World}    (hc : Ctx G (Lf) w) {res : gauge_Gauging} (hF : law03_Two N = some res) : Calls Try.prog 53 #[] w (fun e w => ∃ (p'1 : Option Addr) (c'1 : Nat), e = .returned (.agg #[.int .i64 res.Left, .int .i64 res.Right, .slice p'1 res.Verticals.length c'1]) ∧ Ctx G (.row p'1 c'1 (res.Verticals.map enc_gauge_Vertical) 61 5 :: Lf) w) := by
  unfold law03_Two at hF
  refine fnIn (args := []) Try.func53 rfl Try.ntmps53 rfl fun a hf => ?_
  refine wp_seq_k fun K1 h1 => ?_
  refine cReg ?_
  refine stAl (cs := [.int .i64 0, .int .i64 0, .slice none 0 0]) hf hc rfl rfl zr_48 rfl fun b_1 a w hf hc => ?_
  refine cNil ?_
  refine h1 _ _ ?_
  refine wp_seq_k fun K2 h2 => ?_
  refine cReg ?_
  obtain ⟨r, hr, hF⟩ := bnd_some hF
  refine stE hf hc rfl rfl rfl (eC (v := .agg #[.int .i64 r.Lo, .int .i64 r.Hi]) (vs := [.int .i64 10, .int .i64 10]) (caps := []) en_14 rfl rfl rfl rfl (fun w hc => law03_span_ok 10 10 hc hr)) fun a w hf hc => ?_
  obtain ⟨r_1, hr_1, hF⟩ := bnd_some hF
  refine stE hf hc rfl rfl rfl (eC (v := .agg #[.int .i64 r_1.Lo, .int .i64 r_1.Hi]) (vs := [.int .i64 100, .int .i64 110]) (caps := []) en_14 rfl rfl rfl rfl (fun w hc => law03_span_ok 100 110 hc hr_1)) fun a w hf hc => ?_
  refine stP hf rfl rfl rfl (pBuildS (cells := [.int .i64 20, .int .i64 r.Lo, .int .i64 r.Hi, .int .i64 r_1.Lo, .int .i64 r_1.Hi]) bt_61 rfl rfl) fun a hf => ?_
  obtain ⟨r_2, hr_2, hF⟩ := bnd_some hF
  refine stE hf hc rfl rfl rfl (eC (v := .agg #[.int .i64 r_2.Lo, .int .i64 r_2.Hi]) (vs := [.int .i64 20, .int .i64 21]) (caps := []) en_14 rfl rfl rfl rfl (fun w hc => law03_span_ok 20 21 hc hr_2)) fun a w hf hc => ?_
  obtain ⟨r_3, hr_3, hF⟩ := bnd_some hF
  refine stE hf hc rfl rfl rfl (eC (v := .agg #[.int .i64 r_3.Lo, .int .i64 r_3.Hi]) (vs := [.int .i64 (-5), .int .i64 200]) (caps := []) en_14 rfl rfl rfl rfl (fun w hc => law03_span_ok (-5) 200 hc hr_3)) fun a w hf hc => ?_
  refine stP hf rfl rfl rfl (pBuildS (cells := [.int .i64 60, .int .i64 r_2.Lo, .int .i64 r_2.Hi, .int .i64 r_3.Lo, .int .i64 r_3.Hi]) bt_61 rfl rfl) fun a hf => ?_
  refine stBS (rows := ([(⟨20, r, r_1⟩ : gauge_Vertical), (⟨60, r_2, r_3⟩ : gauge_Vertical)] : List gauge_Vertical).map enc_gauge_Vertical) (vs := [(0, .agg #[.int .i64 20, .int .i64 r.Lo, .int .i64 r.Hi, .int .i64 r_1.Lo, .int .i64 r_1.Hi]), (1, .agg #[.int .i64 60, .int .i64 r_2.Lo, .int .i64 r_2.Hi, .int .i64 r_3.Lo, .int .i64 r_3.Hi])]) hf hc rfl rfl sl_46 rfl ⟨rfl, rfl, rfl, rfl, rfl, rfl, trivial⟩ rfl rfl fun b_2 a w hf hc => ?_
  refine stP hf rfl rfl rfl (pBuildS (cells := [.int .i64 0, .int .i64 100, .slice (some ⟨b_2, 0, none⟩) 2 2]) bt_48 rfl rfl) fun a hf => ?_
  refine stSt (vs := [.int .i64 0, .int .i64 100, .slice (some ⟨b_2, 0, none⟩) 2 2]) hf hc rfl rfl rfl rfl sz_48 rfl rfl u1 fun w hc => ?_
  refine cNil ?_
  refine h2 _ _ ?_
  refine wp_ret ?_
  obtain rfl := Option.some.inj hF
  exact fnOut1 (by simp) rfl Try.results53 hf hc (rv_cellN (vs := [.int .i64 0, .int .i64 100, .slice (some ⟨b_2, 0, none⟩) 2 2]) ag_48 rfl rfl (cells_box (n := 3) m1 rfl)) ⟨(some ⟨b_2, 0, none⟩), 2, rfl, (hc.drop k1)⟩

def gauge_high (N : Nat)  : Option (Unit) :=
  some ()
theorem gauge_high_ok {N : Nat} {G : Pers} {Lf : List Ent} {w : World}    (hc : Ctx G (Lf) w) {res : Unit} (hF : gauge_high N = some res) : Calls Try.prog 64 #[] w (fun e w => e = .returned (.agg #[.func (.func 97) #[] #[]]) ∧ Ctx G (Lf) w) := by
  unfold gauge_high at hF
  refine fnIn (args := []) Try.func64 rfl Try.ntmps64 rfl fun a hf => ?_
  refine wp_seq_k fun K1 h1 => ?_
  refine cReg ?_
  refine stAl (cs := [.nilFunc]) hf hc rfl rfl zr_120 rfl fun b_1 a w hf hc => ?_
  refine cNil ?_
  refine h1 _ _ ?_
  refine wp_seq_k fun K2 h2 => ?_
  refine cReg ?_
  refine stP hf rfl rfl rfl (pBuildS (cells := [.func (.func 97) #[] #[]]) bt_120 rfl rfl) fun a hf => ?_
  refine stSt (vs := [.func (.func 97) #[] #[]]) hf hc rfl rfl rfl rfl sz_120 rfl rfl u0 fun w hc => ?_
  refine cNil ?_
  refine h2 _ _ ?_
  refine wp_ret ?_
  obtain rfl := Option.some.inj hF
  exact fnOut1 (by simp) rfl Try.results64 hf hc (rv_cellN (vs := [.func (.func 97) #[] #[]]) ag_120 rfl rfl (cells_box (n := 1) m0 rfl)) ⟨rfl, (hc.drop k0)⟩

def gauge_low (N : Nat)  : Option (Unit) :=
  some ()
theorem gauge_low_ok {N : Nat} {G : Pers} {Lf : List Ent} {w : World}    (hc : Ctx G (Lf) w) {res : Unit} (hF : gauge_low N = some res) : Calls Try.prog 65 #[] w (fun e w => e = .returned (.agg #[.func (.func 98) #[] #[]]) ∧ Ctx G (Lf) w) := by
  unfold gauge_low at hF
  refine fnIn (args := []) Try.func65 rfl Try.ntmps65 rfl fun a hf => ?_
  refine wp_seq_k fun K1 h1 => ?_
  refine cReg ?_
  refine stAl (cs := [.nilFunc]) hf hc rfl rfl zr_120 rfl fun b_1 a w hf hc => ?_
  refine cNil ?_
  refine h1 _ _ ?_
  refine wp_seq_k fun K2 h2 => ?_
  refine cReg ?_
  refine stP hf rfl rfl rfl (pBuildS (cells := [.func (.func 98) #[] #[]]) bt_120 rfl rfl) fun a hf => ?_
  refine stSt (vs := [.func (.func 98) #[] #[]]) hf hc rfl rfl rfl rfl sz_120 rfl rfl u0 fun w hc => ?_
  refine cNil ?_
  refine h2 _ _ ?_
  refine wp_ret ?_
  obtain rfl := Option.some.inj hF
  exact fnOut1 (by simp) rfl Try.results65 hf hc (rv_cellN (vs := [.func (.func 98) #[] #[]]) ag_120 rfl rfl (cells_box (n := 1) m0 rfl)) ⟨rfl, (hc.drop k0)⟩

def gauge_high_1 (s_ : api_Span) : Int :=
  s_.Hi
theorem gauge_high_1_ok {G : Pers} {Lf : List Ent} {w : World} (s_ : api_Span)   (hc : Ctx G (Lf) w) {res : Int} (hF : gauge_high_1 s_ = res) : Calls Try.prog 97 #[.agg #[.int .i64 s_.Lo, .int .i64 s_.Hi]] w (fun e w => e = .returned (.int .i64 res) ∧ Ctx G (Lf) w) := by
  unfold gauge_high_1 at hF
  refine fnIn (args := [.agg #[.int .i64 s_.Lo, .int .i64 s_.Hi]]) Try.func97 rfl Try.ntmps97 rfl fun a hf => ?_
  refine wp_seq_k fun K1 h1 => ?_
  refine cReg ?_
  refine stBx (cs := [.int .i64 s_.Lo, .int .i64 s_.Hi]) hf hc rfl rfl rfl rfl fun b_1 a w hf hc => ?_
  refine stP hf rfl rfl rfl (pA rfl) fun a hf => ?_
  refine cNil ?_
  refine h1 _ _ ?_
  refine wp_seq_k fun K2 h2 => ?_
  refine cReg ?_
  refine stP hf rfl rfl rfl (pFA fa_24_1 rfl) fun a hf => ?_
  refine stE hf hc rfl rfl rfl (eLd1 sc_3 rfl (cell_box m0 rfl)) fun a w hf hc => ?_
  refine stP hf rfl rfl rfl (pA rfl) fun a hf => ?_
  refine cNil ?_
  refine h2 _ _ ?_
  refine wp_ret ?_
  obtain rfl := hF
  replace hc := hc.drop k0
  exact fnOut1 (by simp) rfl Try.results97 hf hc (show look _ 2 = _ from rfl) ⟨rfl, hc⟩

def gauge_low_1 (s_ : api_Span) : Int :=
  s_.Lo
theorem gauge_low_1_ok {G : Pers} {Lf : List Ent} {w : World} (s_ : api_Span)   (hc : Ctx G (Lf) w) {res : Int} (hF : gauge_low_1 s_ = res) : Calls Try.prog 98 #[.agg #[.int .i64 s_.Lo, .int .i64 s_.Hi]] w (fun e w => e = .returned (.int .i64 res) ∧ Ctx G (Lf) w) := by
  unfold gauge_low_1 at hF
  refine fnIn (args := [.agg #[.int .i64 s_.Lo, .int .i64 s_.Hi]]) Try.func98 rfl Try.ntmps98 rfl fun a hf => ?_
  refine wp_seq_k fun K1 h1 => ?_
  refine cReg ?_
  refine stBx (cs := [.int .i64 s_.Lo, .int .i64 s_.Hi]) hf hc rfl rfl rfl rfl fun b_1 a w hf hc => ?_
  refine stP hf rfl rfl rfl (pA rfl) fun a hf => ?_
  refine cNil ?_
  refine h1 _ _ ?_
  refine wp_seq_k fun K2 h2 => ?_
  refine cReg ?_
  refine stP hf rfl rfl rfl (pFA fa_24_0 rfl) fun a hf => ?_
  refine stE hf hc rfl rfl rfl (eLd1 sc_3 rfl (cell_box m0 rfl)) fun a w hf hc => ?_
  refine stP hf rfl rfl rfl (pA rfl) fun a hf => ?_
  refine cNil ?_
  refine h2 _ _ ?_
  refine wp_ret ?_
  obtain rfl := hF
  replace hc := hc.drop k0
  exact fnOut1 (by simp) rfl Try.results98 hf hc (show look _ 2 = _ from rfl) ⟨rfl, hc⟩

def gauge_heavy_j9 (N : Nat) (x : Int) (out_1 : List Int) : Option (Step ((List Int) × Int) ((List Int))) :=
  some (.cont (out_1, W (x + 1)))
def gauge_heavy_j18 (N : Nat) (x_1 : Int) (all_1 : Int) : Option (Step (Int × Int) (Step ((List Int) × Int) ((List Int)))) :=
  some (.cont (all_1, W (x_1 + 1)))
def gauge_heavy_b14 (N : Nat) (l : List api_Span) (x : Int) (all : Int) (x_1 : Int) : Option (Step (Int × Int) (Step ((List Int) × Int) ((List Int)))) :=
  cond (decide (x_1 < ((l.length : Nat) : Int)))
  (Option.bind (getI l x_1) fun e_2 =>
  cond (x_1 == x)
  (gauge_heavy_j18 N x_1 (W (all + (gauge_high_1 e_2))))
  (gauge_heavy_j18 N x_1 (W (all + (gauge_low_1 e_2)))))
  (some (.brk (all, x_1)))
def gauge_heavy_b5 (N : Nat) (l : List api_Span) (permille : Int) (out : List Int) (x : Int) : Option (Step ((List Int) × Int) ((List Int))) :=
  cond (decide (x < ((l.length : Nat) : Int)))
  (Option.bind (loopO (fun s14 => gauge_heavy_b14 N l x s14.1 s14.2) N (0, 0)) fun x14 =>
  exK x14 (fun s14 => Option.bind (getI l x) fun e_1 =>
  cond (decide ((W (permille * s14.1)) < (W (1000 * (gauge_high_1 e_1)))))
  (Option.bind (room ((out ++ [x])).length) fun un =>
  gauge_heavy_j9 N x (out ++ [x]))
  (gauge_heavy_j9 N x out)) some)
  (some (.brk (out, x)))
def gauge_heavy (N : Nat) (l : List api_Span) (permille : Int) : Option ((List Int)) :=
  Option.bind (loopO (fun s5 => gauge_heavy_b5 N l permille s5.1 s5.2) N (([] : List Int), 0)) fun x5 =>
  exK x5 (fun s5 => some s5.1) some
theorem gauge_heavy_ok {N : Nat} {G : Pers} {Lf : List Ent} {w : World} (l : List api_Span) (permille : Int) {l_p : Option Addr} {l_c : Nat} (h_l : Rd G 2 l_p l_c (l.map enc_api_Span)) (hc : Ctx G (Lf) w) {res : (List Int)} (hF : gauge_heavy N l permille = some res) : Calls Try.prog 63 #[.slice l_p l.length l_c, .int .i64 permille, .agg #[.func (.func 97) #[] #[]], .agg #[.func (.func 98) #[] #[]]] w (fun e w => ∃ (p'1 : Option Addr) (c'1 : Nat), e = .returned (.slice p'1 res.length c'1) ∧ Ctx G (.row p'1 c'1 (res.map encI_i64) 3 1 :: Lf) w) := by
  unfold gauge_heavy at hF
  refine fnIn (args := [.slice l_p l.length l_c, .int .i64 permille, .agg #[.func (.func 97) #[] #[]], .agg #[.func (.func 98) #[] #[]]]) Try.func63 rfl Try.ntmps63 rfl fun a hf => ?_
  refine wp_seq_k fun K1 h1 => ?_
  refine cReg ?_
  refine stBx (cs := [.func (.func 97) #[] #[]]) hf hc rfl rfl rfl rfl fun b_1 a w hf hc => ?_
  refine stBx (cs := [.func (.func 98) #[] #[]]) hf hc rfl rfl rfl rfl fun b_2 a w hf hc => ?_
  refine stP hf rfl rfl rfl (pA rfl) fun a hf => ?_
  refine cNil ?_
  refine h1 _ _ ?_
  refine wp_seq_k fun K2 h2 => ?_
  refine cReg ?_
  refine stP hf rfl rfl rfl (pA rfl) fun a hf => ?_
  refine cNil ?_
  refine h2 _ _ ?_
  refine wp_seq_k fun K3 h3 => ?_
  refine wp_seq_k fun K4 h4 => ?_
  refine cReg ?_
  refine stP hf rfl rfl rfl (pM rfl) fun a hf => ?_
  refine stP hf rfl rfl rfl (pLenS Try.underlying72 rfl) fun a hf => ?_
  refine stP hf rfl rfl rfl (pM rfl) fun a hf => ?_
  refine cNil ?_
  refine h4 _ _ ?_
  refine wp_block ?_
  obtain ⟨x5, hx5, hF⟩ := bnd_some hF
  let S5 : ((List Int) × Int) → Act → World → Prop := (fun (zz : (List Int) × Int) a w => ∃ (p_1 : Option Addr) (c_1 : Nat), Has 60 a [(0, .slice l_p l.length l_c), (1, .int .i64 permille), (6, .pointer (some ⟨b_1, 0, none⟩)), (7, .pointer (some ⟨b_2, 0, none⟩)), (9, .slice p_1 zz.1.length c_1), (15, .int .i64 ((l.length : Nat) : Int)), (16, .int .i64 zz.2)] ∧ Ctx G (.row p_1 c_1 (zz.1.map encI_i64) 3 1 :: .box b_2 [.func (.func 98) #[] #[]] 120 :: .box b_1 [.func (.func 97) #[] #[]] 120 :: Lf) w)
  have hr5 : ∀ (zz : (List Int) × Int) a w, x5 = .go zz → S5 zz a w → K3 a w := by
    rintro ⟨out, x⟩ a w rfl ⟨p_1, c_1, hf, hc⟩
    replace hF : _ = some res := hF
    refine h3 _ _ ?_
    refine wp_seq_k fun K6 h6 => ?_
    refine cReg ?_
    refine stP hf rfl rfl rfl (pM rfl) fun a hf => ?_
    refine stP hf rfl rfl rfl (pA rfl) fun a hf => ?_
    refine cNil ?_
    refine h6 _ _ ?_
    refine wp_ret ?_
    obtain rfl := Option.some.inj hF
    replace hc := hc.drop k2
    replace hc := hc.drop k1
    exact fnOut1 (by simp) rfl Try.results63 hf hc (show look _ 8 = _ from rfl) ⟨p_1, c_1, rfl, hc⟩
  have ho5 : ∀ r, x5 = .out r → r = res := by
    rintro r rfl
    exact Option.some.inj hF
  replace hc := hc.nilRow 3 1
  refine cLoop N (loopW (S := S5) (x := x5) ?_ N (([] : List Int), 0) _ _ ⟨none, 0, hf.keep ⟨rfl, rfl, rfl, rfl, rfl, rfl, rfl, trivial⟩, hc⟩ hx5)
  clear hF hf hc
  rintro ⟨out, x⟩ st5 a w KB5 ⟨p_1, c_1, hf, hc⟩ hF hfin5 hK5
  unfold gauge_heavy_b5 at hF
  refine wp_seq_k fun K7 h7 => ?_
  refine cReg ?_
  refine stP hf rfl rfl rfl (pLt rfl rfl) fun a hf => ?_
  refine cNil ?_
  refine h7 _ _ ?_
  refine wp_seq_k fun K8 h8 => ?_
  refine cCond (b := (decide (x < ((l.length : Nat) : Int)))) hf rfl (fun hb => ?_) (fun hb => ?_)
  · replace hF := condT hb hF
    clear hb
    refine wp_skip ?_
    refine h8 _ _ ?_
    refine wp_seq_k fun K9 h9 => ?_
    have hj9 : ∀ (out_1 : List Int) (p_2 : Option Addr) (c_2 : Nat) a w, Has 60 a [(0, .slice l_p l.length l_c), (1, .int .i64 permille), (6, .pointer (some ⟨b_1, 0, none⟩)), (7, .pointer (some ⟨b_2, 0, none⟩)), (9, .slice p_2 out_1.length c_2), (15, .int .i64 ((l.length : Nat) : Int)), (16, .int .i64 x)] → Ctx G (.row p_2 c_2 (out_1.map encI_i64) 3 1 :: .box b_2 [.func (.func 98) #[] #[]] 120 :: .box b_1 [.func (.func 97) #[] #[]] 120 :: Lf) w → gauge_heavy_j9 N x out_1 = some st5 → K9 a w := by
      intro out_1 p_2 c_2 a w hf hc hF
      unfold gauge_heavy_j9 at hF
      refine h9 _ _ ?_
      refine cReg ?_
      refine stP hf rfl rfl rfl (pAdd rfl rfl) fun a hf => ?_
      refine stP hf rfl rfl rfl (pM rfl) fun a hf => ?_
      refine cNil ?_
      exact hK5 (out_1, W (x + 1)) _ _ (Option.some.inj hF).symm ⟨p_2, c_2, hf.keep ⟨rfl, rfl, rfl, rfl, rfl, rfl, rfl, trivial⟩, hc⟩
    refine wp_block ?_
    refine wp_seq_k fun K10 h10 => ?_
    refine cReg ?_
    refine stP hf rfl rfl rfl (pM rfl) fun a hf => ?_
    refine stP hf rfl rfl rfl (pA rfl) fun a hf => ?_
    refine cNil ?_
    refine h10 _ _ ?_
    refine wp_seq_k fun K11 h11 => ?_
    refine cReg ?_
    refine stP hf rfl rfl rfl (pA rfl) fun a hf => ?_
    refine cNil ?_
    refine h11 _ _ ?_
    refine wp_seq_k fun K12 h12 => ?_
    refine wp_seq_k fun K13 h13 => ?_
    refine cReg ?_
    refine stP hf rfl rfl rfl (pM rfl) fun a hf => ?_
    refine stP hf rfl rfl rfl (pLenS Try.underlying72 rfl) fun a hf => ?_
    refine stP hf rfl rfl rfl (pM rfl) fun a hf => ?_
    refine cNil ?_
    refine h13 _ _ ?_
    refine wp_block ?_
    obtain ⟨x14, hx14, hF⟩ := bnd_some hF
    let S14 : (Int × Int) → Act → World → Prop := (fun (zz : Int × Int) a w => Has 60 a [(0, .slice l_p l.length l_c), (1, .int .i64 permille), (6, .pointer (some ⟨b_1, 0, none⟩)), (7, .pointer (some ⟨b_2, 0, none⟩)), (9, .slice p_1 out.length c_1), (10, .int .i64 x), (11, .int .i64 zz.1), (15, .int .i64 ((l.length : Nat) : Int)), (16, .int .i64 x), (19, .slice l_p l.length l_c), (20, .int .i64 ((l.length : Nat) : Int)), (21, .int .i64 zz.2)] ∧ Ctx G (.row p_1 c_1 (out.map encI_i64) 3 1 :: .box b_2 [.func (.func 98) #[] #[]] 120 :: .box b_1 [.func (.func 97) #[] #[]] 120 :: Lf) w)
    have hr14 : ∀ (zz : Int × Int) a w, x14 = .go zz → S14 zz a w → K12 a w := by
      rintro ⟨all, x_1⟩ a w rfl ⟨hf, hc⟩
      replace hF : _ = some st5 := hF
      refine h12 _ _ ?_
      refine wp_seq_k fun K15 h15 => ?_
      obtain ⟨e_1, he_1, hF⟩ := bnd_some hF
      obtain ⟨b_3, o, ha, hp_1⟩ := h_l.atm he_1
      refine cQ hc follows_mx (by kernel_rfl) ?_
      refine qE hf rfl rfl rfl (Pu.ev (pFA fa_120_0 rfl)) fun a hf => ?_
      refine qE hf rfl rfl rfl (eLd1 sc_118 rfl (cell_box m2 rfl)) fun a hf => ?_
      refine qE hf rfl rfl rfl (Pu.ev (pM rfl)) fun a hf => ?_
      refine qE hf rfl rfl rfl (Pu.ev (pM rfl)) fun a hf => ?_
      refine qE hf rfl rfl rfl (Pu.ev (pIA Try.underlying72 sz_24 rfl rfl ha)) fun a hf => ?_
      refine qE hf rfl rfl rfl (eLdN (vs := [.int .i64 e_1.Lo, .int .i64 e_1.Hi]) ag_24 rfl rfl (cells_pc hp_1 (n := 2) (o' := 0) rfl)) fun a hf => ?_
      refine qE hf rfl rfl rfl (eC (v := .int .i64 (gauge_high_1 e_1)) (vs := [.agg #[.int .i64 e_1.Lo, .int .i64 e_1.Hi]]) (caps := []) en_97 rfl rfl rfl rfl (fun w hc => gauge_high_1_ok e_1 hc rfl)) fun a hf => ?_
      refine qE hf rfl rfl rfl (Pu.ev (pMul rfl rfl)) fun a hf => ?_
      refine qE hf rfl rfl rfl (Pu.ev (pM rfl)) fun a hf => ?_
      refine qE hf rfl rfl rfl (Pu.ev (pM rfl)) fun a hf => ?_
      refine qE hf rfl rfl rfl (Pu.ev (pMul rfl rfl)) fun a hf => ?_
      refine qE hf rfl rfl rfl (Pu.ev (pGt rfl rfl)) fun a hf => ?_
      intro w hc
      refine h15 _ _ ?_
      refine cCond (b := (decide ((W (permille * all)) < (W (1000 * (gauge_high_1 e_1)))))) hf rfl (fun hb => ?_) (fun hb => ?_)
      · replace hF := condT hb hF
        clear hb
        refine cReg ?_
        refine stP hf rfl rfl rfl (pM rfl) fun a hf => ?_
        refine stP hf rfl rfl rfl (pM rfl) fun a hf => ?_
        refine stBS (rows := ([x] : List Int).map encI_i64) (vs := [(0, .int .i64 x)]) hf hc rfl rfl sl_43 rfl ⟨rfl, rfl, rfl, trivial⟩ rfl rfl fun b_4 a w hf hc => ?_
        obtain ⟨un, hun, hF⟩ := bnd_some hF
        refine stApm (xs := out) (ys := ([x] : List Int)) hf hc rfl rfl sl_43 rfl rfl rfl rfl rfl one_encI_i64 (src_row hc m0) (fun _ _ => u1) (by simpa using room_spec hun) fun p_3 c_3 a w hf hc => ?_
        refine stP hf rfl rfl rfl (pA rfl) fun a hf => ?_
        refine cNil ?_
        replace hc := hc.drop k0
        exact hj9 (out ++ [x]) p_3 c_3 _ _  (hf.keep ⟨rfl, rfl, rfl, rfl, rfl, rfl, rfl, trivial⟩) hc hF
      · replace hF := condF hb hF
        clear hb
        refine wp_skip ?_
        exact hj9 out p_1 c_1 _ _  (hf.keep ⟨rfl, rfl, rfl, rfl, rfl, rfl, rfl, trivial⟩) hc hF
    have ho14 : ∀ r, x14 = .out r → r = st5 := by
      rintro r rfl
      exact Option.some.inj hF
    refine cLoop N (loopW (S := S14) (x := x14) ?_ N (0, 0) _ _ ⟨hf.keep ⟨rfl, rfl, rfl, rfl, rfl, rfl, rfl, rfl, rfl, rfl, rfl, rfl, trivial⟩, hc⟩ hx14)
    clear hF hf hc
    rintro ⟨all, x_1⟩ st14 a w KB14 ⟨hf, hc⟩ hF hfin14 hK14
    unfold gauge_heavy_b14 at hF
    refine wp_seq_k fun K16 h16 => ?_
    refine cReg ?_
    refine stP hf rfl rfl rfl (pLt rfl rfl) fun a hf => ?_
    refine cNil ?_
    refine h16 _ _ ?_
    refine wp_seq_k fun K17 h17 => ?_
    refine cCond (b := (decide (x_1 < ((l.length : Nat) : Int)))) hf rfl (fun hb => ?_) (fun hb => ?_)
    · replace hF := condT hb hF
      clear hb
      refine wp_skip ?_
      refine h17 _ _ ?_
      refine wp_seq_k fun K18 h18 => ?_
      have hj18 : ∀ (all_1 : Int) a w, Has 60 a [(0, .slice l_p l.length l_c), (1, .int .i64 permille), (6, .pointer (some ⟨b_1, 0, none⟩)), (7, .pointer (some ⟨b_2, 0, none⟩)), (9, .slice p_1 out.length c_1), (10, .int .i64 x), (11, .int .i64 all_1), (15, .int .i64 ((l.length : Nat) : Int)), (16, .int .i64 x), (19, .slice l_p l.length l_c), (20, .int .i64 ((l.length : Nat) : Int)), (21, .int .i64 x_1)] → Ctx G (.row p_1 c_1 (out.map encI_i64) 3 1 :: .box b_2 [.func (.func 98) #[] #[]] 120 :: .box b_1 [.func (.func 97) #[] #[]] 120 :: Lf) w → gauge_heavy_j18 N x_1 all_1 = some st14 → K18 a w := by
        intro all_1 a w hf hc hF
        unfold gauge_heavy_j18 at hF
        refine h18 _ _ ?_
        refine cReg ?_
        refine stP hf rfl rfl rfl (pAdd rfl rfl) fun a hf => ?_
        refine stP hf rfl rfl rfl (pM rfl) fun a hf => ?_
        refine cNil ?_
        exact hK14 (all_1, W (x_1 + 1)) _ _ (Option.some.inj hF).symm ⟨hf.keep ⟨rfl, rfl, rfl, rfl, rfl, rfl, rfl, rfl, rfl, rfl, rfl, rfl, trivial⟩, hc⟩
      refine wp_block ?_
      refine wp_seq_k fun K19 h19 => ?_
      refine cReg ?_
      refine stP hf rfl rfl rfl (pM rfl) fun a hf => ?_
      obtain ⟨e_2, he_2, hF⟩ := bnd_some hF
      obtain ⟨b_5, o_1, ha_1, hp_2⟩ := h_l.atm he_2
      refine stP hf rfl rfl rfl (pIA Try.underlying72 sz_24 rfl rfl ha_1) fun a hf => ?_
      refine stE hf hc rfl rfl rfl (eLdN (vs := [.int .i64 e_2.Lo, .int .i64 e_2.Hi]) ag_24 rfl rfl (cells_pc hp_2 (n := 2) (o' := 0) rfl)) fun a w hf hc => ?_
      refine stAl (cs := [.int .i64 0, .int .i64 0]) hf hc rfl rfl zr_24 rfl fun b_6 a w hf hc => ?_
      refine stP hf rfl rfl rfl (pA rfl) fun a hf => ?_
      refine stSt (vs := [.int .i64 e_2.Lo, .int .i64 e_2.Hi]) hf hc rfl rfl rfl rfl sz_24 rfl rfl u0 fun w hc => ?_
      refine cNil ?_
      refine h19 _ _ ?_
      refine wp_seq_k fun K20 h20 => ?_
      refine cReg ?_
      refine stP hf rfl rfl rfl (pM rfl) fun a hf => ?_
      refine stP hf rfl rfl rfl (pM rfl) fun a hf => ?_
      refine stP hf rfl rfl rfl (pEq rfl rfl) fun a hf => ?_
      refine cNil ?_
      refine h20 _ _ ?_
      refine cCond (b := (x_1 == x)) hf rfl (fun hb => ?_) (fun hb => ?_)
      · replace hF := condT hb hF
        clear hb
        refine cReg ?_
        refine stP hf rfl rfl rfl (pM rfl) fun a hf => ?_
        refine stP hf rfl rfl rfl (pFA fa_120_0 rfl) fun a hf => ?_
        refine stE hf hc rfl rfl rfl (eLd1 sc_118 rfl (cell_box m3 rfl)) fun a w hf hc => ?_
        refine stE hf hc rfl rfl rfl (eLdN (vs := [.int .i64 e_2.Lo, .int .i64 e_2.Hi]) ag_24 rfl rfl (cells_box (n := 2) m0 rfl)) fun a w hf hc => ?_
        refine stE hf hc rfl rfl rfl (eC (v := .int .i64 (gauge_high_1 e_2)) (vs := [.agg #[.int .i64 e_2.Lo, .int .i64 e_2.Hi]]) (caps := []) en_97 rfl rfl rfl rfl (fun w hc => gauge_high_1_ok e_2 hc rfl)) fun a w hf hc => ?_
        refine stP hf rfl rfl rfl (pAdd rfl rfl) fun a hf => ?_
        refine stP hf rfl rfl rfl (pA rfl) fun a hf => ?_
        refine cNil ?_
        replace hc := hc.drop k0
        exact hj18 (W (all + (gauge_high_1 e_2))) _ _  (hf.keep ⟨rfl, rfl, rfl, rfl, rfl, rfl, rfl, rfl, rfl, rfl, rfl, rfl, trivial⟩) hc hF
      · replace hF := condF hb hF
        clear hb
        refine cReg ?_
        refine stP hf rfl rfl rfl (pM rfl) fun a hf => ?_
        refine stP hf rfl rfl rfl (pFA fa_120_0 rfl) fun a hf => ?_
        refine stE hf hc rfl rfl rfl (eLd1 sc_118 rfl (cell_box m2 rfl)) fun a w hf hc => ?_
        refine stE hf hc rfl rfl rfl (eLdN (vs := [.int .i64 e_2.Lo, .int .i64 e_2.Hi]) ag_24 rfl rfl (cells_box (n := 2) m0 rfl)) fun a w hf hc => ?_
        refine stE hf hc rfl rfl rfl (eC (v := .int .i64 (gauge_low_1 e_2)) (vs := [.agg #[.int .i64 e_2.Lo, .int .i64 e_2.Hi]]) (caps := []) en_98 rfl rfl rfl rfl (fun w hc => gauge_low_1_ok e_2 hc rfl)) fun a w hf hc => ?_
        refine stP hf rfl rfl rfl (pAdd rfl rfl) fun a hf => ?_
        refine stP hf rfl rfl rfl (pA rfl) fun a hf => ?_
        refine cNil ?_
        replace hc := hc.drop k0
        exact hj18 (W (all + (gauge_low_1 e_2))) _ _  (hf.keep ⟨rfl, rfl, rfl, rfl, rfl, rfl, rfl, rfl, rfl, rfl, rfl, rfl, trivial⟩) hc hF
    · replace hF := condF hb hF
      clear hb
      refine wp_exit ?_
      refine xThen ?_
      refine xThen ?_
      have he := Option.some.inj hF
      rw [← he] at hfin14
      refine cHit ?_
      exact hr14 _ _ _ hfin14 ⟨hf.keep ⟨rfl, rfl, rfl, rfl, rfl, rfl, rfl, rfl, rfl, rfl, rfl, rfl, trivial⟩, hc⟩
  · replace hF := condF hb hF
    clear hb
    refine wp_exit ?_
    refine xThen ?_
    refine xThen ?_
    have he := Option.some.inj hF
    rw [← he] at hfin5
    refine cHit ?_
    exact hr5 _ _ _ hfin5 ⟨p_1, c_1, hf.keep ⟨rfl, rfl, rfl, rfl, rfl, rfl, rfl, trivial⟩, hc⟩

def gauge_heavy_s2_j9 (N : Nat) (x : Int) (out_1 : List Int) : Option (Step ((List Int) × Int) ((List Int))) :=
  some (.cont (out_1, W (x + 1)))
def gauge_heavy_s2_j18 (N : Nat) (x_1 : Int) (all_1 : Int) : Option (Step (Int × Int) (Step ((List Int) × Int) ((List Int)))) :=
  some (.cont (all_1, W (x_1 + 1)))
def gauge_heavy_s2_b14 (N : Nat) (l : List api_Span) (x : Int) (all : Int) (x_1 : Int) : Option (Step (Int × Int) (Step ((List Int) × Int) ((List Int)))) :=
  cond (decide (x_1 < ((l.length : Nat) : Int)))
  (Option.bind (getI l x_1) fun e_2 =>
  cond (x_1 == x)
  (gauge_heavy_s2_j18 N x_1 (W (all + (gauge_low_1 e_2))))
  (gauge_heavy_s2_j18 N x_1 (W (all + (gauge_high_1 e_2)))))
  (some (.brk (all, x_1)))
def gauge_heavy_s2_b5 (N : Nat) (l : List api_Span) (permille : Int) (out : List Int) (x : Int) : Option (Step ((List Int) × Int) ((List Int))) :=
  cond (decide (x < ((l.length : Nat) : Int)))
  (Option.bind (loopO (fun s14 => gauge_heavy_s2_b14 N l x s14.1 s14.2) N (0, 0)) fun x14 =>
  exK x14 (fun s14 => Option.bind (getI l x) fun e_1 =>
  cond (decide ((W (permille * s14.1)) < (W (1000 * (gauge_low_1 e_1)))))
  (Option.bind (room ((out ++ [x])).length) fun un =>
  gauge_heavy_s2_j9 N x (out ++ [x]))
  (gauge_heavy_s2_j9 N x out)) some)
  (some (.brk (out, x)))
def gauge_heavy_s2 (N : Nat) (l : List api_Span) (permille : Int) : Option ((List Int)) :=
  Option.bind (loopO (fun s5 => gauge_heavy_s2_b5 N l permille s5.1 s5.2) N (([] : List Int), 0)) fun x5 =>
  exK x5 (fun s5 => some s5.1) some
theorem gauge_heavy_s2_ok {N : Nat} {G : Pers} {Lf : List Ent} {w : World} (l : List api_Span) (permille : Int) {l_p : Option Addr} {l_c : Nat} (h_l : Rd G 2 l_p l_c (l.map enc_api_Span)) (hc : Ctx G (Lf) w) {res : (List Int)} (hF : gauge_heavy_s2 N l permille = some res) : Calls Try.prog 63 #[.slice l_p l.length l_c, .int .i64 permille, .agg #[.func (.func 98) #[] #[]], .agg #[.func (.func 97) #[] #[]]] w (fun e w => ∃ (p'1 : Option Addr) (c'1 : Nat), e = .returned (.slice p'1 res.length c'1) ∧ Ctx G (.row p'1 c'1 (res.map encI_i64) 3 1 :: Lf) w) := by
  unfold gauge_heavy_s2 at hF
  refine fnIn (args := [.slice l_p l.length l_c, .int .i64 permille, .agg #[.func (.func 98) #[] #[]], .agg #[.func (.func 97) #[] #[]]]) Try.func63 rfl Try.ntmps63 rfl fun a hf => ?_
  refine wp_seq_k fun K1 h1 => ?_
  refine cReg ?_
  refine stBx (cs := [.func (.func 98) #[] #[]]) hf hc rfl rfl rfl rfl fun b_1 a w hf hc => ?_
  refine stBx (cs := [.func (.func 97) #[] #[]]) hf hc rfl rfl rfl rfl fun b_2 a w hf hc => ?_
  refine stP hf rfl rfl rfl (pA rfl) fun a hf => ?_
  refine cNil ?_
  refine h1 _ _ ?_
  refine wp_seq_k fun K2 h2 => ?_
  refine cReg ?_
  refine stP hf rfl rfl rfl (pA rfl) fun a hf => ?_
  refine cNil ?_
  refine h2 _ _ ?_
  refine wp_seq_k fun K3 h3 => ?_
  refine wp_seq_k fun K4 h4 => ?_
  refine cReg ?_
  refine stP hf rfl rfl rfl (pM rfl) fun a hf => ?_
  refine stP hf rfl rfl rfl (pLenS Try.underlying72 rfl) fun a hf => ?_
  refine stP hf rfl rfl rfl (pM rfl) fun a hf => ?_
  refine cNil ?_
  refine h4 _ _ ?_
  refine wp_block ?_
  obtain ⟨x5, hx5, hF⟩ := bnd_some hF
  let S5 : ((List Int) × Int) → Act → World → Prop := (fun (zz : (List Int) × Int) a w => ∃ (p_1 : Option Addr) (c_1 : Nat), Has 60 a [(0, .slice l_p l.length l_c), (1, .int .i64 permille), (6, .pointer (some ⟨b_1, 0, none⟩)), (7, .pointer (some ⟨b_2, 0, none⟩)), (9, .slice p_1 zz.1.length c_1), (15, .int .i64 ((l.length : Nat) : Int)), (16, .int .i64 zz.2)] ∧ Ctx G (.row p_1 c_1 (zz.1.map encI_i64) 3 1 :: .box b_2 [.func (.func 97) #[] #[]] 120 :: .box b_1 [.func (.func 98) #[] #[]] 120 :: Lf) w)
  have hr5 : ∀ (zz : (List Int) × Int) a w, x5 = .go zz → S5 zz a w → K3 a w := by
    rintro ⟨out, x⟩ a w rfl ⟨p_1, c_1, hf, hc⟩
    replace hF : _ = some res := hF
    refine h3 _ _ ?_
    refine wp_seq_k fun K6 h6 => ?_
    refine cReg ?_
    refine stP hf rfl rfl rfl (pM rfl) fun a hf => ?_
    refine stP hf rfl rfl rfl (pA rfl) fun a hf => ?_
    refine cNil ?_
    refine h6 _ _ ?_
    refine wp_ret ?_
    obtain rfl := Option.some.inj hF
    replace hc := hc.drop k2
    replace hc := hc.drop k1
    exact fnOut1 (by simp) rfl Try.results63 hf hc (show look _ 8 = _ from rfl) ⟨p_1, c_1, rfl, hc⟩
  have ho5 : ∀ r, x5 = .out r → r = res := by
    rintro r rfl
    exact Option.some.inj hF
  replace hc := hc.nilRow 3 1
  refine cLoop N (loopW (S := S5) (x := x5) ?_ N (([] : List Int), 0) _ _ ⟨none, 0, hf.keep ⟨rfl, rfl, rfl, rfl, rfl, rfl, rfl, trivial⟩, hc⟩ hx5)
  clear hF hf hc
  rintro ⟨out, x⟩ st5 a w KB5 ⟨p_1, c_1, hf, hc⟩ hF hfin5 hK5
  unfold gauge_heavy_s2_b5 at hF
  refine wp_seq_k fun K7 h7 => ?_
  refine cReg ?_
  refine stP hf rfl rfl rfl (pLt rfl rfl) fun a hf => ?_
  refine cNil ?_
  refine h7 _ _ ?_
  refine wp_seq_k fun K8 h8 => ?_
  refine cCond (b := (decide (x < ((l.length : Nat) : Int)))) hf rfl (fun hb => ?_) (fun hb => ?_)
  · replace hF := condT hb hF
    clear hb
    refine wp_skip ?_
    refine h8 _ _ ?_
    refine wp_seq_k fun K9 h9 => ?_
    have hj9 : ∀ (out_1 : List Int) (p_2 : Option Addr) (c_2 : Nat) a w, Has 60 a [(0, .slice l_p l.length l_c), (1, .int .i64 permille), (6, .pointer (some ⟨b_1, 0, none⟩)), (7, .pointer (some ⟨b_2, 0, none⟩)), (9, .slice p_2 out_1.length c_2), (15, .int .i64 ((l.length : Nat) : Int)), (16, .int .i64 x)] → Ctx G (.row p_2 c_2 (out_1.map encI_i64) 3 1 :: .box b_2 [.func (.func 97) #[] #[]] 120 :: .box b_1 [.func (.func 98) #[] #[]] 120 :: Lf) w → gauge_heavy_s2_j9 N x out_1 = some st5 → K9 a w := by
      intro out_1 p_2 c_2 a w hf hc hF
      unfold gauge_heavy_s2_j9 at hF
      refine h9 _ _ ?_
      refine cReg ?_
      refine stP hf rfl rfl rfl (pAdd rfl rfl) fun a hf => ?_
      refine stP hf rfl rfl rfl (pM rfl) fun a hf => ?_
      refine cNil ?_
      exact hK5 (out_1, W (x + 1)) _ _ (Option.some.inj hF).symm ⟨p_2, c_2, hf.keep ⟨rfl, rfl, rfl, rfl, rfl, rfl, rfl, trivial⟩, hc⟩
    refine wp_block ?_
    refine wp_seq_k fun K10 h10 => ?_
    refine cReg ?_
    refine stP hf rfl rfl rfl (pM rfl) fun a hf => ?_
    refine stP hf rfl rfl rfl (pA rfl) fun a hf => ?_
    refine cNil ?_
    refine h10 _ _ ?_
    refine wp_seq_k fun K11 h11 => ?_
    refine cReg ?_
    refine stP hf rfl rfl rfl (pA rfl) fun a hf => ?_
    refine cNil ?_
    refine h11 _ _ ?_
    refine wp_seq_k fun K12 h12 => ?_
    refine wp_seq_k fun K13 h13 => ?_
    refine cReg ?_
    refine stP hf rfl rfl rfl (pM rfl) fun a hf => ?_
    refine stP hf rfl rfl rfl (pLenS Try.underlying72 rfl) fun a hf => ?_
    refine stP hf rfl rfl rfl (pM rfl) fun a hf => ?_
    refine cNil ?_
    refine h13 _ _ ?_
    refine wp_block ?_
    obtain ⟨x14, hx14, hF⟩ := bnd_some hF
    let S14 : (Int × Int) → Act → World → Prop := (fun (zz : Int × Int) a w => Has 60 a [(0, .slice l_p l.length l_c), (1, .int .i64 permille), (6, .pointer (some ⟨b_1, 0, none⟩)), (7, .pointer (some ⟨b_2, 0, none⟩)), (9, .slice p_1 out.length c_1), (10, .int .i64 x), (11, .int .i64 zz.1), (15, .int .i64 ((l.length : Nat) : Int)), (16, .int .i64 x), (19, .slice l_p l.length l_c), (20, .int .i64 ((l.length : Nat) : Int)), (21, .int .i64 zz.2)] ∧ Ctx G (.row p_1 c_1 (out.map encI_i64) 3 1 :: .box b_2 [.func (.func 97) #[] #[]] 120 :: .box b_1 [.func (.func 98) #[] #[]] 120 :: Lf) w)
    have hr14 : ∀ (zz : Int × Int) a w, x14 = .go zz → S14 zz a w → K12 a w := by
      rintro ⟨all, x_1⟩ a w rfl ⟨hf, hc⟩
      replace hF : _ = some st5 := hF
      refine h12 _ _ ?_
      refine wp_seq_k fun K15 h15 => ?_
      obtain ⟨e_1, he_1, hF⟩ := bnd_some hF
      obtain ⟨b_3, o, ha, hp_1⟩ := h_l.atm he_1
      refine cQ hc follows_mx (by kernel_rfl) ?_
      refine qE hf rfl rfl rfl (Pu.ev (pFA fa_120_0 rfl)) fun a hf => ?_
      refine qE hf rfl rfl rfl (eLd1 sc_118 rfl (cell_box m2 rfl)) fun a hf => ?_
      refine qE hf rfl rfl rfl (Pu.ev (pM rfl)) fun a hf => ?_
      refine qE hf rfl rfl rfl (Pu.ev (pM rfl)) fun a hf => ?_
      refine qE hf rfl rfl rfl (Pu.ev (pIA Try.underlying72 sz_24 rfl rfl ha)) fun a hf => ?_
      refine qE hf rfl rfl rfl (eLdN (vs := [.int .i64 e_1.Lo, .int .i64 e_1.Hi]) ag_24 rfl rfl (cells_pc hp_1 (n := 2) (o' := 0) rfl)) fun a hf => ?_
      refine qE hf rfl rfl rfl (eC (v := .int .i64 (gauge_low_1 e_1)) (vs := [.agg #[.int .i64 e_1.Lo, .int .i64 e_1.Hi]]) (caps := []) en_98 rfl rfl rfl rfl (fun w hc => gauge_low_1_ok e_1 hc rfl)) fun a hf => ?_
      refine qE hf rfl rfl rfl (Pu.ev (pMul rfl rfl)) fun a hf => ?_
      refine qE hf rfl rfl rfl (Pu.ev (pM rfl)) fun a hf => ?_
      refine qE hf rfl rfl rfl (Pu.ev (pM rfl)) fun a hf => ?_
      refine qE hf rfl rfl rfl (Pu.ev (pMul rfl rfl)) fun a hf => ?_
      refine qE hf rfl rfl rfl (Pu.ev (pGt rfl rfl)) fun a hf => ?_
      intro w hc
      refine h15 _ _ ?_
      refine cCond (b := (decide ((W (permille * all)) < (W (1000 * (gauge_low_1 e_1)))))) hf rfl (fun hb => ?_) (fun hb => ?_)
      · replace hF := condT hb hF
        clear hb
        refine cReg ?_
        refine stP hf rfl rfl rfl (pM rfl) fun a hf => ?_
        refine stP hf rfl rfl rfl (pM rfl) fun a hf => ?_
        refine stBS (rows := ([x] : List Int).map encI_i64) (vs := [(0, .int .i64 x)]) hf hc rfl rfl sl_43 rfl ⟨rfl, rfl, rfl, trivial⟩ rfl rfl fun b_4 a w hf hc => ?_
        obtain ⟨un, hun, hF⟩ := bnd_some hF
        refine stApm (xs := out) (ys := ([x] : List Int)) hf hc rfl rfl sl_43 rfl rfl rfl rfl rfl one_encI_i64 (src_row hc m0) (fun _ _ => u1) (by simpa using room_spec hun) fun p_3 c_3 a w hf hc => ?_
        refine stP hf rfl rfl rfl (pA rfl) fun a hf => ?_
        refine cNil ?_
        replace hc := hc.drop k0
        exact hj9 (out ++ [x]) p_3 c_3 _ _  (hf.keep ⟨rfl, rfl, rfl, rfl, rfl, rfl, rfl, trivial⟩) hc hF
      · replace hF := condF hb hF
        clear hb
        refine wp_skip ?_
        exact hj9 out p_1 c_1 _ _  (hf.keep ⟨rfl, rfl, rfl, rfl, rfl, rfl, rfl, trivial⟩) hc hF
    have ho14 : ∀ r, x14 = .out r → r = st5 := by
      rintro r rfl
      exact Option.some.inj hF
    refine cLoop N (loopW (S := S14) (x := x14) ?_ N (0, 0) _ _ ⟨hf.keep ⟨rfl, rfl, rfl, rfl, rfl, rfl, rfl, rfl, rfl, rfl, rfl, rfl, trivial⟩, hc⟩ hx14)
    clear hF hf hc
    rintro ⟨all, x_1⟩ st14 a w KB14 ⟨hf, hc⟩ hF hfin14 hK14
    unfold gauge_heavy_s2_b14 at hF
    refine wp_seq_k fun K16 h16 => ?_
    refine cReg ?_
    refine stP hf rfl rfl rfl (pLt rfl rfl) fun a hf => ?_
    refine cNil ?_
    refine h16 _ _ ?_
    refine wp_seq_k fun K17 h17 => ?_
    refine cCond (b := (decide (x_1 < ((l.length : Nat) : Int)))) hf rfl (fun hb => ?_) (fun hb => ?_)
    · replace hF := condT hb hF
      clear hb
      refine wp_skip ?_
      refine h17 _ _ ?_
      refine wp_seq_k fun K18 h18 => ?_
      have hj18 : ∀ (all_1 : Int) a w, Has 60 a [(0, .slice l_p l.length l_c), (1, .int .i64 permille), (6, .pointer (some ⟨b_1, 0, none⟩)), (7, .pointer (some ⟨b_2, 0, none⟩)), (9, .slice p_1 out.length c_1), (10, .int .i64 x), (11, .int .i64 all_1), (15, .int .i64 ((l.length : Nat) : Int)), (16, .int .i64 x), (19, .slice l_p l.length l_c), (20, .int .i64 ((l.length : Nat) : Int)), (21, .int .i64 x_1)] → Ctx G (.row p_1 c_1 (out.map encI_i64) 3 1 :: .box b_2 [.func (.func 97) #[] #[]] 120 :: .box b_1 [.func (.func 98) #[] #[]] 120 :: Lf) w → gauge_heavy_s2_j18 N x_1 all_1 = some st14 → K18 a w := by
        intro all_1 a w hf hc hF
        unfold gauge_heavy_s2_j18 at hF
        refine h18 _ _ ?_
        refine cReg ?_
        refine stP hf rfl rfl rfl (pAdd rfl rfl) fun a hf => ?_
        refine stP hf rfl rfl rfl (pM rfl) fun a hf => ?_
        refine cNil ?_
        exact hK14 (all_1, W (x_1 + 1)) _ _ (Option.some.inj hF).symm ⟨hf.keep ⟨rfl, rfl, rfl, rfl, rfl, rfl, rfl, rfl, rfl, rfl, rfl, rfl, trivial⟩, hc⟩
      refine wp_block ?_
      refine wp_seq_k fun K19 h19 => ?_
      refine cReg ?_
      refine stP hf rfl rfl rfl (pM rfl) fun a hf => ?_
      obtain ⟨e_2, he_2, hF⟩ := bnd_some hF
      obtain ⟨b_5, o_1, ha_1, hp_2⟩ := h_l.atm he_2
      refine stP hf rfl rfl rfl (pIA Try.underlying72 sz_24 rfl rfl ha_1) fun a hf => ?_
      refine stE hf hc rfl rfl rfl (eLdN (vs := [.int .i64 e_2.Lo, .int .i64 e_2.Hi]) ag_24 rfl rfl (cells_pc hp_2 (n := 2) (o' := 0) rfl)) fun a w hf hc => ?_
      refine stAl (cs := [.int .i64 0, .int .i64 0]) hf hc rfl rfl zr_24 rfl fun b_6 a w hf hc => ?_
      refine stP hf rfl rfl rfl (pA rfl) fun a hf => ?_
      refine stSt (vs := [.int .i64 e_2.Lo, .int .i64 e_2.Hi]) hf hc rfl rfl rfl rfl sz_24 rfl rfl u0 fun w hc => ?_
      refine cNil ?_
      refine h19 _ _ ?_
      refine wp_seq_k fun K20 h20 => ?_
      refine cReg ?_
      refine stP hf rfl rfl rfl (pM rfl) fun a hf => ?_
      refine stP hf rfl rfl rfl (pM rfl) fun a hf => ?_
      refine stP hf rfl rfl rfl (pEq rfl rfl) fun a hf => ?_
      refine cNil ?_
      refine h20 _ _ ?_
      refine cCond (b := (x_1 == x)) hf rfl (fun hb => ?_) (fun hb => ?_)
      · replace hF := condT hb hF
        clear hb
        refine cReg ?_
        refine stP hf rfl rfl rfl (pM rfl) fun a hf => ?_
        refine stP hf rfl rfl rfl (pFA fa_120_0 rfl) fun a hf => ?_
        refine stE hf hc rfl rfl rfl (eLd1 sc_118 rfl (cell_box m3 rfl)) fun a w hf hc => ?_
        refine stE hf hc rfl rfl rfl (eLdN (vs := [.int .i64 e_2.Lo, .int .i64 e_2.Hi]) ag_24 rfl rfl (cells_box (n := 2) m0 rfl)) fun a w hf hc => ?_
        refine stE hf hc rfl rfl rfl (eC (v := .int .i64 (gauge_low_1 e_2)) (vs := [.agg #[.int .i64 e_2.Lo, .int .i64 e_2.Hi]]) (caps := []) en_98 rfl rfl rfl rfl (fun w hc => gauge_low_1_ok e_2 hc rfl)) fun a w hf hc => ?_
        refine stP hf rfl rfl rfl (pAdd rfl rfl) fun a hf => ?_
        refine stP hf rfl rfl rfl (pA rfl) fun a hf => ?_
        refine cNil ?_
        replace hc := hc.drop k0
        exact hj18 (W (all + (gauge_low_1 e_2))) _ _  (hf.keep ⟨rfl, rfl, rfl, rfl, rfl, rfl, rfl, rfl, rfl, rfl, rfl, rfl, trivial⟩) hc hF
      · replace hF := condF hb hF
        clear hb
        refine cReg ?_
        refine stP hf rfl rfl rfl (pM rfl) fun a hf => ?_
        refine stP hf rfl rfl rfl (pFA fa_120_0 rfl) fun a hf => ?_
        refine stE hf hc rfl rfl rfl (eLd1 sc_118 rfl (cell_box m2 rfl)) fun a w hf hc => ?_
        refine stE hf hc rfl rfl rfl (eLdN (vs := [.int .i64 e_2.Lo, .int .i64 e_2.Hi]) ag_24 rfl rfl (cells_box (n := 2) m0 rfl)) fun a w hf hc => ?_
        refine stE hf hc rfl rfl rfl (eC (v := .int .i64 (gauge_high_1 e_2)) (vs := [.agg #[.int .i64 e_2.Lo, .int .i64 e_2.Hi]]) (caps := []) en_97 rfl rfl rfl rfl (fun w hc => gauge_high_1_ok e_2 hc rfl)) fun a w hf hc => ?_
        refine stP hf rfl rfl rfl (pAdd rfl rfl) fun a hf => ?_
        refine stP hf rfl rfl rfl (pA rfl) fun a hf => ?_
        refine cNil ?_
        replace hc := hc.drop k0
        exact hj18 (W (all + (gauge_high_1 e_2))) _ _  (hf.keep ⟨rfl, rfl, rfl, rfl, rfl, rfl, rfl, rfl, rfl, rfl, rfl, rfl, trivial⟩) hc hF
    · replace hF := condF hb hF
      clear hb
      refine wp_exit ?_
      refine xThen ?_
      refine xThen ?_
      have he := Option.some.inj hF
      rw [← he] at hfin14
      refine cHit ?_
      exact hr14 _ _ _ hfin14 ⟨hf.keep ⟨rfl, rfl, rfl, rfl, rfl, rfl, rfl, rfl, rfl, rfl, rfl, rfl, trivial⟩, hc⟩
  · replace hF := condF hb hF
    clear hb
    refine wp_exit ?_
    refine xThen ?_
    refine xThen ?_
    have he := Option.some.inj hF
    rw [← he] at hfin5
    refine cHit ?_
    exact hr5 _ _ _ hfin5 ⟨p_1, c_1, hf.keep ⟨rfl, rfl, rfl, rfl, rfl, rfl, rfl, trivial⟩, hc⟩

def gauge_Heavy_j3 (N : Nat) (permille : Int) (r : (List api_Span) × Int) (e_1 : Int) : Option ((List Int) × (List Int) × Int) :=
  cond (e_1 != 0)
  (some (([] : List Int), ([] : List Int), e_1))
  (Option.bind (gauge_high N) fun r_1 =>
  Option.bind (gauge_low N) fun r_2 =>
  Option.bind (gauge_heavy N r.1 permille) fun r_3 =>
  Option.bind (gauge_low N) fun r_4 =>
  Option.bind (gauge_high N) fun r_5 =>
  Option.bind (gauge_heavy_s2 N r.1 permille) fun r_6 =>
  some (r_3, r_6, 0))
def gauge_Heavy (N : Nat) (g : gauge_Gauging) (permille : Int) : Option ((List Int) × (List Int) × Int) :=
  Option.bind (gauge_Panels N g) fun r =>
  cond ((r.2 == 0) && (!(gauge_in permille 0 1000)))
  (gauge_Heavy_j3 N permille r 4)
  (gauge_Heavy_j3 N permille r r.2)
theorem gauge_Heavy_ok {N : Nat} {G : Pers} {Lf : List Ent} {w : World} (g : gauge_Gauging) (permille : Int) {g_Verticals_p : Option Addr} {g_Verticals_c : Nat} (h_g_Verticals : Rd G 5 g_Verticals_p g_Verticals_c (g.Verticals.map enc_gauge_Vertical)) (hc : Ctx G (Lf) w) {res : (List Int) × (List Int) × Int} (hF : gauge_Heavy N g permille = some res) : Calls Try.prog 28 #[.agg #[.int .i64 g.Left, .int .i64 g.Right, .slice g_Verticals_p g.Verticals.length g_Verticals_c], .int .i64 permille] w (fun e w => ∃ (p'1 : Option Addr) (c'1 : Nat) (p'2 : Option Addr) (c'2 : Nat), e = .returned (.tuple #[.slice p'1 res.1.length c'1, .slice p'2 res.2.1.length c'2, .int .i64 res.2.2]) ∧ Ctx G (.row p'1 c'1 (res.1.map encI_i64) 3 1 :: .row p'2 c'2 (res.2.1.map encI_i64) 3 1 :: Lf) w) := by
  unfold gauge_Heavy at hF
  refine fnIn (args := [.agg #[.int .i64 g.Left, .int .i64 g.Right, .slice g_Verticals_p g.Verticals.length g_Verticals_c], .int .i64 permille]) Try.func28 rfl Try.ntmps28 rfl fun a hf => ?_
  refine wp_seq_k fun K1 h1 => ?_
  refine cReg ?_
  refine stBx (cs := [.int .i64 g.Left, .int .i64 g.Right, .slice g_Verticals_p g.Verticals.length g_Verticals_c]) hf hc rfl rfl rfl rfl fun b_1 a w hf hc => ?_
  refine stP hf rfl rfl rfl (pA rfl) fun a hf => ?_
  refine stP hf rfl rfl rfl (pA rfl) fun a hf => ?_
  refine stP hf rfl rfl rfl (pA rfl) fun a hf => ?_
  refine cNil ?_
  refine h1 _ _ ?_
  refine wp_seq_k fun K2 h2 => ?_
  refine cReg ?_
  refine stE hf hc rfl rfl rfl (eLdN (vs := [.int .i64 g.Left, .int .i64 g.Right, .slice g_Verticals_p g.Verticals.length g_Verticals_c]) ag_48 rfl rfl (cells_box (n := 3) m0 rfl)) fun a w hf hc => ?_
  obtain ⟨r, hr, hF⟩ := bnd_some hF
  refine stC (vs := [.agg #[.int .i64 g.Left, .int .i64 g.Right, .slice g_Verticals_p g.Verticals.length g_Verticals_c]]) (caps := []) hf rfl rfl rfl en_31 rfl rfl rfl rfl (gauge_Panels_ok g h_g_Verticals hc hr) ?_
  rintro _ w ⟨p_1, c_1, rfl, hc⟩
  refine ⟨_, rfl, fun a hf => ?_⟩
  refine stP hf rfl rfl rfl (pM rfl) fun a hf => ?_
  refine stP hf rfl rfl rfl (pX rfl rfl) fun a hf => ?_
  refine stP hf rfl rfl rfl (pX rfl rfl) fun a hf => ?_
  refine stP hf rfl rfl rfl (pA rfl) fun a hf => ?_
  refine stP hf rfl rfl rfl (pA rfl) fun a hf => ?_
  refine cNil ?_
  refine h2 _ _ ?_
  refine wp_seq_k fun K3 h3 => ?_
  have hj3 : ∀ (e_1 : Int) a w, Has 33 a [(1, .int .i64 permille), (6, .int .i64 e_1), (7, .slice p_1 r.1.length c_1)] → Ctx G (.row p_1 c_1 (r.1.map enc_api_Span) 24 2 :: Lf) w → gauge_Heavy_j3 N permille r e_1 = some res → K3 a w := by
    intro e_1 a w hf hc hF
    unfold gauge_Heavy_j3 at hF
    refine h3 _ _ ?_
    refine wp_seq_k fun K4 h4 => ?_
    refine wp_seq_k fun K5 h5 => ?_
    refine cReg ?_
    refine stP hf rfl rfl rfl (pM rfl) fun a hf => ?_
    refine stP hf rfl rfl rfl (pNe rfl rfl) fun a hf => ?_
    refine cNil ?_
    refine h5 _ _ ?_
    refine cCond (b := (e_1 != 0)) hf rfl (fun hb => ?_) (fun hb => ?_)
    · replace hF := condT hb hF
      clear hb
      refine wp_seq_k fun K6 h6 => ?_
      refine cReg ?_
      refine stP hf rfl rfl rfl (pM rfl) fun a hf => ?_
      refine stP hf rfl rfl rfl (pA rfl) fun a hf => ?_
      refine stP hf rfl rfl rfl (pA rfl) fun a hf => ?_
      refine stP hf rfl rfl rfl (pA rfl) fun a hf => ?_
      refine cNil ?_
      refine h6 _ _ ?_
      refine wp_ret ?_
      refine xThenR ?_
      obtain rfl := Option.some.inj hF
      replace hc := hc.nilRow 3 1
      replace hc := hc.nilRow 3 1
      replace hc := hc.drop k2
      replace hc := hc.pick k0
      replace hc := hc.pick k1
      exact fnOut3 (by simp) rfl Try.results28 hf hc (show look _ 4 = _ from rfl) (show look _ 5 = _ from rfl) (show look _ 6 = _ from rfl) ⟨none, 0, none, 0, rfl, hc⟩
    · replace hF := condF hb hF
      clear hb
      refine wp_skip ?_
      refine h4 _ _ ?_
      refine wp_seq_k fun K7 h7 => ?_
      refine cReg ?_
      refine stP hf rfl rfl rfl (pM rfl) fun a hf => ?_
      refine stP hf rfl rfl rfl (pM rfl) fun a hf => ?_
      obtain ⟨r_1, hr_1, hF⟩ := bnd_some hF
      refine stE hf hc rfl rfl rfl (eC (v := .agg #[.func (.func 97) #[] #[]]) (vs := []) (caps := []) en_64 rfl rfl rfl rfl (fun w hc => gauge_high_ok hc hr_1)) fun a w hf hc => ?_
      obtain ⟨r_2, hr_2, hF⟩ := bnd_some hF
      refine stE hf hc rfl rfl rfl (eC (v := .agg #[.func (.func 98) #[] #[]]) (vs := []) (caps := []) en_65 rfl rfl rfl rfl (fun w hc => gauge_low_ok hc hr_2)) fun a w hf hc => ?_
      obtain ⟨r_3, hr_3, hF⟩ := bnd_some hF
      obtain ⟨G1, hle1, hrd1, hc, hth1⟩ := lend hc k0
      refine stC (vs := [.slice p_1 r.1.length c_1, .int .i64 permille, .agg #[.func (.func 97) #[] #[]], .agg #[.func (.func 98) #[] #[]]]) (caps := []) hf rfl rfl rfl en_63 rfl rfl rfl rfl (gauge_heavy_ok r.1 permille hrd1 hc hr_3) ?_
      rintro _ w ⟨p_2, c_2, rfl, hc⟩
      refine ⟨_, rfl, fun a hf => ?_⟩
      replace hc := hth1 _ _ hc
      refine stP hf rfl rfl rfl (pM rfl) fun a hf => ?_
      refine stP hf rfl rfl rfl (pM rfl) fun a hf => ?_
      obtain ⟨r_4, hr_4, hF⟩ := bnd_some hF
      refine stE hf hc rfl rfl rfl (eC (v := .agg #[.func (.func 98) #[] #[]]) (vs := []) (caps := []) en_65 rfl rfl rfl rfl (fun w hc => gauge_low_ok hc hr_4)) fun a w hf hc => ?_
      obtain ⟨r_5, hr_5, hF⟩ := bnd_some hF
      refine stE hf hc rfl rfl rfl (eC (v := .agg #[.func (.func 97) #[] #[]]) (vs := []) (caps := []) en_64 rfl rfl rfl rfl (fun w hc => gauge_high_ok hc hr_5)) fun a w hf hc => ?_
      obtain ⟨r_6, hr_6, hF⟩ := bnd_some hF
      obtain ⟨G1, hle1, hrd1, hc, hth1⟩ := lend hc k0
      refine stC (vs := [.slice p_1 r.1.length c_1, .int .i64 permille, .agg #[.func (.func 98) #[] #[]], .agg #[.func (.func 97) #[] #[]]]) (caps := []) hf rfl rfl rfl en_63 rfl rfl rfl rfl (gauge_heavy_s2_ok r.1 permille hrd1 hc hr_6) ?_
      rintro _ w ⟨p_3, c_3, rfl, hc⟩
      refine ⟨_, rfl, fun a hf => ?_⟩
      replace hc := hth1 _ _ hc
      refine stP hf rfl rfl rfl (pA rfl) fun a hf => ?_
      refine stP hf rfl rfl rfl (pA rfl) fun a hf => ?_
      refine stP hf rfl rfl rfl (pA rfl) fun a hf => ?_
      refine cNil ?_
      refine h7 _ _ ?_
      refine wp_ret ?_
      obtain rfl := Option.some.inj hF
      replace hc := hc.drop k0
      replace hc := hc.pick k0
      replace hc := hc.pick k1
      exact fnOut3 (by simp) rfl Try.results28 hf hc (show look _ 4 = _ from rfl) (show look _ 5 = _ from rfl) (show look _ 6 = _ from rfl) ⟨p_2, c_2, p_3, c_3, rfl, hc⟩
  refine wp_seq_k fun K8 h8 => ?_
  refine cReg ?_
  refine stP hf rfl rfl rfl (pM rfl) fun a hf => ?_
  refine stP hf rfl rfl rfl (pEq rfl rfl) fun a hf => ?_
  refine stP hf rfl rfl rfl (pM rfl) fun a hf => ?_
  refine stCut 4 (fun a w => Has 33 a [(1, .int .i64 permille), (6, .int .i64 r.2), (7, .slice p_1 r.1.length c_1), (13, .int .i64 r.2), (14, .bool (r.2 == 0)), (15, .bool (r.2 == 0)), (19, .bool ((r.2 == 0) && (!(gauge_in permille 0 1000))))] ∧ Ctx G (.row p_1 c_1 (r.1.map enc_api_Span) 24 2 :: .box b_1 [.int .i64 g.Left, .int .i64 g.Right, .slice g_Verticals_p g.Verticals.length g_Verticals_c] 48 :: Lf) w) ?_ ?_
  · cases hb : (r.2 == 0)
    · rw [hb] at hf
      refine stS hf rfl rfl rfl fun a hf => ?_
      refine stS hf rfl rfl rfl fun a hf => ?_
      refine stS hf rfl rfl rfl fun a hf => ?_
      refine stP hf rfl rfl rfl (pPf rfl rfl) fun a hf => ?_
      exact cNil ⟨hf.keep ⟨rfl, rfl, rfl, rfl, rfl, rfl, rfl, trivial⟩, hc⟩
    · rw [hb] at hf
      refine stP hf rfl rfl rfl (pM rfl) fun a hf => ?_
      refine stE hf hc rfl rfl rfl (eC (v := .bool (gauge_in permille 0 1000)) (vs := [.int .i64 permille, .int .i64 0, .int .i64 1000]) (caps := []) en_55 rfl rfl rfl rfl (fun w hc => gauge_in_ok permille 0 1000 hc rfl)) fun a w hf hc => ?_
      refine stP hf rfl rfl rfl (pNot rfl) fun a hf => ?_
      refine stP hf rfl rfl rfl (pPt rfl rfl) fun a hf => ?_
      exact cNil ⟨hf.keep ⟨rfl, rfl, rfl, rfl, rfl, rfl, rfl, trivial⟩, hc⟩
  intro a w ⟨hf, hc⟩
  refine cNil ?_
  refine h8 _ _ ?_
  refine cCond (b := ((r.2 == 0) && (!(gauge_in permille 0 1000)))) hf rfl (fun hb => ?_) (fun hb => ?_)
  · replace hF := condT hb hF
    clear hb
    refine cReg ?_
    refine stP hf rfl rfl rfl (pA rfl) fun a hf => ?_
    refine cNil ?_
    replace hc := hc.drop k1
    exact hj3 4 _ _  (hf.keep ⟨rfl, rfl, rfl, trivial⟩) hc hF
  · replace hF := condF hb hF
    clear hb
    refine wp_skip ?_
    replace hc := hc.drop k1
    exact hj3 r.2 _ _  (hf.keep ⟨rfl, rfl, rfl, trivial⟩) hc hF

def gauge_Cross_1 (g : gauge_Leg) : Bool :=
  (((((gauge_right g.X (-10000) 10000) && (gauge_right g.Y (-10000) 10000)) && (gauge_right g.Depth 0 2000)) && (gauge_right g.East (-5000) 5000)) && (gauge_right g.North (-5000) 5000))
theorem gauge_Cross_1_ok {G : Pers} {Lf : List Ent} {w : World} (g : gauge_Leg)   (hc : Ctx G (Lf) w) {res : Bool} (hF : gauge_Cross_1 g = res) : Calls Try.prog 57 #[.agg #[.int .i64 g.X.Lo, .int .i64 g.X.Hi, .int .i64 g.Y.Lo, .int .i64 g.Y.Hi, .int .i64 g.Depth.Lo, .int .i64 g.Depth.Hi, .int .i64 g.East.Lo, .int .i64 g.East.Hi, .int .i64 g.North.Lo, .int .i64 g.North.Hi]] w (fun e w => e = .returned (.bool res) ∧ Ctx G (Lf) w) := by
  unfold gauge_Cross_1 at hF
  refine fnIn (args := [.agg #[.int .i64 g.X.Lo, .int .i64 g.X.Hi, .int .i64 g.Y.Lo, .int .i64 g.Y.Hi, .int .i64 g.Depth.Lo, .int .i64 g.Depth.Hi, .int .i64 g.East.Lo, .int .i64 g.East.Hi, .int .i64 g.North.Lo, .int .i64 g.North.Hi]]) Try.func57 rfl Try.ntmps57 rfl fun a hf => ?_
  refine wp_seq_k fun K1 h1 => ?_
  refine cReg ?_
  refine stBx (cs := [.int .i64 g.X.Lo, .int .i64 g.X.Hi, .int .i64 g.Y.Lo, .int .i64 g.Y.Hi, .int .i64 g.Depth.Lo, .int .i64 g.Depth.Hi, .int .i64 g.East.Lo, .int .i64 g.East.Hi, .int .i64 g.North.Lo, .int .i64 g.North.Hi]) hf hc rfl rfl rfl rfl fun b_1 a w hf hc => ?_
  refine stP hf rfl rfl rfl (pA rfl) fun a hf => ?_
  refine cNil ?_
  refine h1 _ _ ?_
  refine wp_seq_k fun K2 h2 => ?_
  refine cReg ?_
  refine stP hf rfl rfl rfl (pFA fa_40_0 rfl) fun a hf => ?_
  refine stE hf hc rfl rfl rfl (eLdN (vs := [.int .i64 g.X.Lo, .int .i64 g.X.Hi]) ag_24 rfl rfl (cells_box (n := 2) m0 rfl)) fun a w hf hc => ?_
  refine stE hf hc rfl rfl rfl (eC (v := .bool (gauge_right g.X (-10000) 10000)) (vs := [.agg #[.int .i64 g.X.Lo, .int .i64 g.X.Hi], .int .i64 (-10000), .int .i64 10000]) (caps := []) en_52 rfl rfl rfl rfl (fun w hc => gauge_right_ok g.X (-10000) 10000 hc rfl)) fun a w hf hc => ?_
  refine stP hf rfl rfl rfl (pM rfl) fun a hf => ?_
  refine stCut 4 (fun a w => Has 26 a [(1, .pointer (some ⟨b_1, 0, none⟩)), (2, .bool false), (3, .pointer (some ⟨b_1, 0, none⟩)), (4, .agg #[.int .i64 g.X.Lo, .int .i64 g.X.Hi]), (5, .bool (gauge_right g.X (-10000) 10000)), (6, .bool (gauge_right g.X (-10000) 10000)), (10, .bool ((gauge_right g.X (-10000) 10000) && (gauge_right g.Y (-10000) 10000)))] ∧ Ctx G (.box b_1 [.int .i64 g.X.Lo, .int .i64 g.X.Hi, .int .i64 g.Y.Lo, .int .i64 g.Y.Hi, .int .i64 g.Depth.Lo, .int .i64 g.Depth.Hi, .int .i64 g.East.Lo, .int .i64 g.East.Hi, .int .i64 g.North.Lo, .int .i64 g.North.Hi] 40 :: Lf) w) ?_ ?_
  · cases hb : (gauge_right g.X (-10000) 10000)
    · rw [hb] at hf
      refine stS hf rfl rfl rfl fun a hf => ?_
      refine stS hf rfl rfl rfl fun a hf => ?_
      refine stS hf rfl rfl rfl fun a hf => ?_
      refine stP hf rfl rfl rfl (pPf rfl rfl) fun a hf => ?_
      exact cNil ⟨hf.keep ⟨rfl, rfl, rfl, rfl, rfl, rfl, rfl, trivial⟩, hc⟩
    · rw [hb] at hf
      refine stP hf rfl rfl rfl (pFA fa_40_1 rfl) fun a hf => ?_
      refine stE hf hc rfl rfl rfl (eLdN (vs := [.int .i64 g.Y.Lo, .int .i64 g.Y.Hi]) ag_24 rfl rfl (cells_box (n := 2) m0 rfl)) fun a w hf hc => ?_
      refine stE hf hc rfl rfl rfl (eC (v := .bool (gauge_right g.Y (-10000) 10000)) (vs := [.agg #[.int .i64 g.Y.Lo, .int .i64 g.Y.Hi], .int .i64 (-10000), .int .i64 10000]) (caps := []) en_52 rfl rfl rfl rfl (fun w hc => gauge_right_ok g.Y (-10000) 10000 hc rfl)) fun a w hf hc => ?_
      refine stP hf rfl rfl rfl (pPt rfl rfl) fun a hf => ?_
      exact cNil ⟨hf.keep ⟨rfl, rfl, rfl, rfl, rfl, rfl, rfl, trivial⟩, hc⟩
  intro a w ⟨hf, hc⟩
  refine stP hf rfl rfl rfl (pM rfl) fun a hf => ?_
  refine stCut 4 (fun a w => Has 26 a [(1, .pointer (some ⟨b_1, 0, none⟩)), (2, .bool false), (3, .pointer (some ⟨b_1, 0, none⟩)), (4, .agg #[.int .i64 g.X.Lo, .int .i64 g.X.Hi]), (5, .bool (gauge_right g.X (-10000) 10000)), (6, .bool (gauge_right g.X (-10000) 10000)), (10, .bool ((gauge_right g.X (-10000) 10000) && (gauge_right g.Y (-10000) 10000))), (11, .bool ((gauge_right g.X (-10000) 10000) && (gauge_right g.Y (-10000) 10000))), (15, .bool (((gauge_right g.X (-10000) 10000) && (gauge_right g.Y (-10000) 10000)) && (gauge_right g.Depth 0 2000)))] ∧ Ctx G (.box b_1 [.int .i64 g.X.Lo, .int .i64 g.X.Hi, .int .i64 g.Y.Lo, .int .i64 g.Y.Hi, .int .i64 g.Depth.Lo, .int .i64 g.Depth.Hi, .int .i64 g.East.Lo, .int .i64 g.East.Hi, .int .i64 g.North.Lo, .int .i64 g.North.Hi] 40 :: Lf) w) ?_ ?_
  · cases hb : ((gauge_right g.X (-10000) 10000) && (gauge_right g.Y (-10000) 10000))
    · rw [hb] at hf
      refine stS hf rfl rfl rfl fun a hf => ?_
      refine stS hf rfl rfl rfl fun a hf => ?_
      refine stS hf rfl rfl rfl fun a hf => ?_
      refine stP hf rfl rfl rfl (pPf rfl rfl) fun a hf => ?_
      exact cNil ⟨hf.keep ⟨rfl, rfl, rfl, rfl, rfl, rfl, rfl, rfl, rfl, trivial⟩, hc⟩
    · rw [hb] at hf
      refine stP hf rfl rfl rfl (pFA fa_40_2 rfl) fun a hf => ?_
      refine stE hf hc rfl rfl rfl (eLdN (vs := [.int .i64 g.Depth.Lo, .int .i64 g.Depth.Hi]) ag_24 rfl rfl (cells_box (n := 2) m0 rfl)) fun a w hf hc => ?_
      refine stE hf hc rfl rfl rfl (eC (v := .bool (gauge_right g.Depth 0 2000)) (vs := [.agg #[.int .i64 g.Depth.Lo, .int .i64 g.Depth.Hi], .int .i64 0, .int .i64 2000]) (caps := []) en_52 rfl rfl rfl rfl (fun w hc => gauge_right_ok g.Depth 0 2000 hc rfl)) fun a w hf hc => ?_
      refine stP hf rfl rfl rfl (pPt rfl rfl) fun a hf => ?_
      exact cNil ⟨hf.keep ⟨rfl, rfl, rfl, rfl, rfl, rfl, rfl, rfl, rfl, trivial⟩, hc⟩
  intro a w ⟨hf, hc⟩
  refine stP hf rfl rfl rfl (pM rfl) fun a hf => ?_
  refine stCut 4 (fun a w => Has 26 a [(1, .pointer (some ⟨b_1, 0, none⟩)), (2, .bool false), (3, .pointer (some ⟨b_1, 0, none⟩)), (4, .agg #[.int .i64 g.X.Lo, .int .i64 g.X.Hi]), (5, .bool (gauge_right g.X (-10000) 10000)), (6, .bool (gauge_right g.X (-10000) 10000)), (10, .bool ((gauge_right g.X (-10000) 10000) && (gauge_right g.Y (-10000) 10000))), (11, .bool ((gauge_right g.X (-10000) 10000) && (gauge_right g.Y (-10000) 10000))), (15, .bool (((gauge_right g.X (-10000) 10000) && (gauge_right g.Y (-10000) 10000)) && (gauge_right g.Depth 0 2000))), (16, .bool (((gauge_right g.X (-10000) 10000) && (gauge_right g.Y (-10000) 10000)) && (gauge_right g.Depth 0 2000))), (20, .bool ((((gauge_right g.X (-10000) 10000) && (gauge_right g.Y (-10000) 10000)) && (gauge_right g.Depth 0 2000)) && (gauge_right g.East (-5000) 5000)))] ∧ Ctx G (.box b_1 [.int .i64 g.X.Lo, .int .i64 g.X.Hi, .int .i64 g.Y.Lo, .int .i64 g.Y.Hi, .int .i64 g.Depth.Lo, .int .i64 g.Depth.Hi, .int .i64 g.East.Lo, .int .i64 g.East.Hi, .int .i64 g.North.Lo, .int .i64 g.North.Hi] 40 :: Lf) w) ?_ ?_
  · cases hb : (((gauge_right g.X (-10000) 10000) && (gauge_right g.Y (-10000) 10000)) && (gauge_right g.Depth 0 2000))
    · rw [hb] at hf
      refine stS hf rfl rfl rfl fun a hf => ?_
      refine stS hf rfl rfl rfl fun a hf => ?_
      refine stS hf rfl rfl rfl fun a hf => ?_
      refine stP hf rfl rfl rfl (pPf rfl rfl) fun a hf => ?_
      exact cNil ⟨hf.keep ⟨rfl, rfl, rfl, rfl, rfl, rfl, rfl, rfl, rfl, rfl, rfl, trivial⟩, hc⟩
    · rw [hb] at hf
      refine stP hf rfl rfl rfl (pFA fa_40_3 rfl) fun a hf => ?_
      refine stE hf hc rfl rfl rfl (eLdN (vs := [.int .i64 g.East.Lo, .int .i64 g.East.Hi]) ag_24 rfl rfl (cells_box (n := 2) m0 rfl)) fun a w hf hc => ?_
      refine stE hf hc rfl rfl rfl (eC (v := .bool (gauge_right g.East (-5000) 5000)) (vs := [.agg #[.int .i64 g.East.Lo, .int .i64 g.East.Hi], .int .i64 (-5000), .int .i64 5000]) (caps := []) en_52 rfl rfl rfl rfl (fun w hc => gauge_right_ok g.East (-5000) 5000 hc rfl)) fun a w hf hc => ?_
      refine stP hf rfl rfl rfl (pPt rfl rfl) fun a hf => ?_
      exact cNil ⟨hf.keep ⟨rfl, rfl, rfl, rfl, rfl, rfl, rfl, rfl, rfl, rfl, rfl, trivial⟩, hc⟩
  intro a w ⟨hf, hc⟩
  refine stP hf rfl rfl rfl (pM rfl) fun a hf => ?_
  refine stCut 4 (fun a w => Has 26 a [(1, .pointer (some ⟨b_1, 0, none⟩)), (2, .bool false), (3, .pointer (some ⟨b_1, 0, none⟩)), (4, .agg #[.int .i64 g.X.Lo, .int .i64 g.X.Hi]), (5, .bool (gauge_right g.X (-10000) 10000)), (6, .bool (gauge_right g.X (-10000) 10000)), (10, .bool ((gauge_right g.X (-10000) 10000) && (gauge_right g.Y (-10000) 10000))), (11, .bool ((gauge_right g.X (-10000) 10000) && (gauge_right g.Y (-10000) 10000))), (15, .bool (((gauge_right g.X (-10000) 10000) && (gauge_right g.Y (-10000) 10000)) && (gauge_right g.Depth 0 2000))), (16, .bool (((gauge_right g.X (-10000) 10000) && (gauge_right g.Y (-10000) 10000)) && (gauge_right g.Depth 0 2000))), (20, .bool ((((gauge_right g.X (-10000) 10000) && (gauge_right g.Y (-10000) 10000)) && (gauge_right g.Depth 0 2000)) && (gauge_right g.East (-5000) 5000))), (21, .bool ((((gauge_right g.X (-10000) 10000) && (gauge_right g.Y (-10000) 10000)) && (gauge_right g.Depth 0 2000)) && (gauge_right g.East (-5000) 5000))), (25, .bool (((((gauge_right g.X (-10000) 10000) && (gauge_right g.Y (-10000) 10000)) && (gauge_right g.Depth 0 2000)) && (gauge_right g.East (-5000) 5000)) && (gauge_right g.North (-5000) 5000)))] ∧ Ctx G (.box b_1 [.int .i64 g.X.Lo, .int .i64 g.X.Hi, .int .i64 g.Y.Lo, .int .i64 g.Y.Hi, .int .i64 g.Depth.Lo, .int .i64 g.Depth.Hi, .int .i64 g.East.Lo, .int .i64 g.East.Hi, .int .i64 g.North.Lo, .int .i64 g.North.Hi] 40 :: Lf) w) ?_ ?_
  · cases hb : ((((gauge_right g.X (-10000) 10000) && (gauge_right g.Y (-10000) 10000)) && (gauge_right g.Depth 0 2000)) && (gauge_right g.East (-5000) 5000))
    · rw [hb] at hf
      refine stS hf rfl rfl rfl fun a hf => ?_
      refine stS hf rfl rfl rfl fun a hf => ?_
      refine stS hf rfl rfl rfl fun a hf => ?_
      refine stP hf rfl rfl rfl (pPf rfl rfl) fun a hf => ?_
      exact cNil ⟨hf.keep ⟨rfl, rfl, rfl, rfl, rfl, rfl, rfl, rfl, rfl, rfl, rfl, rfl, rfl, trivial⟩, hc⟩
    · rw [hb] at hf
      refine stP hf rfl rfl rfl (pFA fa_40_4 rfl) fun a hf => ?_
      refine stE hf hc rfl rfl rfl (eLdN (vs := [.int .i64 g.North.Lo, .int .i64 g.North.Hi]) ag_24 rfl rfl (cells_box (n := 2) m0 rfl)) fun a w hf hc => ?_
      refine stE hf hc rfl rfl rfl (eC (v := .bool (gauge_right g.North (-5000) 5000)) (vs := [.agg #[.int .i64 g.North.Lo, .int .i64 g.North.Hi], .int .i64 (-5000), .int .i64 5000]) (caps := []) en_52 rfl rfl rfl rfl (fun w hc => gauge_right_ok g.North (-5000) 5000 hc rfl)) fun a w hf hc => ?_
      refine stP hf rfl rfl rfl (pPt rfl rfl) fun a hf => ?_
      exact cNil ⟨hf.keep ⟨rfl, rfl, rfl, rfl, rfl, rfl, rfl, rfl, rfl, rfl, rfl, rfl, rfl, trivial⟩, hc⟩
  intro a w ⟨hf, hc⟩
  refine stP hf rfl rfl rfl (pA rfl) fun a hf => ?_
  refine cNil ?_
  refine h2 _ _ ?_
  refine wp_ret ?_
  obtain rfl := hF
  replace hc := hc.drop k0
  exact fnOut1 (by simp) rfl Try.results57 hf hc (show look _ 2 = _ from rfl) ⟨rfl, hc⟩

def gauge_every_gauge_Leg_1 (x : gauge_Leg) : Bool :=
  (!(gauge_Cross_1 x))
theorem gauge_every_gauge_Leg_1_ok {G : Pers} {Lf : List Ent} {w : World} (x : gauge_Leg) {b_ : Nat}  (hc : Ctx G (.box b_ [.func (.func 57) #[] #[]] 112 :: Lf) w) {res : Bool} (hF : gauge_every_gauge_Leg_1 x = res) : Calls Try.prog 96 #[.agg #[.int .i64 x.X.Lo, .int .i64 x.X.Hi, .int .i64 x.Y.Lo, .int .i64 x.Y.Hi, .int .i64 x.Depth.Lo, .int .i64 x.Depth.Hi, .int .i64 x.East.Lo, .int .i64 x.East.Hi, .int .i64 x.North.Lo, .int .i64 x.North.Hi], .pointer (some ⟨b_, 0, none⟩)] w (fun e w => e = .returned (.bool res) ∧ Ctx G (.box b_ [.func (.func 57) #[] #[]] 112 :: Lf) w) := by
  unfold gauge_every_gauge_Leg_1 at hF
  refine fnIn (args := [.agg #[.int .i64 x.X.Lo, .int .i64 x.X.Hi, .int .i64 x.Y.Lo, .int .i64 x.Y.Hi, .int .i64 x.Depth.Lo, .int .i64 x.Depth.Hi, .int .i64 x.East.Lo, .int .i64 x.East.Hi, .int .i64 x.North.Lo, .int .i64 x.North.Hi], .pointer (some ⟨b_, 0, none⟩)]) Try.func96 rfl Try.ntmps96 rfl fun a hf => ?_
  refine wp_seq_k fun K1 h1 => ?_
  refine cReg ?_
  refine stBx (cs := [.int .i64 x.X.Lo, .int .i64 x.X.Hi, .int .i64 x.Y.Lo, .int .i64 x.Y.Hi, .int .i64 x.Depth.Lo, .int .i64 x.Depth.Hi, .int .i64 x.East.Lo, .int .i64 x.East.Hi, .int .i64 x.North.Lo, .int .i64 x.North.Hi]) hf hc rfl rfl rfl rfl fun b_1 a w hf hc => ?_
  refine stP hf rfl rfl rfl (pA rfl) fun a hf => ?_
  refine cNil ?_
  refine h1 _ _ ?_
  refine wp_seq_k fun K2 h2 => ?_
  refine cReg ?_
  refine stE hf hc rfl rfl rfl (eLd1 sc_112 rfl (cell_box m1 rfl)) fun a w hf hc => ?_
  refine stE hf hc rfl rfl rfl (eLdN (vs := [.int .i64 x.X.Lo, .int .i64 x.X.Hi, .int .i64 x.Y.Lo, .int .i64 x.Y.Hi, .int .i64 x.Depth.Lo, .int .i64 x.Depth.Hi, .int .i64 x.East.Lo, .int .i64 x.East.Hi, .int .i64 x.North.Lo, .int .i64 x.North.Hi]) ag_40 rfl rfl (cells_box (n := 10) m0 rfl)) fun a w hf hc => ?_
  refine stE hf hc rfl rfl rfl (eC (v := .bool (gauge_Cross_1 x)) (vs := [.agg #[.int .i64 x.X.Lo, .int .i64 x.X.Hi, .int .i64 x.Y.Lo, .int .i64 x.Y.Hi, .int .i64 x.Depth.Lo, .int .i64 x.Depth.Hi, .int .i64 x.East.Lo, .int .i64 x.East.Hi, .int .i64 x.North.Lo, .int .i64 x.North.Hi]]) (caps := []) en_57 rfl rfl rfl rfl (fun w hc => gauge_Cross_1_ok x hc rfl)) fun a w hf hc => ?_
  refine stP hf rfl rfl rfl (pNot rfl) fun a hf => ?_
  refine stP hf rfl rfl rfl (pA rfl) fun a hf => ?_
  refine cNil ?_
  refine h2 _ _ ?_
  refine wp_ret ?_
  obtain rfl := hF
  replace hc := hc.drop k0
  exact fnOut1 (by simp) rfl Try.results96 hf hc (show look _ 3 = _ from rfl) ⟨rfl, hc⟩

def slices_IndexFunc_Lgauge_Leg_gauge_Leg_b4 (N : Nat) (s_ : List gauge_Leg) (x : Int) : Option (Step (Int) (Int)) :=
  cond (decide (x < ((s_.length : Nat) : Int)))
  (Option.bind (getI s_ x) fun e_1 =>
  cond (gauge_every_gauge_Leg_1 e_1)
  (some (.ret x))
  (some (.cont (W (x + 1)))))
  (some (.brk x))
def slices_IndexFunc_Lgauge_Leg_gauge_Leg (N : Nat) (s_ : List gauge_Leg) : Option (Int) :=
  Option.bind (loopO (fun s4 => slices_IndexFunc_Lgauge_Leg_gauge_Leg_b4 N s_ s4) N 0) fun x4 =>
  exK x4 (fun s4 => some (-1)) some
theorem slices_IndexFunc_Lgauge_Leg_gauge_Leg_ok {N : Nat} {G : Pers} {Lf : List Ent} {w : World} (s_ : List gauge_Leg) {s__p : Option Addr} {s__c : Nat} {b_ : Nat} (h_s_ : Rd G 10 s__p s__c (s_.map enc_gauge_Leg)) (hc : Ctx G (.box b_ [.func (.func 57) #[] #[]] 112 :: Lf) w) {res : Int} (hF : slices_IndexFunc_Lgauge_Leg_gauge_Leg N s_ = some res) : Calls Try.prog 112 #[.slice s__p s_.length s__c, .func (.func 96) #[] #[.pointer (some ⟨b_, 0, none⟩)]] w (fun e w => e = .returned (.int .i64 res) ∧ Ctx G (.box b_ [.func (.func 57) #[] #[]] 112 :: Lf) w) := by
  unfold slices_IndexFunc_Lgauge_Leg_gauge_Leg at hF
  refine fnIn (args := [.slice s__p s_.length s__c, .func (.func 96) #[] #[.pointer (some ⟨b_, 0, none⟩)]]) Try.func112 rfl Try.ntmps112 rfl fun a hf => ?_
  refine wp_seq_k fun K1 h1 => ?_
  refine cReg ?_
  refine stP hf rfl rfl rfl (pA rfl) fun a hf => ?_
  refine cNil ?_
  refine h1 _ _ ?_
  refine wp_seq_k fun K2 h2 => ?_
  refine wp_seq_k fun K3 h3 => ?_
  refine cReg ?_
  refine stP hf rfl rfl rfl (pM rfl) fun a hf => ?_
  refine stP hf rfl rfl rfl (pLenS Try.underlying38 rfl) fun a hf => ?_
  refine stP hf rfl rfl rfl (pM rfl) fun a hf => ?_
  refine cNil ?_
  refine h3 _ _ ?_
  refine wp_block ?_
  obtain ⟨x4, hx4, hF⟩ := bnd_some hF
  let S4 : Int → Act → World → Prop := (fun (zz : Int) a w => Has 19 a [(0, .slice s__p s_.length s__c), (1, .func (.func 96) #[] #[.pointer (some ⟨b_, 0, none⟩)]), (7, .int .i64 ((s_.length : Nat) : Int)), (8, .int .i64 zz)] ∧ Ctx G (.box b_ [.func (.func 57) #[] #[]] 112 :: Lf) w)
  have hr4 : ∀ (zz : Int) a w, x4 = .go zz → S4 zz a w → K2 a w := by
    rintro x a w rfl ⟨hf, hc⟩
    replace hF : _ = some res := hF
    refine h2 _ _ ?_
    refine wp_seq_k fun K5 h5 => ?_
    refine cReg ?_
    refine stP hf rfl rfl rfl (pA rfl) fun a hf => ?_
    refine cNil ?_
    refine h5 _ _ ?_
    refine wp_ret ?_
    obtain rfl := Option.some.inj hF
    exact fnOut1 (by simp) rfl Try.results112 hf hc (show look _ 4 = _ from rfl) ⟨rfl, hc⟩
  have ho4 : ∀ r, x4 = .out r → r = res := by
    rintro r rfl
    exact Option.some.inj hF
  refine cLoop N (loopW (S := S4) (x := x4) ?_ N 0 _ _ ⟨hf.keep ⟨rfl, rfl, rfl, rfl, trivial⟩, hc⟩ hx4)
  clear hF hf hc
  rintro x st4 a w KB4 ⟨hf, hc⟩ hF hfin4 hK4
  unfold slices_IndexFunc_Lgauge_Leg_gauge_Leg_b4 at hF
  refine wp_seq_k fun K6 h6 => ?_
  refine cReg ?_
  refine stP hf rfl rfl rfl (pLt rfl rfl) fun a hf => ?_
  refine cNil ?_
  refine h6 _ _ ?_
  refine wp_seq_k fun K7 h7 => ?_
  refine cCond (b := (decide (x < ((s_.length : Nat) : Int)))) hf rfl (fun hb => ?_) (fun hb => ?_)
  · replace hF := condT hb hF
    clear hb
    refine wp_skip ?_
    refine h7 _ _ ?_
    refine wp_seq_k fun K8 h8 => ?_
    refine wp_block ?_
    refine wp_seq_k fun K9 h9 => ?_
    refine cReg ?_
    refine stP hf rfl rfl rfl (pM rfl) fun a hf => ?_
    refine stP hf rfl rfl rfl (pA rfl) fun a hf => ?_
    refine cNil ?_
    refine h9 _ _ ?_
    refine wp_seq_k fun K10 h10 => ?_
    refine cReg ?_
    refine stP hf rfl rfl rfl (pM rfl) fun a hf => ?_
    refine stP hf rfl rfl rfl (pM rfl) fun a hf => ?_
    refine stP hf rfl rfl rfl (pM rfl) fun a hf => ?_
    obtain ⟨e_1, he_1, hF⟩ := bnd_some hF
    obtain ⟨b_1, o, ha, hp_1⟩ := h_s_.atm he_1
    refine stP hf rfl rfl rfl (pIA Try.underlying38 sz_40 rfl rfl ha) fun a hf => ?_
    refine stE hf hc rfl rfl rfl (eLdN (vs := [.int .i64 e_1.X.Lo, .int .i64 e_1.X.Hi, .int .i64 e_1.Y.Lo, .int .i64 e_1.Y.Hi, .int .i64 e_1.Depth.Lo, .int .i64 e_1.Depth.Hi, .int .i64 e_1.East.Lo, .int .i64 e_1.East.Hi, .int .i64 e_1.North.Lo, .int .i64 e_1.North.Hi]) ag_40 rfl rfl (cells_pc hp_1 (n := 10) (o' := 0) rfl)) fun a w hf hc => ?_
    refine stE hf hc rfl rfl rfl (eC (v := .bool (gauge_every_gauge_Leg_1 e_1)) (vs := [.agg #[.int .i64 e_1.X.Lo, .int .i64 e_1.X.Hi, .int .i64 e_1.Y.Lo, .int .i64 e_1.Y.Hi, .int .i64 e_1.Depth.Lo, .int .i64 e_1.Depth.Hi, .int .i64 e_1.East.Lo, .int .i64 e_1.East.Hi, .int .i64 e_1.North.Lo, .int .i64 e_1.North.Hi]]) (caps := [.pointer (some ⟨b_, 0, none⟩)]) en_96 rfl rfl rfl rfl (fun w hc => (gauge_every_gauge_Leg_1_ok e_1 (hc.pick k0) rfl).mono fun e w h => ⟨h.1, (h.2.unpick k0)⟩)) fun a w hf hc => ?_
    refine cNil ?_
    refine h10 _ _ ?_
    refine cCond (b := (gauge_every_gauge_Leg_1 e_1)) hf rfl (fun hb => ?_) (fun hb => ?_)
    · replace hF := condT hb hF
      clear hb
      refine wp_seq_k fun K11 h11 => ?_
      refine cReg ?_
      refine stP hf rfl rfl rfl (pM rfl) fun a hf => ?_
      refine stP hf rfl rfl rfl (pA rfl) fun a hf => ?_
      refine cNil ?_
      refine h11 _ _ ?_
      refine wp_ret ?_
      refine xBlkR ?_
      refine xThenR ?_
      refine xThenR ?_
      have he := Option.some.inj hF
      rw [← he] at hfin4
      replace hF := ho4 _ hfin4
      refine xBlkR ?_
      refine xThenR ?_
      obtain rfl := hF
      exact fnOut1 (by simp) rfl Try.results112 hf hc (show look _ 4 = _ from rfl) ⟨rfl, hc⟩
    · replace hF := condF hb hF
      clear hb
      refine wp_skip ?_
      refine h8 _ _ ?_
      refine cReg ?_
      refine stP hf rfl rfl rfl (pAdd rfl rfl) fun a hf => ?_
      refine stP hf rfl rfl rfl (pM rfl) fun a hf => ?_
      refine cNil ?_
      exact hK4 (W (x + 1)) _ _ (Option.some.inj hF).symm ⟨hf.keep ⟨rfl, rfl, rfl, rfl, trivial⟩, hc⟩
  · replace hF := condF hb hF
    clear hb
    refine wp_exit ?_
    refine xThen ?_
    refine xThen ?_
    have he := Option.some.inj hF
    rw [← he] at hfin4
    refine cHit ?_
    exact hr4 _ _ _ hfin4 ⟨hf.keep ⟨rfl, rfl, rfl, rfl, trivial⟩, hc⟩

def slices_ContainsFunc_Lgauge_Leg_gauge_Leg (N : Nat) (s_ : List gauge_Leg) : Option (Bool) :=
  Option.bind (slices_IndexFunc_Lgauge_Leg_gauge_Leg N s_) fun r =>
  some (decide (0 ≤ r))
theorem slices_ContainsFunc_Lgauge_Leg_gauge_Leg_ok {N : Nat} {G : Pers} {Lf : List Ent} {w : World} (s_ : List gauge_Leg) {s__p : Option Addr} {s__c : Nat} {b_ : Nat} (h_s_ : Rd G 10 s__p s__c (s_.map enc_gauge_Leg)) (hc : Ctx G (.box b_ [.func (.func 57) #[] #[]] 112 :: Lf) w) {res : Bool} (hF : slices_ContainsFunc_Lgauge_Leg_gauge_Leg N s_ = some res) : Calls Try.prog 95 #[.slice s__p s_.length s__c, .func (.func 96) #[] #[.pointer (some ⟨b_, 0, none⟩)]] w (fun e w => e = .returned (.bool res) ∧ Ctx G (.box b_ [.func (.func 57) #[] #[]] 112 :: Lf) w) := by
  unfold slices_ContainsFunc_Lgauge_Leg_gauge_Leg at hF
  refine fnIn (args := [.slice s__p s_.length s__c, .func (.func 96) #[] #[.pointer (some ⟨b_, 0, none⟩)]]) Try.func95 rfl Try.ntmps95 rfl fun a hf => ?_
  refine wp_seq_k fun K1 h1 => ?_
  refine cReg ?_
  refine stP hf rfl rfl rfl (pA rfl) fun a hf => ?_
  refine cNil ?_
  refine h1 _ _ ?_
  refine wp_seq_k fun K2 h2 => ?_
  refine cReg ?_
  refine stP hf rfl rfl rfl (pM rfl) fun a hf => ?_
  refine stP hf rfl rfl rfl (pM rfl) fun a hf => ?_
  obtain ⟨r, hr, hF⟩ := bnd_some hF
  refine stE hf hc rfl rfl rfl (eC (v := .int .i64 r) (vs := [.slice s__p s_.length s__c, .func (.func 96) #[] #[.pointer (some ⟨b_, 0, none⟩)]]) (caps := []) en_112 rfl rfl rfl rfl (fun w hc => (slices_IndexFunc_Lgauge_Leg_gauge_Leg_ok s_ h_s_ (hc.pick k0) hr).mono fun e w h => ⟨h.1, (h.2.unpick k0)⟩)) fun a w hf hc => ?_
  refine stP hf rfl rfl rfl (pGe rfl rfl) fun a hf => ?_
  refine stP hf rfl rfl rfl (pA rfl) fun a hf => ?_
  refine cNil ?_
  refine h2 _ _ ?_
  refine wp_ret ?_
  obtain rfl := Option.some.inj hF
  exact fnOut1 (by simp) rfl Try.results95 hf hc (show look _ 4 = _ from rfl) ⟨rfl, hc⟩

def gauge_every_gauge_Leg (N : Nat) (l : List gauge_Leg) : Option (Bool) :=
  Option.bind (slices_ContainsFunc_Lgauge_Leg_gauge_Leg N l) fun r =>
  some (!r)
theorem gauge_every_gauge_Leg_ok {N : Nat} {G : Pers} {Lf : List Ent} {w : World} (l : List gauge_Leg) {l_p : Option Addr} {l_c : Nat} (h_l : Rd G 10 l_p l_c (l.map enc_gauge_Leg)) (hc : Ctx G (Lf) w) {res : Bool} (hF : gauge_every_gauge_Leg N l = some res) : Calls Try.prog 56 #[.slice l_p l.length l_c, .func (.func 57) #[] #[]] w (fun e w => e = .returned (.bool res) ∧ Ctx G (Lf) w) := by
  unfold gauge_every_gauge_Leg at hF
  refine fnIn (args := [.slice l_p l.length l_c, .func (.func 57) #[] #[]]) Try.func56 rfl Try.ntmps56 rfl fun a hf => ?_
  refine wp_seq_k fun K1 h1 => ?_
  refine cReg ?_
  refine stBx (cs := [.func (.func 57) #[] #[]]) hf hc rfl rfl rfl rfl fun b_1 a w hf hc => ?_
  refine stP hf rfl rfl rfl (pA rfl) fun a hf => ?_
  refine cNil ?_
  refine h1 _ _ ?_
  refine wp_seq_k fun K2 h2 => ?_
  refine cReg ?_
  refine stP hf rfl rfl rfl (pM rfl) fun a hf => ?_
  refine stP hf rfl rfl rfl (pMF (us := [.pointer (some ⟨b_1, 0, none⟩)]) rfl rfl) fun a hf => ?_
  obtain ⟨r, hr, hF⟩ := bnd_some hF
  refine stE hf hc rfl rfl rfl (eC (v := .bool r) (vs := [.slice l_p l.length l_c, .func (.func 96) #[] #[.pointer (some ⟨b_1, 0, none⟩)]]) (caps := []) en_95 rfl rfl rfl rfl (fun w hc => (slices_ContainsFunc_Lgauge_Leg_gauge_Leg_ok l h_l (hc.pick k0) hr).mono fun e w h => ⟨h.1, (h.2.unpick k0)⟩)) fun a w hf hc => ?_
  refine stP hf rfl rfl rfl (pNot rfl) fun a hf => ?_
  refine stP hf rfl rfl rfl (pA rfl) fun a hf => ?_
  refine cNil ?_
  refine h2 _ _ ?_
  refine wp_ret ?_
  obtain rfl := Option.some.inj hF
  replace hc := hc.drop k0
  exact fnOut1 (by simp) rfl Try.results56 hf hc (show look _ 4 = _ from rfl) ⟨rfl, hc⟩

def gauge_less (N : Nat) (a_ : api_Span) (b_ : api_Span) : Option (api_Span) :=
  some (⟨W (a_.Lo - b_.Hi), W (a_.Hi - b_.Lo)⟩ : api_Span)
theorem gauge_less_ok {N : Nat} {G : Pers} {Lf : List Ent} {w : World} (a_ : api_Span) (b_ : api_Span)   (hc : Ctx G (Lf) w) {res : api_Span} (hF : gauge_less N a_ b_ = some res) : Calls Try.prog 60 #[.agg #[.int .i64 a_.Lo, .int .i64 a_.Hi], .agg #[.int .i64 b_.Lo, .int .i64 b_.Hi]] w (fun e w => e = .returned (.agg #[.int .i64 res.Lo, .int .i64 res.Hi]) ∧ Ctx G (Lf) w) := by
  unfold gauge_less at hF
  refine fnIn (args := [.agg #[.int .i64 a_.Lo, .int .i64 a_.Hi], .agg #[.int .i64 b_.Lo, .int .i64 b_.Hi]]) Try.func60 rfl Try.ntmps60 rfl fun a hf => ?_
  refine wp_seq_k fun K1 h1 => ?_
  refine cReg ?_
  refine stBx (cs := [.int .i64 a_.Lo, .int .i64 a_.Hi]) hf hc rfl rfl rfl rfl fun b_1 a w hf hc => ?_
  refine stBx (cs := [.int .i64 b_.Lo, .int .i64 b_.Hi]) hf hc rfl rfl rfl rfl fun b_2 a w hf hc => ?_
  refine stAl (cs := [.int .i64 0, .int .i64 0]) hf hc rfl rfl zr_24 rfl fun b_3 a w hf hc => ?_
  refine cNil ?_
  refine h1 _ _ ?_
  refine wp_seq_k fun K2 h2 => ?_
  refine cReg ?_
  refine stP hf rfl rfl rfl (pFA fa_24_0 rfl) fun a hf => ?_
  refine stE hf hc rfl rfl rfl (eLd1 sc_3 rfl (cell_box m2 rfl)) fun a w hf hc => ?_
  refine stP hf rfl rfl rfl (pFA fa_24_1 rfl) fun a hf => ?_
  refine stE hf hc rfl rfl rfl (eLd1 sc_3 rfl (cell_box m1 rfl)) fun a w hf hc => ?_
  refine stP hf rfl rfl rfl (pSub rfl rfl) fun a hf => ?_
  refine stP hf rfl rfl rfl (pFA fa_24_1 rfl) fun a hf => ?_
  refine stE hf hc rfl rfl rfl (eLd1 sc_3 rfl (cell_box m2 rfl)) fun a w hf hc => ?_
  refine stP hf rfl rfl rfl (pFA fa_24_0 rfl) fun a hf => ?_
  refine stE hf hc rfl rfl rfl (eLd1 sc_3 rfl (cell_box m1 rfl)) fun a w hf hc => ?_
  refine stP hf rfl rfl rfl (pSub rfl rfl) fun a hf => ?_
  refine stP hf rfl rfl rfl (pBuildS (cells := [.int .i64 (W (a_.Lo - b_.Hi)), .int .i64 (W (a_.Hi - b_.Lo))]) bt_24 rfl rfl) fun a hf => ?_
  refine stSt (vs := [.int .i64 (W (a_.Lo - b_.Hi)), .int .i64 (W (a_.Hi - b_.Lo))]) hf hc rfl rfl rfl rfl sz_24 rfl rfl u0 fun w hc => ?_
  refine cNil ?_
  refine h2 _ _ ?_
  refine wp_ret ?_
  obtain rfl := Option.some.inj hF
  replace hc := hc.drop k2
  replace hc := hc.drop k1
  exact fnOut1 (by simp) rfl Try.results60 hf hc (rv_cellN (vs := [.int .i64 (W (a_.Lo - b_.Hi)), .int .i64 (W (a_.Hi - b_.Lo))]) ag_24 rfl rfl (cells_box (n := 2) m0 rfl)) ⟨rfl, (hc.drop k0)⟩

def gauge_Cross_b10 (N : Nat) (l : List gauge_Leg) (x : Int) (x_1 : Int) (x_2 : Int) : Option (Step (Int × Int × Int) (api_Span × Int)) :=
  cond (decide (x < ((l.length : Nat) : Int)))
  (Option.bind (getI l x) fun e_1 =>
  Option.bind (gauge_times N ([e_1.East, e_1.Y] : List api_Span)) fun r_1 =>
  Option.bind (gauge_times N ([e_1.North, e_1.X] : List api_Span)) fun r_2 =>
  Option.bind (gauge_less N r_1 r_2) fun r_3 =>
  Option.bind (gauge_times N ([e_1.Depth, r_3] : List api_Span)) fun r_4 =>
  Option.bind (gauge_plus N (⟨x_1, x_2⟩ : api_Span) r_4) fun r_5 =>
  some (.cont (W (x + 1), r_5.Lo, r_5.Hi)))
  (some (.brk (x, x_1, x_2)))
def gauge_Cross (N : Nat) (l : List gauge_Leg) : Option (api_Span × Int) :=
  cond (!(gauge_in ((l.length : Nat) : Int) 1 30))
  (some ((⟨0, 0⟩ : api_Span), 3))
  (Option.bind (gauge_every_gauge_Leg N l) fun r =>
  cond (!r)
  (some ((⟨0, 0⟩ : api_Span), 40))
  (Option.bind (loopO (fun s10 => gauge_Cross_b10 N l s10.1 s10.2.1 s10.2.2) N (0, 0, 0)) fun x10 =>
  exK x10 (fun s10 => some ((⟨s10.2.1, s10.2.2⟩ : api_Span), 0)) some))
theorem gauge_Cross_ok {N : Nat} {G : Pers} {Lf : List Ent} {w : World} (l : List gauge_Leg) {l_p : Option Addr} {l_c : Nat} (h_l : Rd G 10 l_p l_c (l.map enc_gauge_Leg)) (hc : Ctx G (Lf) w) {res : api_Span × Int} (hF : gauge_Cross N l = some res) : Calls Try.prog 18 #[.slice l_p l.length l_c] w (fun e w => e = .returned (.tuple #[.agg #[.int .i64 res.1.Lo, .int .i64 res.1.Hi], .int .i64 res.2]) ∧ Ctx G (Lf) w) := by
  unfold gauge_Cross at hF
  refine fnIn (args := [.slice l_p l.length l_c]) Try.func18 rfl Try.ntmps18 rfl fun a hf => ?_
  refine wp_seq_k fun K1 h1 => ?_
  refine cReg ?_
  refine stAl (cs := [.int .i64 0, .int .i64 0]) hf hc rfl rfl zr_24 rfl fun b_1 a w hf hc => ?_
  refine stP hf rfl rfl rfl (pA rfl) fun a hf => ?_
  refine cNil ?_
  refine h1 _ _ ?_
  refine wp_seq_k fun K2 h2 => ?_
  refine wp_block ?_
  refine wp_seq_k fun K3 h3 => ?_
  refine cReg ?_
  refine stP hf rfl rfl rfl (pM rfl) fun a hf => ?_
  refine stP hf rfl rfl rfl (pLenS Try.underlying38 rfl) fun a hf => ?_
  refine stE hf hc rfl rfl rfl (eC (v := .bool (gauge_in ((l.length : Nat) : Int) 1 30)) (vs := [.int .i64 ((l.length : Nat) : Int), .int .i64 1, .int .i64 30]) (caps := []) en_55 rfl rfl rfl rfl (fun w hc => gauge_in_ok ((l.length : Nat) : Int) 1 30 hc rfl)) fun a w hf hc => ?_
  refine stP hf rfl rfl rfl (pNot rfl) fun a hf => ?_
  refine stP hf rfl rfl rfl (pA rfl) fun a hf => ?_
  refine cNil ?_
  refine h3 _ _ ?_
  refine cCond (b := (!(gauge_in ((l.length : Nat) : Int) 1 30))) hf rfl (fun hb => ?_) (fun hb => ?_)
  · replace hF := condT hb hF
    clear hb
    refine wp_seq_k fun K4 h4 => ?_
    refine cReg ?_
    refine stP hf rfl rfl rfl (pBuildS (cells := [.int .i64 0, .int .i64 0]) bt_24 rfl rfl) fun a hf => ?_
    refine stSt (vs := [.int .i64 0, .int .i64 0]) hf hc rfl rfl rfl rfl sz_24 rfl rfl u0 fun w hc => ?_
    refine stP hf rfl rfl rfl (pA rfl) fun a hf => ?_
    refine cNil ?_
    refine h4 _ _ ?_
    refine wp_ret ?_
    refine xBlkR ?_
    refine xThenR ?_
    obtain rfl := Option.some.inj hF
    exact fnOut2 (by simp) rfl Try.results18 hf hc (rv_cellN (vs := [.int .i64 0, .int .i64 0]) ag_24 rfl rfl (cells_box (n := 2) m0 rfl)) (show look _ 3 = _ from rfl) ⟨rfl, (hc.drop k0)⟩
  · replace hF := condF hb hF
    clear hb
    refine wp_seq_k fun K5 h5 => ?_
    refine cReg ?_
    refine stP hf rfl rfl rfl (pM rfl) fun a hf => ?_
    obtain ⟨r, hr, hF⟩ := bnd_some hF
    refine stE hf hc rfl rfl rfl (eC (v := .bool r) (vs := [.slice l_p l.length l_c, .func (.func 57) #[] #[]]) (caps := []) en_56 rfl rfl rfl rfl (fun w hc => gauge_every_gauge_Leg_ok l h_l hc hr)) fun a w hf hc => ?_
    refine stP hf rfl rfl rfl (pNot rfl) fun a hf => ?_
    refine stP hf rfl rfl rfl (pA rfl) fun a hf => ?_
    refine cNil ?_
    refine h5 _ _ ?_
    refine cCond (b := (!r)) hf rfl (fun hb => ?_) (fun hb => ?_)
    · replace hF := condT hb hF
      clear hb
      refine wp_seq_k fun K6 h6 => ?_
      refine cReg ?_
      refine stP hf rfl rfl rfl (pBuildS (cells := [.int .i64 0, .int .i64 0]) bt_24 rfl rfl) fun a hf => ?_
      refine stSt (vs := [.int .i64 0, .int .i64 0]) hf hc rfl rfl rfl rfl sz_24 rfl rfl u0 fun w hc => ?_
      refine stP hf rfl rfl rfl (pA rfl) fun a hf => ?_
      refine cNil ?_
      refine h6 _ _ ?_
      refine wp_ret ?_
      refine xBlkR ?_
      refine xThenR ?_
      obtain rfl := Option.some.inj hF
      exact fnOut2 (by simp) rfl Try.results18 hf hc (rv_cellN (vs := [.int .i64 0, .int .i64 0]) ag_24 rfl rfl (cells_box (n := 2) m0 rfl)) (show look _ 3 = _ from rfl) ⟨rfl, (hc.drop k0)⟩
    · replace hF := condF hb hF
      clear hb
      refine wp_skip ?_
      refine h2 _ _ ?_
      refine wp_seq_k fun K7 h7 => ?_
      refine cReg ?_
      refine stAl (cs := [.int .i64 0, .int .i64 0]) hf hc rfl rfl zr_24 rfl fun b_2 a w hf hc => ?_
      refine cNil ?_
      refine h7 _ _ ?_
      refine wp_seq_k fun K8 h8 => ?_
      refine wp_seq_k fun K9 h9 => ?_
      refine cReg ?_
      refine stP hf rfl rfl rfl (pM rfl) fun a hf => ?_
      refine stP hf rfl rfl rfl (pLenS Try.underlying38 rfl) fun a hf => ?_
      refine stP hf rfl rfl rfl (pM rfl) fun a hf => ?_
      refine cNil ?_
      refine h9 _ _ ?_
      refine wp_block ?_
      obtain ⟨x10, hx10, hF⟩ := bnd_some hF
      let S10 : (Int × Int × Int) → Act → World → Prop := (fun (zz : Int × Int × Int) a w => Has 45 a [(2, .pointer (some ⟨b_1, 0, none⟩)), (4, .pointer (some ⟨b_2, 0, none⟩)), (18, .slice l_p l.length l_c), (19, .int .i64 ((l.length : Nat) : Int)), (20, .int .i64 zz.1)] ∧ Ctx G (.box b_2 [.int .i64 zz.2.1, .int .i64 zz.2.2] 24 :: .box b_1 [.int .i64 0, .int .i64 0] 24 :: Lf) w)
      have hr10 : ∀ (zz : Int × Int × Int) a w, x10 = .go zz → S10 zz a w → K8 a w := by
        rintro ⟨x, x_1, x_2⟩ a w rfl ⟨hf, hc⟩
        replace hF : _ = some res := hF
        refine h8 _ _ ?_
        refine wp_seq_k fun K11 h11 => ?_
        refine cReg ?_
        refine stE hf hc rfl rfl rfl (eLdN (vs := [.int .i64 x_1, .int .i64 x_2]) ag_24 rfl rfl (cells_box (n := 2) m0 rfl)) fun a w hf hc => ?_
        refine stSt (vs := [.int .i64 x_1, .int .i64 x_2]) hf hc rfl rfl rfl rfl sz_24 rfl rfl u1 fun w hc => ?_
        refine stP hf rfl rfl rfl (pA rfl) fun a hf => ?_
        refine cNil ?_
        refine h11 _ _ ?_
        refine wp_ret ?_
        obtain rfl := Option.some.inj hF
        replace hc := hc.drop k0
        exact fnOut2 (by simp) rfl Try.results18 hf hc (rv_cellN (vs := [.int .i64 x_1, .int .i64 x_2]) ag_24 rfl rfl (cells_box (n := 2) m0 rfl)) (show look _ 3 = _ from rfl) ⟨rfl, (hc.drop k0)⟩
      have ho10 : ∀ r, x10 = .out r → r = res := by
        rintro r rfl
        exact Option.some.inj hF
      refine cLoop N (loopW (S := S10) (x := x10) ?_ N (0, 0, 0) _ _ ⟨hf.keep ⟨rfl, rfl, rfl, rfl, rfl, trivial⟩, hc⟩ hx10)
      clear hF hf hc
      rintro ⟨x, x_1, x_2⟩ st10 a w KB10 ⟨hf, hc⟩ hF hfin10 hK10
      unfold gauge_Cross_b10 at hF
      refine wp_seq_k fun K12 h12 => ?_
      refine cReg ?_
      refine stP hf rfl rfl rfl (pLt rfl rfl) fun a hf => ?_
      refine cNil ?_
      refine h12 _ _ ?_
      refine wp_seq_k fun K13 h13 => ?_
      refine cCond (b := (decide (x < ((l.length : Nat) : Int)))) hf rfl (fun hb => ?_) (fun hb => ?_)
      · replace hF := condT hb hF
        clear hb
        refine wp_skip ?_
        refine h13 _ _ ?_
        refine wp_seq_k fun K14 h14 => ?_
        refine wp_block ?_
        refine wp_seq_k fun K15 h15 => ?_
        refine cReg ?_
        obtain ⟨e_1, he_1, hF⟩ := bnd_some hF
        obtain ⟨b_3, o, ha, hp_1⟩ := h_l.atm he_1
        refine stP hf rfl rfl rfl (pIA Try.underlying38 sz_40 rfl rfl ha) fun a hf => ?_
        refine stE hf hc rfl rfl rfl (eLdN (vs := [.int .i64 e_1.X.Lo, .int .i64 e_1.X.Hi, .int .i64 e_1.Y.Lo, .int .i64 e_1.Y.Hi, .int .i64 e_1.Depth.Lo, .int .i64 e_1.Depth.Hi, .int .i64 e_1.East.Lo, .int .i64 e_1.East.Hi, .int .i64 e_1.North.Lo, .int .i64 e_1.North.Hi]) ag_40 rfl rfl (cells_pc hp_1 (n := 10) (o' := 0) rfl)) fun a w hf hc => ?_
        refine stAl (cs := [.int .i64 0, .int .i64 0, .int .i64 0, .int .i64 0, .int .i64 0, .int .i64 0, .int .i64 0, .int .i64 0, .int .i64 0, .int .i64 0]) hf hc rfl rfl zr_40 rfl fun b_4 a w hf hc => ?_
        refine stSt (vs := [.int .i64 e_1.X.Lo, .int .i64 e_1.X.Hi, .int .i64 e_1.Y.Lo, .int .i64 e_1.Y.Hi, .int .i64 e_1.Depth.Lo, .int .i64 e_1.Depth.Hi, .int .i64 e_1.East.Lo, .int .i64 e_1.East.Hi, .int .i64 e_1.North.Lo, .int .i64 e_1.North.Hi]) hf hc rfl rfl rfl rfl sz_40 rfl rfl u0 fun w hc => ?_
        refine cNil ?_
        refine h15 _ _ ?_
        obtain ⟨r_1, hr_1, hF⟩ := bnd_some hF
        obtain ⟨r_2, hr_2, hF⟩ := bnd_some hF
        obtain ⟨r_3, hr_3, hF⟩ := bnd_some hF
        obtain ⟨r_4, hr_4, hF⟩ := bnd_some hF
        obtain ⟨r_5, hr_5, hF⟩ := bnd_some hF
        replace hc := hc.nilRow 0 0
        replace hc := hc.nilRow 0 0
        replace hc := hc.nilRow 0 0
        refine regionE (fun θ => [⟨none, none, 2, .pointer (some ⟨b_1, 0, none⟩)⟩, ⟨none, none, 4, .pointer (some ⟨b_2, 0, none⟩)⟩, ⟨none, none, 6, .pointer (some ⟨b_4, 0, none⟩)⟩, ⟨none, none, 18, .slice l_p l.length l_c⟩, ⟨none, none, 19, .int .i64 ((l.length : Nat) : Int)⟩, ⟨none, none, 20, .int .i64 x⟩, ⟨some 0, none, 24, .agg #[.int .i64 x_1, .int .i64 x_2]⟩, ⟨some 1, none, 25, .pointer (some ⟨b_4, 4, none⟩)⟩, ⟨some 2, none, 26, .agg #[.int .i64 e_1.Depth.Lo, .int .i64 e_1.Depth.Hi]⟩, ⟨some 3, none, 27, .pointer (some ⟨b_4, 6, none⟩)⟩, ⟨some 4, none, 28, .agg #[.int .i64 e_1.East.Lo, .int .i64 e_1.East.Hi]⟩, ⟨some 5, none, 29, .pointer (some ⟨b_4, 2, none⟩)⟩, ⟨some 6, none, 30, .agg #[.int .i64 e_1.Y.Lo, .int .i64 e_1.Y.Hi]⟩, ⟨some 7, none, 31, .slice (some ⟨(θ 56).b, 0, none⟩) 2 2⟩, ⟨some 8, none, 32, .agg #[.int .i64 r_1.Lo, .int .i64 r_1.Hi]⟩, ⟨some 9, none, 33, .pointer (some ⟨b_4, 8, none⟩)⟩, ⟨some 10, none, 34, .agg #[.int .i64 e_1.North.Lo, .int .i64 e_1.North.Hi]⟩, ⟨some 11, none, 35, .pointer (some ⟨b_4, 0, none⟩)⟩, ⟨some 12, none, 36, .agg #[.int .i64 e_1.X.Lo, .int .i64 e_1.X.Hi]⟩, ⟨some 13, none, 37, .slice (some ⟨(θ 104).b, 0, none⟩) 2 2⟩, ⟨some 14, none, 38, .agg #[.int .i64 r_2.Lo, .int .i64 r_2.Hi]⟩, ⟨some 15, none, 39, .agg #[.int .i64 r_3.Lo, .int .i64 r_3.Hi]⟩, ⟨some 16, none, 40, .slice (some ⟨(θ 128).b, 0, none⟩) 2 2⟩, ⟨some 17, none, 41, .agg #[.int .i64 r_4.Lo, .int .i64 r_4.Hi]⟩, ⟨some 18, none, 42, .agg #[.int .i64 r_5.Lo, .int .i64 r_5.Hi]⟩]) (fun E θ => (bif E 16 then .row (some ⟨(θ 128).b, 0, none⟩) 2 (([e_1.Depth, r_3] : List api_Span).map enc_api_Span) 24 2 else .row none 0 [] 0 0) :: (bif E 13 then .row (some ⟨(θ 104).b, 0, none⟩) 2 (([e_1.North, e_1.X] : List api_Span).map enc_api_Span) 24 2 else .row none 0 [] 0 0) :: (bif E 7 then .row (some ⟨(θ 56).b, 0, none⟩) 2 (([e_1.East, e_1.Y] : List api_Span).map enc_api_Span) 24 2 else .row none 0 [] 0 0) :: .box b_4 [.int .i64 e_1.X.Lo, .int .i64 e_1.X.Hi, .int .i64 e_1.Y.Lo, .int .i64 e_1.Y.Hi, .int .i64 e_1.Depth.Lo, .int .i64 e_1.Depth.Hi, .int .i64 e_1.East.Lo, .int .i64 e_1.East.Hi, .int .i64 e_1.North.Lo, .int .i64 e_1.North.Hi] 40 :: (bif E 19 then .box b_2 [.int .i64 r_5.Lo, .int .i64 r_5.Hi] 24 else .box b_2 [.int .i64 x_1, .int .i64 x_2] 24) :: .box b_1 [.int .i64 0, .int .i64 0] 24 :: Lf) [(19, 0)] (fun a w => ∃ (b_8 : Nat) (b_9 : Nat) (b_10 : Nat), Has 45 a [(2, .pointer (some ⟨b_1, 0, none⟩)), (4, .pointer (some ⟨b_2, 0, none⟩)), (18, .slice l_p l.length l_c), (19, .int .i64 ((l.length : Nat) : Int)), (20, .int .i64 x)] ∧ Ctx G (.row (some ⟨b_8, 0, none⟩) 2 (([e_1.Depth, r_3] : List api_Span).map enc_api_Span) 24 2 :: .row (some ⟨b_9, 0, none⟩) 2 (([e_1.North, e_1.X] : List api_Span).map enc_api_Span) 24 2 :: .row (some ⟨b_10, 0, none⟩) 2 (([e_1.East, e_1.Y] : List api_Span).map enc_api_Span) 24 2 :: .box b_4 [.int .i64 e_1.X.Lo, .int .i64 e_1.X.Hi, .int .i64 e_1.Y.Lo, .int .i64 e_1.Y.Hi, .int .i64 e_1.Depth.Lo, .int .i64 e_1.Depth.Hi, .int .i64 e_1.East.Lo, .int .i64 e_1.East.Hi, .int .i64 e_1.North.Lo, .int .i64 e_1.North.Hi] 40 :: .box b_2 [.int .i64 r_5.Lo, .int .i64 r_5.Hi] 24 :: .box b_1 [.int .i64 0, .int .i64 0] 24 :: Lf) w) follows_mx (by kernel_rfl) (by kernel_rfl) (HasE.of hf ⟨rfl, rfl, rfl, rfl, rfl, rfl, trivial, trivial, trivial, trivial, trivial, trivial, trivial, trivial, trivial, trivial, trivial, trivial, trivial, trivial, trivial, trivial, trivial, trivial, trivial, trivial⟩) hc ⟨?_, ?_, ?_, ?_, ?_, ?_, ?_, ?_, ?_, ?_, ?_, ?_, ?_, ?_, ?_, ?_, ?_, ?_, ?_, ?_, trivial⟩ ?_ ?_
        · intro E θ a w hD hi hp he hc
          have e19 := hD.f 0 rfl hi
          replace hc : Ctx G ((bif E 16 then .row (some ⟨(θ 128).b, 0, none⟩) 2 (([e_1.Depth, r_3] : List api_Span).map enc_api_Span) 24 2 else .row none 0 [] 0 0) :: (bif E 13 then .row (some ⟨(θ 104).b, 0, none⟩) 2 (([e_1.North, e_1.X] : List api_Span).map enc_api_Span) 24 2 else .row none 0 [] 0 0) :: (bif E 7 then .row (some ⟨(θ 56).b, 0, none⟩) 2 (([e_1.East, e_1.Y] : List api_Span).map enc_api_Span) 24 2 else .row none 0 [] 0 0) :: .box b_4 [.int .i64 e_1.X.Lo, .int .i64 e_1.X.Hi, .int .i64 e_1.Y.Lo, .int .i64 e_1.Y.Hi, .int .i64 e_1.Depth.Lo, .int .i64 e_1.Depth.Hi, .int .i64 e_1.East.Lo, .int .i64 e_1.East.Hi, .int .i64 e_1.North.Lo, .int .i64 e_1.North.Hi] 40 :: (bif E 19 then .box b_2 [.int .i64 r_5.Lo, .int .i64 r_5.Hi] 24 else .box b_2 [.int .i64 x_1, .int .i64 x_2] 24) :: .box b_1 [.int .i64 0, .int .i64 0] 24 :: Lf) w := hc
          rw [e19] at hc
          replace hc : Ctx G ((bif E 16 then .row (some ⟨(θ 128).b, 0, none⟩) 2 (([e_1.Depth, r_3] : List api_Span).map enc_api_Span) 24 2 else .row none 0 [] 0 0) :: (bif E 13 then .row (some ⟨(θ 104).b, 0, none⟩) 2 (([e_1.North, e_1.X] : List api_Span).map enc_api_Span) 24 2 else .row none 0 [] 0 0) :: (bif E 7 then .row (some ⟨(θ 56).b, 0, none⟩) 2 (([e_1.East, e_1.Y] : List api_Span).map enc_api_Span) 24 2 else .row none 0 [] 0 0) :: .box b_4 [.int .i64 e_1.X.Lo, .int .i64 e_1.X.Hi, .int .i64 e_1.Y.Lo, .int .i64 e_1.Y.Hi, .int .i64 e_1.Depth.Lo, .int .i64 e_1.Depth.Hi, .int .i64 e_1.East.Lo, .int .i64 e_1.East.Hi, .int .i64 e_1.North.Lo, .int .i64 e_1.North.Hi] 40 :: .box b_2 [.int .i64 x_1, .int .i64 x_2] 24 :: .box b_1 [.int .i64 0, .int .i64 0] 24 :: Lf) w := hc
          have hf := he.h0
          replace hf := hf.more he 1 rfl onT
          refine stE hf hc rfl rfl rfl (eLdN (vs := [.int .i64 x_1, .int .i64 x_2]) ag_24 rfl rfl (cells_box (n := 2) m4 rfl)) fun a w hf hc => ?_
          refine cNil ?_
          refine xThenN ?_
          intro ds u hau
          refine ⟨θ, he.put0 hi hau hf rfl 6 rfl rfl, ?_⟩
          show Ctx G ((bif E 16 then .row (some ⟨(θ 128).b, 0, none⟩) 2 (([e_1.Depth, r_3] : List api_Span).map enc_api_Span) 24 2 else .row none 0 [] 0 0) :: (bif E 13 then .row (some ⟨(θ 104).b, 0, none⟩) 2 (([e_1.North, e_1.X] : List api_Span).map enc_api_Span) 24 2 else .row none 0 [] 0 0) :: (bif E 7 then .row (some ⟨(θ 56).b, 0, none⟩) 2 (([e_1.East, e_1.Y] : List api_Span).map enc_api_Span) 24 2 else .row none 0 [] 0 0) :: .box b_4 [.int .i64 e_1.X.Lo, .int .i64 e_1.X.Hi, .int .i64 e_1.Y.Lo, .int .i64 e_1.Y.Hi, .int .i64 e_1.Depth.Lo, .int .i64 e_1.Depth.Hi, .int .i64 e_1.East.Lo, .int .i64 e_1.East.Hi, .int .i64 e_1.North.Lo, .int .i64 e_1.North.Hi] 40 :: (bif E 19 then .box b_2 [.int .i64 r_5.Lo, .int .i64 r_5.Hi] 24 else .box b_2 [.int .i64 x_1, .int .i64 x_2] 24) :: .box b_1 [.int .i64 0, .int .i64 0] 24 :: Lf) w
          rw [e19]
          exact hc
        · intro E θ a w hD hi hp he hc
          have hf := he.h0
          replace hf := hf.more he 2 rfl onT
          refine stP hf rfl rfl rfl (pFA fa_40_2 rfl) fun a hf => ?_
          refine cNil ?_
          refine xThenN ?_
          intro ds u hau
          refine ⟨θ, he.put0 hi hau hf rfl 7 rfl rfl, ?_⟩
          exact hc
        · intro E θ a w hD hi hp he hc
          have e1 := hp.of (k := 1) rfl
          have hf := he.h0
          replace hf := hf.more he 7 rfl (onP e1)
          refine stE hf hc rfl rfl rfl (eLdN (vs := [.int .i64 e_1.Depth.Lo, .int .i64 e_1.Depth.Hi]) ag_24 rfl rfl (cells_box (n := 2) m3 rfl)) fun a w hf hc => ?_
          refine cNil ?_
          refine xThenN ?_
          intro ds u hau
          refine ⟨θ, he.put0 hi hau hf rfl 8 rfl rfl, ?_⟩
          exact hc
        · intro E θ a w hD hi hp he hc
          have hf := he.h0
          replace hf := hf.more he 2 rfl onT
          refine stP hf rfl rfl rfl (pFA fa_40_3 rfl) fun a hf => ?_
          refine cNil ?_
          refine xThenN ?_
          intro ds u hau
          refine ⟨θ, he.put0 hi hau hf rfl 9 rfl rfl, ?_⟩
          exact hc
        · intro E θ a w hD hi hp he hc
          have e3 := hp.of (k := 3) rfl
          have hf := he.h0
          replace hf := hf.more he 9 rfl (onP e3)
          refine stE hf hc rfl rfl rfl (eLdN (vs := [.int .i64 e_1.East.Lo, .int .i64 e_1.East.Hi]) ag_24 rfl rfl (cells_box (n := 2) m3 rfl)) fun a w hf hc => ?_
          refine cNil ?_
          refine xThenN ?_
          intro ds u hau
          refine ⟨θ, he.put0 hi hau hf rfl 10 rfl rfl, ?_⟩
          exact hc
        · intro E θ a w hD hi hp he hc
          have hf := he.h0
          replace hf := hf.more he 2 rfl onT
          refine stP hf rfl rfl rfl (pFA fa_40_1 rfl) fun a hf => ?_
          refine cNil ?_
          refine xThenN ?_
          intro ds u hau
          refine ⟨θ, he.put0 hi hau hf rfl 11 rfl rfl, ?_⟩
          exact hc
        · intro E θ a w hD hi hp he hc
          have e5 := hp.of (k := 5) rfl
          have hf := he.h0
          replace hf := hf.more he 11 rfl (onP e5)
          refine stE hf hc rfl rfl rfl (eLdN (vs := [.int .i64 e_1.Y.Lo, .int .i64 e_1.Y.Hi]) ag_24 rfl rfl (cells_box (n := 2) m3 rfl)) fun a w hf hc => ?_
          refine cNil ?_
          refine xThenN ?_
          intro ds u hau
          refine ⟨θ, he.put0 hi hau hf rfl 12 rfl rfl, ?_⟩
          exact hc
        · intro E θ a w hD hi hp he hc
          have e4 := hp.of (k := 4) rfl
          have e6 := hp.of (k := 6) rfl
          replace hc : Ctx G ((bif E 16 then .row (some ⟨(θ 128).b, 0, none⟩) 2 (([e_1.Depth, r_3] : List api_Span).map enc_api_Span) 24 2 else .row none 0 [] 0 0) :: (bif E 13 then .row (some ⟨(θ 104).b, 0, none⟩) 2 (([e_1.North, e_1.X] : List api_Span).map enc_api_Span) 24 2 else .row none 0 [] 0 0) :: (bif E 7 then .row (some ⟨(θ 56).b, 0, none⟩) 2 (([e_1.East, e_1.Y] : List api_Span).map enc_api_Span) 24 2 else .row none 0 [] 0 0) :: .box b_4 [.int .i64 e_1.X.Lo, .int .i64 e_1.X.Hi, .int .i64 e_1.Y.Lo, .int .i64 e_1.Y.Hi, .int .i64 e_1.Depth.Lo, .int .i64 e_1.Depth.Hi, .int .i64 e_1.East.Lo, .int .i64 e_1.East.Hi, .int .i64 e_1.North.Lo, .int .i64 e_1.North.Hi] 40 :: (bif E 19 then .box b_2 [.int .i64 r_5.Lo, .int .i64 r_5.Hi] 24 else .box b_2 [.int .i64 x_1, .int .i64 x_2] 24) :: .box b_1 [.int .i64 0, .int .i64 0] 24 :: Lf) w := hc
          rw [hi] at hc
          replace hc : Ctx G ((bif E 16 then .row (some ⟨(θ 128).b, 0, none⟩) 2 (([e_1.Depth, r_3] : List api_Span).map enc_api_Span) 24 2 else .row none 0 [] 0 0) :: (bif E 13 then .row (some ⟨(θ 104).b, 0, none⟩) 2 (([e_1.North, e_1.X] : List api_Span).map enc_api_Span) 24 2 else .row none 0 [] 0 0) :: .row none 0 [] 0 0 :: .box b_4 [.int .i64 e_1.X.Lo, .int .i64 e_1.X.Hi, .int .i64 e_1.Y.Lo, .int .i64 e_1.Y.Hi, .int .i64 e_1.Depth.Lo, .int .i64 e_1.Depth.Hi, .int .i64 e_1.East.Lo, .int .i64 e_1.East.Hi, .int .i64 e_1.North.Lo, .int .i64 e_1.North.Hi] 40 :: (bif E 19 then .box b_2 [.int .i64 r_5.Lo, .int .i64 r_5.Hi] 24 else .box b_2 [.int .i64 x_1, .int .i64 x_2] 24) :: .box b_1 [.int .i64 0, .int .i64 0] 24 :: Lf) w := hc
          have hf := he.h0
          replace hf := hf.more he 10 rfl (onP e4)
          replace hf := hf.more he 12 rfl (onP e6)
          refine stBS (rows := ([e_1.East, e_1.Y] : List api_Span).map enc_api_Span) (vs := [(0, .agg #[.int .i64 e_1.East.Lo, .int .i64 e_1.East.Hi]), (1, .agg #[.int .i64 e_1.Y.Lo, .int .i64 e_1.Y.Hi])]) hf hc rfl rfl sl_72 rfl ⟨rfl, rfl, rfl, rfl, rfl, rfl, trivial⟩ rfl rfl fun b_5 a w hf hc => ?_
          refine cNil ?_
          refine xThenN ?_
          intro ds u hau
          replace hc := hc.drop k3
          replace hc := hc.pick k0
          replace hc := hc.pick k2
          replace hc := hc.pick k2
          refine ⟨(setT θ 56 ⟨b_5, none, 0⟩), he.put hi hau hf rfl [] trivial ⟨qq, qq, qq, qq, qq, qq, qq, qq, qq, qq, qq, qq, qq, qq, qq, qq, qq, qq, qq, qq, qq, qq, qq, qq, qq, trivial⟩, ?_⟩
          show Ctx G ((bif E 16 then .row (some ⟨(θ 128).b, 0, none⟩) 2 (([e_1.Depth, r_3] : List api_Span).map enc_api_Span) 24 2 else .row none 0 [] 0 0) :: (bif E 13 then .row (some ⟨(θ 104).b, 0, none⟩) 2 (([e_1.North, e_1.X] : List api_Span).map enc_api_Span) 24 2 else .row none 0 [] 0 0) :: (bif true then .row (some ⟨b_5, 0, none⟩) 2 (([e_1.East, e_1.Y] : List api_Span).map enc_api_Span) 24 2 else .row none 0 [] 0 0) :: .box b_4 [.int .i64 e_1.X.Lo, .int .i64 e_1.X.Hi, .int .i64 e_1.Y.Lo, .int .i64 e_1.Y.Hi, .int .i64 e_1.Depth.Lo, .int .i64 e_1.Depth.Hi, .int .i64 e_1.East.Lo, .int .i64 e_1.East.Hi, .int .i64 e_1.North.Lo, .int .i64 e_1.North.Hi] 40 :: (bif E 19 then .box b_2 [.int .i64 r_5.Lo, .int .i64 r_5.Hi] 24 else .box b_2 [.int .i64 x_1, .int .i64 x_2] 24) :: .box b_1 [.int .i64 0, .int .i64 0] 24 :: Lf) w
          exact hc
        · intro E θ a w hD hi hp he hc
          have e7 := hp.of (k := 7) rfl
          replace hc : Ctx G ((bif E 16 then .row (some ⟨(θ 128).b, 0, none⟩) 2 (([e_1.Depth, r_3] : List api_Span).map enc_api_Span) 24 2 else .row none 0 [] 0 0) :: (bif E 13 then .row (some ⟨(θ 104).b, 0, none⟩) 2 (([e_1.North, e_1.X] : List api_Span).map enc_api_Span) 24 2 else .row none 0 [] 0 0) :: (bif E 7 then .row (some ⟨(θ 56).b, 0, none⟩) 2 (([e_1.East, e_1.Y] : List api_Span).map enc_api_Span) 24 2 else .row none 0 [] 0 0) :: .box b_4 [.int .i64 e_1.X.Lo, .int .i64 e_1.X.Hi, .int .i64 e_1.Y.Lo, .int .i64 e_1.Y.Hi, .int .i64 e_1.Depth.Lo, .int .i64 e_1.Depth.Hi, .int .i64 e_1.East.Lo, .int .i64 e_1.East.Hi, .int .i64 e_1.North.Lo, .int .i64 e_1.North.Hi] 40 :: (bif E 19 then .box b_2 [.int .i64 r_5.Lo, .int .i64 r_5.Hi] 24 else .box b_2 [.int .i64 x_1, .int .i64 x_2] 24) :: .box b_1 [.int .i64 0, .int .i64 0] 24 :: Lf) w := hc
          rw [e7] at hc
          replace hc : Ctx G ((bif E 16 then .row (some ⟨(θ 128).b, 0, none⟩) 2 (([e_1.Depth, r_3] : List api_Span).map enc_api_Span) 24 2 else .row none 0 [] 0 0) :: (bif E 13 then .row (some ⟨(θ 104).b, 0, none⟩) 2 (([e_1.North, e_1.X] : List api_Span).map enc_api_Span) 24 2 else .row none 0 [] 0 0) :: .row (some ⟨(θ 56).b, 0, none⟩) 2 (([e_1.East, e_1.Y] : List api_Span).map enc_api_Span) 24 2 :: .box b_4 [.int .i64 e_1.X.Lo, .int .i64 e_1.X.Hi, .int .i64 e_1.Y.Lo, .int .i64 e_1.Y.Hi, .int .i64 e_1.Depth.Lo, .int .i64 e_1.Depth.Hi, .int .i64 e_1.East.Lo, .int .i64 e_1.East.Hi, .int .i64 e_1.North.Lo, .int .i64 e_1.North.Hi] 40 :: (bif E 19 then .box b_2 [.int .i64 r_5.Lo, .int .i64 r_5.Hi] 24 else .box b_2 [.int .i64 x_1, .int .i64 x_2] 24) :: .box b_1 [.int .i64 0, .int .i64 0] 24 :: Lf) w := hc
          have hf := he.h0
          replace hf := hf.more he 13 rfl (onP e7)
          refine stE hf hc rfl rfl rfl (eC (v := .agg #[.int .i64 r_1.Lo, .int .i64 r_1.Hi]) (vs := [.slice (some ⟨(θ 56).b, 0, none⟩) 2 2]) (caps := []) en_59 rfl rfl rfl rfl (fun w hc => by obtain ⟨G1, hle1, hrd1, hc, hth1⟩ := lend hc k2; exact (gauge_times_ok ([e_1.East, e_1.Y] : List api_Span) hrd1 hc hr_1).mono fun e w h => ⟨h.1, ((hth1 _ _ h.2).unpick k2)⟩)) fun a w hf hc => ?_
          refine cNil ?_
          refine xThenN ?_
          intro ds u hau
          refine ⟨θ, he.put0 hi hau hf rfl 14 rfl rfl, ?_⟩
          show Ctx G ((bif E 16 then .row (some ⟨(θ 128).b, 0, none⟩) 2 (([e_1.Depth, r_3] : List api_Span).map enc_api_Span) 24 2 else .row none 0 [] 0 0) :: (bif E 13 then .row (some ⟨(θ 104).b, 0, none⟩) 2 (([e_1.North, e_1.X] : List api_Span).map enc_api_Span) 24 2 else .row none 0 [] 0 0) :: (bif E 7 then .row (some ⟨(θ 56).b, 0, none⟩) 2 (([e_1.East, e_1.Y] : List api_Span).map enc_api_Span) 24 2 else .row none 0 [] 0 0) :: .box b_4 [.int .i64 e_1.X.Lo, .int .i64 e_1.X.Hi, .int .i64 e_1.Y.Lo, .int .i64 e_1.Y.Hi, .int .i64 e_1.Depth.Lo, .int .i64 e_1.Depth.Hi, .int .i64 e_1.East.Lo, .int .i64 e_1.East.Hi, .int .i64 e_1.North.Lo, .int .i64 e_1.North.Hi] 40 :: (bif E 19 then .box b_2 [.int .i64 r_5.Lo, .int .i64 r_5.Hi] 24 else .box b_2 [.int .i64 x_1, .int .i64 x_2] 24) :: .box b_1 [.int .i64 0, .int .i64 0] 24 :: Lf) w
          rw [e7]
          exact hc
        · intro E θ a w hD hi hp he hc
          have hf := he.h0
          replace hf := hf.more he 2 rfl onT
          refine stP hf rfl rfl rfl (pFA fa_40_4 rfl) fun a hf => ?_
          refine cNil ?_
          refine xThenN ?_
          intro ds u hau
          refine ⟨θ, he.put0 hi hau hf rfl 15 rfl rfl, ?_⟩
          exact hc
        · intro E θ a w hD hi hp he hc
          have e9 := hp.of (k := 9) rfl
          have hf := he.h0
          replace hf := hf.more he 15 rfl (onP e9)
          refine stE hf hc rfl rfl rfl (eLdN (vs := [.int .i64 e_1.North.Lo, .int .i64 e_1.North.Hi]) ag_24 rfl rfl (cells_box (n := 2) m3 rfl)) fun a w hf hc => ?_
          refine cNil ?_
          refine xThenN ?_
          intro ds u hau
          refine ⟨θ, he.put0 hi hau hf rfl 16 rfl rfl, ?_⟩
          exact hc
        · intro E θ a w hD hi hp he hc
          have hf := he.h0
          replace hf := hf.more he 2 rfl onT
          refine stP hf rfl rfl rfl (pFA fa_40_0 rfl) fun a hf => ?_
          refine cNil ?_
          refine xThenN ?_
          intro ds u hau
          refine ⟨θ, he.put0 hi hau hf rfl 17 rfl rfl, ?_⟩
          exact hc
        · intro E θ a w hD hi hp he hc
          have e11 := hp.of (k := 11) rfl
          have hf := he.h0
          replace hf := hf.more he 17 rfl (onP e11)
          refine stE hf hc rfl rfl rfl (eLdN (vs := [.int .i64 e_1.X.Lo, .int .i64 e_1.X.Hi]) ag_24 rfl rfl (cells_box (n := 2) m3 rfl)) fun a w hf hc => ?_
          refine cNil ?_
          refine xThenN ?_
          intro ds u hau
          refine ⟨θ, he.put0 hi hau hf rfl 18 rfl rfl, ?_⟩
          exact hc
        · intro E θ a w hD hi hp he hc
          have e10 := hp.of (k := 10) rfl
          have e12 := hp.of (k := 12) rfl
          replace hc : Ctx G ((bif E 16 then .row (some ⟨(θ 128).b, 0, none⟩) 2 (([e_1.Depth, r_3] : List api_Span).map enc_api_Span) 24 2 else .row none 0 [] 0 0) :: (bif E 13 then .row (some ⟨(θ 104).b, 0, none⟩) 2 (([e_1.North, e_1.X] : List api_Span).map enc_api_Span) 24 2 else .row none 0 [] 0 0) :: (bif E 7 then .row (some ⟨(θ 56).b, 0, none⟩) 2 (([e_1.East, e_1.Y] : List api_Span).map enc_api_Span) 24 2 else .row none 0 [] 0 0) :: .box b_4 [.int .i64 e_1.X.Lo, .int .i64 e_1.X.Hi, .int .i64 e_1.Y.Lo, .int .i64 e_1.Y.Hi, .int .i64 e_1.Depth.Lo, .int .i64 e_1.Depth.Hi, .int .i64 e_1.East.Lo, .int .i64 e_1.East.Hi, .int .i64 e_1.North.Lo, .int .i64 e_1.North.Hi] 40 :: (bif E 19 then .box b_2 [.int .i64 r_5.Lo, .int .i64 r_5.Hi] 24 else .box b_2 [.int .i64 x_1, .int .i64 x_2] 24) :: .box b_1 [.int .i64 0, .int .i64 0] 24 :: Lf) w := hc
          rw [hi] at hc
          replace hc : Ctx G ((bif E 16 then .row (some ⟨(θ 128).b, 0, none⟩) 2 (([e_1.Depth, r_3] : List api_Span).map enc_api_Span) 24 2 else .row none 0 [] 0 0) :: .row none 0 [] 0 0 :: (bif E 7 then .row (some ⟨(θ 56).b, 0, none⟩) 2 (([e_1.East, e_1.Y] : List api_Span).map enc_api_Span) 24 2 else .row none 0 [] 0 0) :: .box b_4 [.int .i64 e_1.X.Lo, .int .i64 e_1.X.Hi, .int .i64 e_1.Y.Lo, .int .i64 e_1.Y.Hi, .int .i64 e_1.Depth.Lo, .int .i64 e_1.Depth.Hi, .int .i64 e_1.East.Lo, .int .i64 e_1.East.Hi, .int .i64 e_1.North.Lo, .int .i64 e_1.North.Hi] 40 :: (bif E 19 then .box b_2 [.int .i64 r_5.Lo, .int .i64 r_5.Hi] 24 else .box b_2 [.int .i64 x_1, .int .i64 x_2] 24) :: .box b_1 [.int .i64 0, .int .i64 0] 24 :: Lf) w := hc
          have hf := he.h0
          replace hf := hf.more he 16 rfl (onP e10)
          replace hf := hf.more he 18 rfl (onP e12)
          refine stBS (rows := ([e_1.North, e_1.X] : List api_Span).map enc_api_Span) (vs := [(0, .agg #[.int .i64 e_1.North.Lo, .int .i64 e_1.North.Hi]), (1, .agg #[.int .i64 e_1.X.Lo, .int .i64 e_1.X.Hi])]) hf hc rfl rfl sl_72 rfl ⟨rfl, rfl, rfl, rfl, rfl, rfl, trivial⟩ rfl rfl fun b_6 a w hf hc => ?_
          refine cNil ?_
          refine xThenN ?_
          intro ds u hau
          replace hc := hc.drop k2
          replace hc := hc.pick k0
          replace hc := hc.pick k1
          refine ⟨(setT θ 104 ⟨b_6, none, 0⟩), he.put hi hau hf rfl [] trivial ⟨qq, qq, qq, qq, qq, qq, qq, qq, qq, qq, qq, qq, qq, qq, qq, qq, qq, qq, qq, qq, qq, qq, qq, qq, qq, trivial⟩, ?_⟩
          show Ctx G ((bif E 16 then .row (some ⟨(θ 128).b, 0, none⟩) 2 (([e_1.Depth, r_3] : List api_Span).map enc_api_Span) 24 2 else .row none 0 [] 0 0) :: (bif true then .row (some ⟨b_6, 0, none⟩) 2 (([e_1.North, e_1.X] : List api_Span).map enc_api_Span) 24 2 else .row none 0 [] 0 0) :: (bif E 7 then .row (some ⟨(θ 56).b, 0, none⟩) 2 (([e_1.East, e_1.Y] : List api_Span).map enc_api_Span) 24 2 else .row none 0 [] 0 0) :: .box b_4 [.int .i64 e_1.X.Lo, .int .i64 e_1.X.Hi, .int .i64 e_1.Y.Lo, .int .i64 e_1.Y.Hi, .int .i64 e_1.Depth.Lo, .int .i64 e_1.Depth.Hi, .int .i64 e_1.East.Lo, .int .i64 e_1.East.Hi, .int .i64 e_1.North.Lo, .int .i64 e_1.North.Hi] 40 :: (bif E 19 then .box b_2 [.int .i64 r_5.Lo, .int .i64 r_5.Hi] 24 else .box b_2 [.int .i64 x_1, .int .i64 x_2] 24) :: .box b_1 [.int .i64 0, .int .i64 0] 24 :: Lf) w
          exact hc
        · intro E θ a w hD hi hp he hc
          have e13 := hp.of (k := 13) rfl
          replace hc : Ctx G ((bif E 16 then .row (some ⟨(θ 128).b, 0, none⟩) 2 (([e_1.Depth, r_3] : List api_Span).map enc_api_Span) 24 2 else .row none 0 [] 0 0) :: (bif E 13 then .row (some ⟨(θ 104).b, 0, none⟩) 2 (([e_1.North, e_1.X] : List api_Span).map enc_api_Span) 24 2 else .row none 0 [] 0 0) :: (bif E 7 then .row (some ⟨(θ 56).b, 0, none⟩) 2 (([e_1.East, e_1.Y] : List api_Span).map enc_api_Span) 24 2 else .row none 0 [] 0 0) :: .box b_4 [.int .i64 e_1.X.Lo, .int .i64 e_1.X.Hi, .int .i64 e_1.Y.Lo, .int .i64 e_1.Y.Hi, .int .i64 e_1.Depth.Lo, .int .i64 e_1.Depth.Hi, .int .i64 e_1.East.Lo, .int .i64 e_1.East.Hi, .int .i64 e_1.North.Lo, .int .i64 e_1.North.Hi] 40 :: (bif E 19 then .box b_2 [.int .i64 r_5.Lo, .int .i64 r_5.Hi] 24 else .box b_2 [.int .i64 x_1, .int .i64 x_2] 24) :: .box b_1 [.int .i64 0, .int .i64 0] 24 :: Lf) w := hc
          rw [e13] at hc
          replace hc : Ctx G ((bif E 16 then .row (some ⟨(θ 128).b, 0, none⟩) 2 (([e_1.Depth, r_3] : List api_Span).map enc_api_Span) 24 2 else .row none 0 [] 0 0) :: .row (some ⟨(θ 104).b, 0, none⟩) 2 (([e_1.North, e_1.X] : List api_Span).map enc_api_Span) 24 2 :: (bif E 7 then .row (some ⟨(θ 56).b, 0, none⟩) 2 (([e_1.East, e_1.Y] : List api_Span).map enc_api_Span) 24 2 else .row none 0 [] 0 0) :: .box b_4 [.int .i64 e_1.X.Lo, .int .i64 e_1.X.Hi, .int .i64 e_1.Y.Lo, .int .i64 e_1.Y.Hi, .int .i64 e_1.Depth.Lo, .int .i64 e_1.Depth.Hi, .int .i64 e_1.East.Lo, .int .i64 e_1.East.Hi, .int .i64 e_1.North.Lo, .int .i64 e_1.North.Hi] 40 :: (bif E 19 then .box b_2 [.int .i64 r_5.Lo, .int .i64 r_5.Hi] 24 else .box b_2 [.int .i64 x_1, .int .i64 x_2] 24) :: .box b_1 [.int .i64 0, .int .i64 0] 24 :: Lf) w := hc
          have hf := he.h0
          replace hf := hf.more he 19 rfl (onP e13)
          refine stE hf hc rfl rfl rfl (eC (v := .agg #[.int .i64 r_2.Lo, .int .i64 r_2.Hi]) (vs := [.slice (some ⟨(θ 104).b, 0, none⟩) 2 2]) (caps := []) en_59 rfl rfl rfl rfl (fun w hc => by obtain ⟨G1, hle1, hrd1, hc, hth1⟩ := lend hc k1; exact (gauge_times_ok ([e_1.North, e_1.X] : List api_Span) hrd1 hc hr_2).mono fun e w h => ⟨h.1, ((hth1 _ _ h.2).unpick k1)⟩)) fun a w hf hc => ?_
          refine cNil ?_
          refine xThenN ?_
          intro ds u hau
          refine ⟨θ, he.put0 hi hau hf rfl 20 rfl rfl, ?_⟩
          show Ctx G ((bif E 16 then .row (some ⟨(θ 128).b, 0, none⟩) 2 (([e_1.Depth, r_3] : List api_Span).map enc_api_Span) 24 2 else .row none 0 [] 0 0) :: (bif E 13 then .row (some ⟨(θ 104).b, 0, none⟩) 2 (([e_1.North, e_1.X] : List api_Span).map enc_api_Span) 24 2 else .row none 0 [] 0 0) :: (bif E 7 then .row (some ⟨(θ 56).b, 0, none⟩) 2 (([e_1.East, e_1.Y] : List api_Span).map enc_api_Span) 24 2 else .row none 0 [] 0 0) :: .box b_4 [.int .i64 e_1.X.Lo, .int .i64 e_1.X.Hi, .int .i64 e_1.Y.Lo, .int .i64 e_1.Y.Hi, .int .i64 e_1.Depth.Lo, .int .i64 e_1.Depth.Hi, .int .i64 e_1.East.Lo, .int .i64 e_1.East.Hi, .int .i64 e_1.North.Lo, .int .i64 e_1.North.Hi] 40 :: (bif E 19 then .box b_2 [.int .i64 r_5.Lo, .int .i64 r_5.Hi] 24 else .box b_2 [.int .i64 x_1, .int .i64 x_2] 24) :: .box b_1 [.int .i64 0, .int .i64 0] 24 :: Lf) w
          rw [e13]
          exact hc
        · intro E θ a w hD hi hp he hc
          have e8 := hp.of (k := 8) rfl
          have e14 := hp.of (k := 14) rfl
          have hf := he.h0
          replace hf := hf.more he 14 rfl (onP e8)
          replace hf := hf.more he 20 rfl (onP e14)
          refine stE hf hc rfl rfl rfl (eC (v := .agg #[.int .i64 r_3.Lo, .int .i64 r_3.Hi]) (vs := [.agg #[.int .i64 r_1.Lo, .int .i64 r_1.Hi], .agg #[.int .i64 r_2.Lo, .int .i64 r_2.Hi]]) (caps := []) en_60 rfl rfl rfl rfl (fun w hc => gauge_less_ok r_1 r_2 hc hr_3)) fun a w hf hc => ?_
          refine cNil ?_
          refine xThenN ?_
          intro ds u hau
          refine ⟨θ, he.put0 hi hau hf rfl 21 rfl rfl, ?_⟩
          exact hc
        · intro E θ a w hD hi hp he hc
          have e2 := hp.of (k := 2) rfl
          have e15 := hp.of (k := 15) rfl
          replace hc : Ctx G ((bif E 16 then .row (some ⟨(θ 128).b, 0, none⟩) 2 (([e_1.Depth, r_3] : List api_Span).map enc_api_Span) 24 2 else .row none 0 [] 0 0) :: (bif E 13 then .row (some ⟨(θ 104).b, 0, none⟩) 2 (([e_1.North, e_1.X] : List api_Span).map enc_api_Span) 24 2 else .row none 0 [] 0 0) :: (bif E 7 then .row (some ⟨(θ 56).b, 0, none⟩) 2 (([e_1.East, e_1.Y] : List api_Span).map enc_api_Span) 24 2 else .row none 0 [] 0 0) :: .box b_4 [.int .i64 e_1.X.Lo, .int .i64 e_1.X.Hi, .int .i64 e_1.Y.Lo, .int .i64 e_1.Y.Hi, .int .i64 e_1.Depth.Lo, .int .i64 e_1.Depth.Hi, .int .i64 e_1.East.Lo, .int .i64 e_1.East.Hi, .int .i64 e_1.North.Lo, .int .i64 e_1.North.Hi] 40 :: (bif E 19 then .box b_2 [.int .i64 r_5.Lo, .int .i64 r_5.Hi] 24 else .box b_2 [.int .i64 x_1, .int .i64 x_2] 24) :: .box b_1 [.int .i64 0, .int .i64 0] 24 :: Lf) w := hc
          rw [hi] at hc
          replace hc : Ctx G (.row none 0 [] 0 0 :: (bif E 13 then .row (some ⟨(θ 104).b, 0, none⟩) 2 (([e_1.North, e_1.X] : List api_Span).map enc_api_Span) 24 2 else .row none 0 [] 0 0) :: (bif E 7 then .row (some ⟨(θ 56).b, 0, none⟩) 2 (([e_1.East, e_1.Y] : List api_Span).map enc_api_Span) 24 2 else .row none 0 [] 0 0) :: .box b_4 [.int .i64 e_1.X.Lo, .int .i64 e_1.X.Hi, .int .i64 e_1.Y.Lo, .int .i64 e_1.Y.Hi, .int .i64 e_1.Depth.Lo, .int .i64 e_1.Depth.Hi, .int .i64 e_1.East.Lo, .int .i64 e_1.East.Hi, .int .i64 e_1.North.Lo, .int .i64 e_1.North.Hi] 40 :: (bif E 19 then .box b_2 [.int .i64 r_5.Lo, .int .i64 r_5.Hi] 24 else .box b_2 [.int .i64 x_1, .int .i64 x_2] 24) :: .box b_1 [.int .i64 0, .int .i64 0] 24 :: Lf) w := hc
          have hf := he.h0
          replace hf := hf.more he 8 rfl (onP e2)
          replace hf := hf.more he 21 rfl (onP e15)
          refine stBS (rows := ([e_1.Depth, r_3] : List api_Span).map enc_api_Span) (vs := [(0, .agg #[.int .i64 e_1.Depth.Lo, .int .i64 e_1.Depth.Hi]), (1, .agg #[.int .i64 r_3.Lo, .int .i64 r_3.Hi])]) hf hc rfl rfl sl_72 rfl ⟨rfl, rfl, rfl, rfl, rfl, rfl, trivial⟩ rfl rfl fun b_7 a w hf hc => ?_
          refine cNil ?_
          refine xThenN ?_
          intro ds u hau
          replace hc := hc.drop k1
          refine ⟨(setT θ 128 ⟨b_7, none, 0⟩), he.put hi hau hf rfl [] trivial ⟨qq, qq, qq, qq, qq, qq, qq, qq, qq, qq, qq, qq, qq, qq, qq, qq, qq, qq, qq, qq, qq, qq, qq, qq, qq, trivial⟩, ?_⟩
          show Ctx G ((bif true then .row (some ⟨b_7, 0, none⟩) 2 (([e_1.Depth, r_3] : List api_Span).map enc_api_Span) 24 2 else .row none 0 [] 0 0) :: (bif E 13 then .row (some ⟨(θ 104).b, 0, none⟩) 2 (([e_1.North, e_1.X] : List api_Span).map enc_api_Span) 24 2 else .row none 0 [] 0 0) :: (bif E 7 then .row (some ⟨(θ 56).b, 0, none⟩) 2 (([e_1.East, e_1.Y] : List api_Span).map enc_api_Span) 24 2 else .row none 0 [] 0 0) :: .box b_4 [.int .i64 e_1.X.Lo, .int .i64 e_1.X.Hi, .int .i64 e_1.Y.Lo, .int .i64 e_1.Y.Hi, .int .i64 e_1.Depth.Lo, .int .i64 e_1.Depth.Hi, .int .i64 e_1.East.Lo, .int .i64 e_1.East.Hi, .int .i64 e_1.North.Lo, .int .i64 e_1.North.Hi] 40 :: (bif E 19 then .box b_2 [.int .i64 r_5.Lo, .int .i64 r_5.Hi] 24 else .box b_2 [.int .i64 x_1, .int .i64 x_2] 24) :: .box b_1 [.int .i64 0, .int .i64 0] 24 :: Lf) w
          exact hc
        · intro E θ a w hD hi hp he hc
          have e16 := hp.of (k := 16) rfl
          replace hc : Ctx G ((bif E 16 then .row (some ⟨(θ 128).b, 0, none⟩) 2 (([e_1.Depth, r_3] : List api_Span).map enc_api_Span) 24 2 else .row none 0 [] 0 0) :: (bif E 13 then .row (some ⟨(θ 104).b, 0, none⟩) 2 (([e_1.North, e_1.X] : List api_Span).map enc_api_Span) 24 2 else .row none 0 [] 0 0) :: (bif E 7 then .row (some ⟨(θ 56).b, 0, none⟩) 2 (([e_1.East, e_1.Y] : List api_Span).map enc_api_Span) 24 2 else .row none 0 [] 0 0) :: .box b_4 [.int .i64 e_1.X.Lo, .int .i64 e_1.X.Hi, .int .i64 e_1.Y.Lo, .int .i64 e_1.Y.Hi, .int .i64 e_1.Depth.Lo, .int .i64 e_1.Depth.Hi, .int .i64 e_1.East.Lo, .int .i64 e_1.East.Hi, .int .i64 e_1.North.Lo, .int .i64 e_1.North.Hi] 40 :: (bif E 19 then .box b_2 [.int .i64 r_5.Lo, .int .i64 r_5.Hi] 24 else .box b_2 [.int .i64 x_1, .int .i64 x_2] 24) :: .box b_1 [.int .i64 0, .int .i64 0] 24 :: Lf) w := hc
          rw [e16] at hc
          replace hc : Ctx G (.row (some ⟨(θ 128).b, 0, none⟩) 2 (([e_1.Depth, r_3] : List api_Span).map enc_api_Span) 24 2 :: (bif E 13 then .row (some ⟨(θ 104).b, 0, none⟩) 2 (([e_1.North, e_1.X] : List api_Span).map enc_api_Span) 24 2 else .row none 0 [] 0 0) :: (bif E 7 then .row (some ⟨(θ 56).b, 0, none⟩) 2 (([e_1.East, e_1.Y] : List api_Span).map enc_api_Span) 24 2 else .row none 0 [] 0 0) :: .box b_4 [.int .i64 e_1.X.Lo, .int .i64 e_1.X.Hi, .int .i64 e_1.Y.Lo, .int .i64 e_1.Y.Hi, .int .i64 e_1.Depth.Lo, .int .i64 e_1.Depth.Hi, .int .i64 e_1.East.Lo, .int .i64 e_1.East.Hi, .int .i64 e_1.North.Lo, .int .i64 e_1.North.Hi] 40 :: (bif E 19 then .box b_2 [.int .i64 r_5.Lo, .int .i64 r_5.Hi] 24 else .box b_2 [.int .i64 x_1, .int .i64 x_2] 24) :: .box b_1 [.int .i64 0, .int .i64 0] 24 :: Lf) w := hc
          have hf := he.h0
          replace hf := hf.more he 22 rfl (onP e16)
          refine stE hf hc rfl rfl rfl (eC (v := .agg #[.int .i64 r_4.Lo, .int .i64 r_4.Hi]) (vs := [.slice (some ⟨(θ 128).b, 0, none⟩) 2 2]) (caps := []) en_59 rfl rfl rfl rfl (fun w hc => by obtain ⟨G1, hle1, hrd1, hc, hth1⟩ := lend hc k0; exact (gauge_times_ok ([e_1.Depth, r_3] : List api_Span) hrd1 hc hr_4).mono fun e w h => ⟨h.1, ((hth1 _ _ h.2).unpick k0)⟩)) fun a w hf hc => ?_
          refine cNil ?_
          refine xThenN ?_
          intro ds u hau
          refine ⟨θ, he.put0 hi hau hf rfl 23 rfl rfl, ?_⟩
          show Ctx G ((bif E 16 then .row (some ⟨(θ 128).b, 0, none⟩) 2 (([e_1.Depth, r_3] : List api_Span).map enc_api_Span) 24 2 else .row none 0 [] 0 0) :: (bif E 13 then .row (some ⟨(θ 104).b, 0, none⟩) 2 (([e_1.North, e_1.X] : List api_Span).map enc_api_Span) 24 2 else .row none 0 [] 0 0) :: (bif E 7 then .row (some ⟨(θ 56).b, 0, none⟩) 2 (([e_1.East, e_1.Y] : List api_Span).map enc_api_Span) 24 2 else .row none 0 [] 0 0) :: .box b_4 [.int .i64 e_1.X.Lo, .int .i64 e_1.X.Hi, .int .i64 e_1.Y.Lo, .int .i64 e_1.Y.Hi, .int .i64 e_1.Depth.Lo, .int .i64 e_1.Depth.Hi, .int .i64 e_1.East.Lo, .int .i64 e_1.East.Hi, .int .i64 e_1.North.Lo, .int .i64 e_1.North.Hi] 40 :: (bif E 19 then .box b_2 [.int .i64 r_5.Lo, .int .i64 r_5.Hi] 24 else .box b_2 [.int .i64 x_1, .int .i64 x_2] 24) :: .box b_1 [.int .i64 0, .int .i64 0] 24 :: Lf) w
          rw [e16]
          exact hc
        · intro E θ a w hD hi hp he hc
          have e0 := hp.of (k := 0) rfl
          have e17 := hp.of (k := 17) rfl
          have hf := he.h0
          replace hf := hf.more he 6 rfl (onP e0)
          replace hf := hf.more he 23 rfl (onP e17)
          refine stE hf hc rfl rfl rfl (eC (v := .agg #[.int .i64 r_5.Lo, .int .i64 r_5.Hi]) (vs := [.agg #[.int .i64 x_1, .int .i64 x_2], .agg #[.int .i64 r_4.Lo, .int .i64 r_4.Hi]]) (caps := []) en_58 rfl rfl rfl rfl (fun w hc => gauge_plus_ok (⟨x_1, x_2⟩ : api_Span) r_4 hc hr_5)) fun a w hf hc => ?_
          refine cNil ?_
          refine xThenN ?_
          intro ds u hau
          refine ⟨θ, he.put0 hi hau hf rfl 24 rfl rfl, ?_⟩
          exact hc
        · intro E θ a w hD hi hp he hc
          have e18 := hp.of (k := 18) rfl
          replace hc : Ctx G ((bif E 16 then .row (some ⟨(θ 128).b, 0, none⟩) 2 (([e_1.Depth, r_3] : List api_Span).map enc_api_Span) 24 2 else .row none 0 [] 0 0) :: (bif E 13 then .row (some ⟨(θ 104).b, 0, none⟩) 2 (([e_1.North, e_1.X] : List api_Span).map enc_api_Span) 24 2 else .row none 0 [] 0 0) :: (bif E 7 then .row (some ⟨(θ 56).b, 0, none⟩) 2 (([e_1.East, e_1.Y] : List api_Span).map enc_api_Span) 24 2 else .row none 0 [] 0 0) :: .box b_4 [.int .i64 e_1.X.Lo, .int .i64 e_1.X.Hi, .int .i64 e_1.Y.Lo, .int .i64 e_1.Y.Hi, .int .i64 e_1.Depth.Lo, .int .i64 e_1.Depth.Hi, .int .i64 e_1.East.Lo, .int .i64 e_1.East.Hi, .int .i64 e_1.North.Lo, .int .i64 e_1.North.Hi] 40 :: (bif E 19 then .box b_2 [.int .i64 r_5.Lo, .int .i64 r_5.Hi] 24 else .box b_2 [.int .i64 x_1, .int .i64 x_2] 24) :: .box b_1 [.int .i64 0, .int .i64 0] 24 :: Lf) w := hc
          rw [hi] at hc
          replace hc : Ctx G ((bif E 16 then .row (some ⟨(θ 128).b, 0, none⟩) 2 (([e_1.Depth, r_3] : List api_Span).map enc_api_Span) 24 2 else .row none 0 [] 0 0) :: (bif E 13 then .row (some ⟨(θ 104).b, 0, none⟩) 2 (([e_1.North, e_1.X] : List api_Span).map enc_api_Span) 24 2 else .row none 0 [] 0 0) :: (bif E 7 then .row (some ⟨(θ 56).b, 0, none⟩) 2 (([e_1.East, e_1.Y] : List api_Span).map enc_api_Span) 24 2 else .row none 0 [] 0 0) :: .box b_4 [.int .i64 e_1.X.Lo, .int .i64 e_1.X.Hi, .int .i64 e_1.Y.Lo, .int .i64 e_1.Y.Hi, .int .i64 e_1.Depth.Lo, .int .i64 e_1.Depth.Hi, .int .i64 e_1.East.Lo, .int .i64 e_1.East.Hi, .int .i64 e_1.North.Lo, .int .i64 e_1.North.Hi] 40 :: .box b_2 [.int .i64 x_1, .int .i64 x_2] 24 :: .box b_1 [.int .i64 0, .int .i64 0] 24 :: Lf) w := hc
          have hf := he.h0
          replace hf := hf.more he 1 rfl onT
          replace hf := hf.more he 24 rfl (onP e18)
          refine stSt (vs := [.int .i64 r_5.Lo, .int .i64 r_5.Hi]) hf hc rfl rfl rfl rfl sz_24 rfl rfl u4 fun w hc => ?_
          refine cNil ?_
          refine xThenN ?_
          intro ds u hau
          refine ⟨θ, he.stay0 hi hau hf rfl, ?_⟩
          show Ctx G ((bif E 16 then .row (some ⟨(θ 128).b, 0, none⟩) 2 (([e_1.Depth, r_3] : List api_Span).map enc_api_Span) 24 2 else .row none 0 [] 0 0) :: (bif E 13 then .row (some ⟨(θ 104).b, 0, none⟩) 2 (([e_1.North, e_1.X] : List api_Span).map enc_api_Span) 24 2 else .row none 0 [] 0 0) :: (bif E 7 then .row (some ⟨(θ 56).b, 0, none⟩) 2 (([e_1.East, e_1.Y] : List api_Span).map enc_api_Span) 24 2 else .row none 0 [] 0 0) :: .box b_4 [.int .i64 e_1.X.Lo, .int .i64 e_1.X.Hi, .int .i64 e_1.Y.Lo, .int .i64 e_1.Y.Hi, .int .i64 e_1.Depth.Lo, .int .i64 e_1.Depth.Hi, .int .i64 e_1.East.Lo, .int .i64 e_1.East.Hi, .int .i64 e_1.North.Lo, .int .i64 e_1.North.Hi] 40 :: (bif true then .box b_2 [.int .i64 r_5.Lo, .int .i64 r_5.Hi] 24 else .box b_2 [.int .i64 x_1, .int .i64 x_2] 24) :: .box b_1 [.int .i64 0, .int .i64 0] 24 :: Lf) w
          exact hc
        · intro E θ a w hall he hc
          have hf := he.h0
          have e7 := hall 7 rfl
          have e13 := hall 13 rfl
          have e16 := hall 16 rfl
          have e19 := hall 19 rfl
          replace hf := hf.more he 5 rfl (onT)
          replace hf := hf.more he 4 rfl (onT)
          replace hf := hf.more he 3 rfl (onT)
          replace hf := hf.more he 1 rfl (onT)
          replace hf := hf.more he 0 rfl (onT)
          replace hc : Ctx G ((bif E 16 then .row (some ⟨(θ 128).b, 0, none⟩) 2 (([e_1.Depth, r_3] : List api_Span).map enc_api_Span) 24 2 else .row none 0 [] 0 0) :: (bif E 13 then .row (some ⟨(θ 104).b, 0, none⟩) 2 (([e_1.North, e_1.X] : List api_Span).map enc_api_Span) 24 2 else .row none 0 [] 0 0) :: (bif E 7 then .row (some ⟨(θ 56).b, 0, none⟩) 2 (([e_1.East, e_1.Y] : List api_Span).map enc_api_Span) 24 2 else .row none 0 [] 0 0) :: .box b_4 [.int .i64 e_1.X.Lo, .int .i64 e_1.X.Hi, .int .i64 e_1.Y.Lo, .int .i64 e_1.Y.Hi, .int .i64 e_1.Depth.Lo, .int .i64 e_1.Depth.Hi, .int .i64 e_1.East.Lo, .int .i64 e_1.East.Hi, .int .i64 e_1.North.Lo, .int .i64 e_1.North.Hi] 40 :: (bif E 19 then .box b_2 [.int .i64 r_5.Lo, .int .i64 r_5.Hi] 24 else .box b_2 [.int .i64 x_1, .int .i64 x_2] 24) :: .box b_1 [.int .i64 0, .int .i64 0] 24 :: Lf) w := hc
          rw [e7, e13, e16, e19] at hc
          exact ⟨(θ 128).b, (θ 104).b, (θ 56).b, hf.keep ⟨rfl, rfl, rfl, rfl, rfl, trivial⟩, hc⟩
        rintro a w ⟨b_8, b_9, b_10, hf, hc⟩
        refine h14 _ _ ?_
        refine cReg ?_
        refine stP hf rfl rfl rfl (pAdd rfl rfl) fun a hf => ?_
        refine stP hf rfl rfl rfl (pM rfl) fun a hf => ?_
        refine cNil ?_
        replace hc := hc.drop k3
        replace hc := hc.drop k2
        replace hc := hc.drop k1
        replace hc := hc.drop k0
        exact hK10 (W (x + 1), r_5.Lo, r_5.Hi) _ _ (Option.some.inj hF).symm ⟨hf.keep ⟨rfl, rfl, rfl, rfl, rfl, trivial⟩, hc⟩
      · replace hF := condF hb hF
        clear hb
        refine wp_exit ?_
        refine xThen ?_
        refine xThen ?_
        have he := Option.some.inj hF
        rw [← he] at hfin10
        refine cHit ?_
        exact hr10 _ _ _ hfin10 ⟨hf.keep ⟨rfl, rfl, rfl, rfl, rfl, trivial⟩, hc⟩

def gauge_Thinned_1 (s_ : api_Span) : Bool :=
  (gauge_right s_ 0 1000000)
theorem gauge_Thinned_1_ok {G : Pers} {Lf : List Ent} {w : World} (s_ : api_Span)   (hc : Ctx G (Lf) w) {res : Bool} (hF : gauge_Thinned_1 s_ = res) : Calls Try.prog 51 #[.agg #[.int .i64 s_.Lo, .int .i64 s_.Hi]] w (fun e w => e = .returned (.bool res) ∧ Ctx G (Lf) w) := by
  unfold gauge_Thinned_1 at hF
  refine fnIn (args := [.agg #[.int .i64 s_.Lo, .int .i64 s_.Hi]]) Try.func51 rfl Try.ntmps51 rfl fun a hf => ?_
  refine wp_seq_k fun K1 h1 => ?_
  refine cReg ?_
  refine stBx (cs := [.int .i64 s_.Lo, .int .i64 s_.Hi]) hf hc rfl rfl rfl rfl fun b_1 a w hf hc => ?_
  refine stP hf rfl rfl rfl (pA rfl) fun a hf => ?_
  refine cNil ?_
  refine h1 _ _ ?_
  refine wp_seq_k fun K2 h2 => ?_
  refine cReg ?_
  refine stE hf hc rfl rfl rfl (eLdN (vs := [.int .i64 s_.Lo, .int .i64 s_.Hi]) ag_24 rfl rfl (cells_box (n := 2) m0 rfl)) fun a w hf hc => ?_
  refine stE hf hc rfl rfl rfl (eC (v := .bool (gauge_right s_ 0 1000000)) (vs := [.agg #[.int .i64 s_.Lo, .int .i64 s_.Hi], .int .i64 0, .int .i64 1000000]) (caps := []) en_52 rfl rfl rfl rfl (fun w hc => gauge_right_ok s_ 0 1000000 hc rfl)) fun a w hf hc => ?_
  refine stP hf rfl rfl rfl (pA rfl) fun a hf => ?_
  refine cNil ?_
  refine h2 _ _ ?_
  refine wp_ret ?_
  obtain rfl := hF
  replace hc := hc.drop k0
  exact fnOut1 (by simp) rfl Try.results51 hf hc (show look _ 2 = _ from rfl) ⟨rfl, hc⟩

def gauge_every_api_Span_1 (x : api_Span) : Bool :=
  (!(gauge_Thinned_1 x))
theorem gauge_every_api_Span_1_ok {G : Pers} {Lf : List Ent} {w : World} (x : api_Span) {b_ : Nat}  (hc : Ctx G (.box b_ [.func (.func 51) #[] #[]] 107 :: Lf) w) {res : Bool} (hF : gauge_every_api_Span_1 x = res) : Calls Try.prog 94 #[.agg #[.int .i64 x.Lo, .int .i64 x.Hi], .pointer (some ⟨b_, 0, none⟩)] w (fun e w => e = .returned (.bool res) ∧ Ctx G (.box b_ [.func (.func 51) #[] #[]] 107 :: Lf) w) := by
  unfold gauge_every_api_Span_1 at hF
  refine fnIn (args := [.agg #[.int .i64 x.Lo, .int .i64 x.Hi], .pointer (some ⟨b_, 0, none⟩)]) Try.func94 rfl Try.ntmps94 rfl fun a hf => ?_
  refine wp_seq_k fun K1 h1 => ?_
  refine cReg ?_
  refine stBx (cs := [.int .i64 x.Lo, .int .i64 x.Hi]) hf hc rfl rfl rfl rfl fun b_1 a w hf hc => ?_
  refine stP hf rfl rfl rfl (pA rfl) fun a hf => ?_
  refine cNil ?_
  refine h1 _ _ ?_
  refine wp_seq_k fun K2 h2 => ?_
  refine cReg ?_
  refine stE hf hc rfl rfl rfl (eLd1 sc_107 rfl (cell_box m1 rfl)) fun a w hf hc => ?_
  refine stE hf hc rfl rfl rfl (eLdN (vs := [.int .i64 x.Lo, .int .i64 x.Hi]) ag_24 rfl rfl (cells_box (n := 2) m0 rfl)) fun a w hf hc => ?_
  refine stE hf hc rfl rfl rfl (eC (v := .bool (gauge_Thinned_1 x)) (vs := [.agg #[.int .i64 x.Lo, .int .i64 x.Hi]]) (caps := []) en_51 rfl rfl rfl rfl (fun w hc => gauge_Thinned_1_ok x hc rfl)) fun a w hf hc => ?_
  refine stP hf rfl rfl rfl (pNot rfl) fun a hf => ?_
  refine stP hf rfl rfl rfl (pA rfl) fun a hf => ?_
  refine cNil ?_
  refine h2 _ _ ?_
  refine wp_ret ?_
  obtain rfl := hF
  replace hc := hc.drop k0
  exact fnOut1 (by simp) rfl Try.results94 hf hc (show look _ 3 = _ from rfl) ⟨rfl, hc⟩

def slices_IndexFunc_Lapi_Span_api_Span_b4 (N : Nat) (s_ : List api_Span) (x : Int) : Option (Step (Int) (Int)) :=
  cond (decide (x < ((s_.length : Nat) : Int)))
  (Option.bind (getI s_ x) fun e_1 =>
  cond (gauge_every_api_Span_1 e_1)
  (some (.ret x))
  (some (.cont (W (x + 1)))))
  (some (.brk x))
def slices_IndexFunc_Lapi_Span_api_Span (N : Nat) (s_ : List api_Span) : Option (Int) :=
  Option.bind (loopO (fun s4 => slices_IndexFunc_Lapi_Span_api_Span_b4 N s_ s4) N 0) fun x4 =>
  exK x4 (fun s4 => some (-1)) some
theorem slices_IndexFunc_Lapi_Span_api_Span_ok {N : Nat} {G : Pers} {Lf : List Ent} {w : World} (s_ : List api_Span) {s__p : Option Addr} {s__c : Nat} {b_ : Nat} (h_s_ : Rd G 2 s__p s__c (s_.map enc_api_Span)) (hc : Ctx G (.box b_ [.func (.func 51) #[] #[]] 107 :: Lf) w) {res : Int} (hF : slices_IndexFunc_Lapi_Span_api_Span N s_ = some res) : Calls Try.prog 111 #[.slice s__p s_.length s__c, .func (.func 94) #[] #[.pointer (some ⟨b_, 0, none⟩)]] w (fun e w => e = .returned (.int .i64 res) ∧ Ctx G (.box b_ [.func (.func 51) #[] #[]] 107 :: Lf) w) := by
  unfold slices_IndexFunc_Lapi_Span_api_Span at hF
  refine fnIn (args := [.slice s__p s_.length s__c, .func (.func 94) #[] #[.pointer (some ⟨b_, 0, none⟩)]]) Try.func111 rfl Try.ntmps111 rfl fun a hf => ?_
  refine wp_seq_k fun K1 h1 => ?_
  refine cReg ?_
  refine stP hf rfl rfl rfl (pA rfl) fun a hf => ?_
  refine cNil ?_
  refine h1 _ _ ?_
  refine wp_seq_k fun K2 h2 => ?_
  refine wp_seq_k fun K3 h3 => ?_
  refine cReg ?_
  refine stP hf rfl rfl rfl (pM rfl) fun a hf => ?_
  refine stP hf rfl rfl rfl (pLenS Try.underlying72 rfl) fun a hf => ?_
  refine stP hf rfl rfl rfl (pM rfl) fun a hf => ?_
  refine cNil ?_
  refine h3 _ _ ?_
  refine wp_block ?_
  obtain ⟨x4, hx4, hF⟩ := bnd_some hF
  let S4 : Int → Act → World → Prop := (fun (zz : Int) a w => Has 19 a [(0, .slice s__p s_.length s__c), (1, .func (.func 94) #[] #[.pointer (some ⟨b_, 0, none⟩)]), (7, .int .i64 ((s_.length : Nat) : Int)), (8, .int .i64 zz)] ∧ Ctx G (.box b_ [.func (.func 51) #[] #[]] 107 :: Lf) w)
  have hr4 : ∀ (zz : Int) a w, x4 = .go zz → S4 zz a w → K2 a w := by
    rintro x a w rfl ⟨hf, hc⟩
    replace hF : _ = some res := hF
    refine h2 _ _ ?_
    refine wp_seq_k fun K5 h5 => ?_
    refine cReg ?_
    refine stP hf rfl rfl rfl (pA rfl) fun a hf => ?_
    refine cNil ?_
    refine h5 _ _ ?_
    refine wp_ret ?_
    obtain rfl := Option.some.inj hF
    exact fnOut1 (by simp) rfl Try.results111 hf hc (show look _ 4 = _ from rfl) ⟨rfl, hc⟩
  have ho4 : ∀ r, x4 = .out r → r = res := by
    rintro r rfl
    exact Option.some.inj hF
  refine cLoop N (loopW (S := S4) (x := x4) ?_ N 0 _ _ ⟨hf.keep ⟨rfl, rfl, rfl, rfl, trivial⟩, hc⟩ hx4)
  clear hF hf hc
  rintro x st4 a w KB4 ⟨hf, hc⟩ hF hfin4 hK4
  unfold slices_IndexFunc_Lapi_Span_api_Span_b4 at hF
  refine wp_seq_k fun K6 h6 => ?_
  refine cReg ?_
  refine stP hf rfl rfl rfl (pLt rfl rfl) fun a hf => ?_
  refine cNil ?_
  refine h6 _ _ ?_
  refine wp_seq_k fun K7 h7 => ?_
  refine cCond (b := (decide (x < ((s_.length : Nat) : Int)))) hf rfl (fun hb => ?_) (fun hb => ?_)
  · replace hF := condT hb hF
    clear hb
    refine wp_skip ?_
    refine h7 _ _ ?_
    refine wp_seq_k fun K8 h8 => ?_
    refine wp_block ?_
    refine wp_seq_k fun K9 h9 => ?_
    refine cReg ?_
    refine stP hf rfl rfl rfl (pM rfl) fun a hf => ?_
    refine stP hf rfl rfl rfl (pA rfl) fun a hf => ?_
    refine cNil ?_
    refine h9 _ _ ?_
    refine wp_seq_k fun K10 h10 => ?_
    refine cReg ?_
    refine stP hf rfl rfl rfl (pM rfl) fun a hf => ?_
    refine stP hf rfl rfl rfl (pM rfl) fun a hf => ?_
    refine stP hf rfl rfl rfl (pM rfl) fun a hf => ?_
    obtain ⟨e_1, he_1, hF⟩ := bnd_some hF
    obtain ⟨b_1, o, ha, hp_1⟩ := h_s_.atm he_1
    refine stP hf rfl rfl rfl (pIA Try.underlying72 sz_24 rfl rfl ha) fun a hf => ?_
    refine stE hf hc rfl rfl rfl (eLdN (vs := [.int .i64 e_1.Lo, .int .i64 e_1.Hi]) ag_24 rfl rfl (cells_pc hp_1 (n := 2) (o' := 0) rfl)) fun a w hf hc => ?_
    refine stE hf hc rfl rfl rfl (eC (v := .bool (gauge_every_api_Span_1 e_1)) (vs := [.agg #[.int .i64 e_1.Lo, .int .i64 e_1.Hi]]) (caps := [.pointer (some ⟨b_, 0, none⟩)]) en_94 rfl rfl rfl rfl (fun w hc => (gauge_every_api_Span_1_ok e_1 (hc.pick k0) rfl).mono fun e w h => ⟨h.1, (h.2.unpick k0)⟩)) fun a w hf hc => ?_
    refine cNil ?_
    refine h10 _ _ ?_
    refine cCond (b := (gauge_every_api_Span_1 e_1)) hf rfl (fun hb => ?_) (fun hb => ?_)
    · replace hF := condT hb hF
      clear hb
      refine wp_seq_k fun K11 h11 => ?_
      refine cReg ?_
      refine stP hf rfl rfl rfl (pM rfl) fun a hf => ?_
      refine stP hf rfl rfl rfl (pA rfl) fun a hf => ?_
      refine cNil ?_
      refine h11 _ _ ?_
      refine wp_ret ?_
      refine xBlkR ?_
      refine xThenR ?_
      refine xThenR ?_
      have he := Option.some.inj hF
      rw [← he] at hfin4
      replace hF := ho4 _ hfin4
      refine xBlkR ?_
      refine xThenR ?_
      obtain rfl := hF
      exact fnOut1 (by simp) rfl Try.results111 hf hc (show look _ 4 = _ from rfl) ⟨rfl, hc⟩
    · replace hF := condF hb hF
      clear hb
      refine wp_skip ?_
      refine h8 _ _ ?_
      refine cReg ?_
      refine stP hf rfl rfl rfl (pAdd rfl rfl) fun a hf => ?_
      refine stP hf rfl rfl rfl (pM rfl) fun a hf => ?_
      refine cNil ?_
      exact hK4 (W (x + 1)) _ _ (Option.some.inj hF).symm ⟨hf.keep ⟨rfl, rfl, rfl, rfl, trivial⟩, hc⟩
  · replace hF := condF hb hF
    clear hb
    refine wp_exit ?_
    refine xThen ?_
    refine xThen ?_
    have he := Option.some.inj hF
    rw [← he] at hfin4
    refine cHit ?_
    exact hr4 _ _ _ hfin4 ⟨hf.keep ⟨rfl, rfl, rfl, rfl, trivial⟩, hc⟩

def slices_ContainsFunc_Lapi_Span_api_Span (N : Nat) (s_ : List api_Span) : Option (Bool) :=
  Option.bind (slices_IndexFunc_Lapi_Span_api_Span N s_) fun r =>
  some (decide (0 ≤ r))
theorem slices_ContainsFunc_Lapi_Span_api_Span_ok {N : Nat} {G : Pers} {Lf : List Ent} {w : World} (s_ : List api_Span) {s__p : Option Addr} {s__c : Nat} {b_ : Nat} (h_s_ : Rd G 2 s__p s__c (s_.map enc_api_Span)) (hc : Ctx G (.box b_ [.func (.func 51) #[] #[]] 107 :: Lf) w) {res : Bool} (hF : slices_ContainsFunc_Lapi_Span_api_Span N s_ = some res) : Calls Try.prog 93 #[.slice s__p s_.length s__c, .func (.func 94) #[] #[.pointer (some ⟨b_, 0, none⟩)]] w (fun e w => e = .returned (.bool res) ∧ Ctx G (.box b_ [.func (.func 51) #[] #[]] 107 :: Lf) w) := by
  unfold slices_ContainsFunc_Lapi_Span_api_Span at hF
  refine fnIn (args := [.slice s__p s_.length s__c, .func (.func 94) #[] #[.pointer (some ⟨b_, 0, none⟩)]]) Try.func93 rfl Try.ntmps93 rfl fun a hf => ?_
  refine wp_seq_k fun K1 h1 => ?_
  refine cReg ?_
  refine stP hf rfl rfl rfl (pA rfl) fun a hf => ?_
  refine cNil ?_
  refine h1 _ _ ?_
  refine wp_seq_k fun K2 h2 => ?_
  refine cReg ?_
  refine stP hf rfl rfl rfl (pM rfl) fun a hf => ?_
  refine stP hf rfl rfl rfl (pM rfl) fun a hf => ?_
  obtain ⟨r, hr, hF⟩ := bnd_some hF
  refine stE hf hc rfl rfl rfl (eC (v := .int .i64 r) (vs := [.slice s__p s_.length s__c, .func (.func 94) #[] #[.pointer (some ⟨b_, 0, none⟩)]]) (caps := []) en_111 rfl rfl rfl rfl (fun w hc => (slices_IndexFunc_Lapi_Span_api_Span_ok s_ h_s_ (hc.pick k0) hr).mono fun e w h => ⟨h.1, (h.2.unpick k0)⟩)) fun a w hf hc => ?_
  refine stP hf rfl rfl rfl (pGe rfl rfl) fun a hf => ?_
  refine stP hf rfl rfl rfl (pA rfl) fun a hf => ?_
  refine cNil ?_
  refine h2 _ _ ?_
  refine wp_ret ?_
  obtain rfl := Option.some.inj hF
  exact fnOut1 (by simp) rfl Try.results93 hf hc (show look _ 4 = _ from rfl) ⟨rfl, hc⟩

def gauge_every_api_Span (N : Nat) (l : List api_Span) : Option (Bool) :=
  Option.bind (slices_ContainsFunc_Lapi_Span_api_Span N l) fun r =>
  some (!r)
theorem gauge_every_api_Span_ok {N : Nat} {G : Pers} {Lf : List Ent} {w : World} (l : List api_Span) {l_p : Option Addr} {l_c : Nat} (h_l : Rd G 2 l_p l_c (l.map enc_api_Span)) (hc : Ctx G (Lf) w) {res : Bool} (hF : gauge_every_api_Span N l = some res) : Calls Try.prog 50 #[.slice l_p l.length l_c, .func (.func 51) #[] #[]] w (fun e w => e = .returned (.bool res) ∧ Ctx G (Lf) w) := by
  unfold gauge_every_api_Span at hF
  refine fnIn (args := [.slice l_p l.length l_c, .func (.func 51) #[] #[]]) Try.func50 rfl Try.ntmps50 rfl fun a hf => ?_
  refine wp_seq_k fun K1 h1 => ?_
  refine cReg ?_
  refine stBx (cs := [.func (.func 51) #[] #[]]) hf hc rfl rfl rfl rfl fun b_1 a w hf hc => ?_
  refine stP hf rfl rfl rfl (pA rfl) fun a hf => ?_
  refine cNil ?_
  refine h1 _ _ ?_
  refine wp_seq_k fun K2 h2 => ?_
  refine cReg ?_
  refine stP hf rfl rfl rfl (pM rfl) fun a hf => ?_
  refine stP hf rfl rfl rfl (pMF (us := [.pointer (some ⟨b_1, 0, none⟩)]) rfl rfl) fun a hf => ?_
  obtain ⟨r, hr, hF⟩ := bnd_some hF
  refine stE hf hc rfl rfl rfl (eC (v := .bool r) (vs := [.slice l_p l.length l_c, .func (.func 94) #[] #[.pointer (some ⟨b_1, 0, none⟩)]]) (caps := []) en_93 rfl rfl rfl rfl (fun w hc => (slices_ContainsFunc_Lapi_Span_api_Span_ok l h_l (hc.pick k0) hr).mono fun e w h => ⟨h.1, (h.2.unpick k0)⟩)) fun a w hf hc => ?_
  refine stP hf rfl rfl rfl (pNot rfl) fun a hf => ?_
  refine stP hf rfl rfl rfl (pA rfl) fun a hf => ?_
  refine cNil ?_
  refine h2 _ _ ?_
  refine wp_ret ?_
  obtain rfl := Option.some.inj hF
  replace hc := hc.drop k0
  exact fnOut1 (by simp) rfl Try.results50 hf hc (show look _ 4 = _ from rfl) ⟨rfl, hc⟩

def gauge_Thinned (N : Nat) (d : gauge_Dye) : Option (api_Span × Int) :=
  Option.bind (gauge_every_api_Span N ([d.Rate, d.Strong, d.Found, d.Clean] : List api_Span)) fun r =>
  cond (!r)
  (some ((⟨0, 0⟩ : api_Span), 40))
  (cond ((decide (d.Found.Lo ≤ d.Clean.Hi)) || (decide (d.Strong.Lo < d.Found.Hi)))
  (some ((⟨0, 0⟩ : api_Span), 7))
  (Option.bind (nz (W (d.Found.Hi - d.Clean.Lo))) fun un =>
  Option.bind (nz (W (d.Found.Lo - d.Clean.Hi))) fun un_1 =>
  some ((⟨W ((W (d.Rate.Lo * (W (d.Strong.Lo - d.Found.Hi)))).tdiv (W (d.Found.Hi - d.Clean.Lo))), W ((W ((W ((W (d.Rate.Hi * (W (d.Strong.Hi - d.Found.Lo)))) + (W (d.Found.Lo - d.Clean.Hi)))) - 1)).tdiv (W (d.Found.Lo - d.Clean.Hi)))⟩ : api_Span), 0)))
theorem gauge_Thinned_ok {N : Nat} {G : Pers} {Lf : List Ent} {w : World} (d : gauge_Dye)   (hc : Ctx G (Lf) w) {res : api_Span × Int} (hF : gauge_Thinned N d = some res) : Calls Try.prog 13 #[.agg #[.int .i64 d.Rate.Lo, .int .i64 d.Rate.Hi, .int .i64 d.Strong.Lo, .int .i64 d.Strong.Hi, .int .i64 d.Found.Lo, .int .i64 d.Found.Hi, .int .i64 d.Clean.Lo, .int .i64 d.Clean.Hi]] w (fun e w => e = .returned (.tuple #[.agg #[.int .i64 res.1.Lo, .int .i64 res.1.Hi], .int .i64 res.2]) ∧ Ctx G (Lf) w) := by
  unfold gauge_Thinned at hF
  refine fnIn (args := [.agg #[.int .i64 d.Rate.Lo, .int .i64 d.Rate.Hi, .int .i64 d.Strong.Lo, .int .i64 d.Strong.Hi, .int .i64 d.Found.Lo, .int .i64 d.Found.Hi, .int .i64 d.Clean.Lo, .int .i64 d.Clean.Hi]]) Try.func13 rfl Try.ntmps13 rfl fun a hf => ?_
  refine wp_seq_k fun K1 h1 => ?_
  refine cReg ?_
  refine stBx (cs := [.int .i64 d.Rate.Lo, .int .i64 d.Rate.Hi, .int .i64 d.Strong.Lo, .int .i64 d.Strong.Hi, .int .i64 d.Found.Lo, .int .i64 d.Found.Hi, .int .i64 d.Clean.Lo, .int .i64 d.Clean.Hi]) hf hc rfl rfl rfl rfl fun b_1 a w hf hc => ?_
  refine stAl (cs := [.int .i64 0, .int .i64 0]) hf hc rfl rfl zr_24 rfl fun b_2 a w hf hc => ?_
  refine stP hf rfl rfl rfl (pA rfl) fun a hf => ?_
  refine cNil ?_
  refine h1 _ _ ?_
  refine wp_seq_k fun K2 h2 => ?_
  refine wp_block ?_
  refine wp_seq_k fun K3 h3 => ?_
  refine cReg ?_
  refine stP hf rfl rfl rfl (pFA fa_26_0 rfl) fun a hf => ?_
  refine stE hf hc rfl rfl rfl (eLdN (vs := [.int .i64 d.Rate.Lo, .int .i64 d.Rate.Hi]) ag_24 rfl rfl (cells_box (n := 2) m1 rfl)) fun a w hf hc => ?_
  refine stP hf rfl rfl rfl (pFA fa_26_1 rfl) fun a hf => ?_
  refine stE hf hc rfl rfl rfl (eLdN (vs := [.int .i64 d.Strong.Lo, .int .i64 d.Strong.Hi]) ag_24 rfl rfl (cells_box (n := 2) m1 rfl)) fun a w hf hc => ?_
  refine stP hf rfl rfl rfl (pFA fa_26_2 rfl) fun a hf => ?_
  refine stE hf hc rfl rfl rfl (eLdN (vs := [.int .i64 d.Found.Lo, .int .i64 d.Found.Hi]) ag_24 rfl rfl (cells_box (n := 2) m1 rfl)) fun a w hf hc => ?_
  refine stP hf rfl rfl rfl (pFA fa_26_3 rfl) fun a hf => ?_
  refine stE hf hc rfl rfl rfl (eLdN (vs := [.int .i64 d.Clean.Lo, .int .i64 d.Clean.Hi]) ag_24 rfl rfl (cells_box (n := 2) m1 rfl)) fun a w hf hc => ?_
  refine stBS (rows := ([d.Rate, d.Strong, d.Found, d.Clean] : List api_Span).map enc_api_Span) (vs := [(0, .agg #[.int .i64 d.Rate.Lo, .int .i64 d.Rate.Hi]), (1, .agg #[.int .i64 d.Strong.Lo, .int .i64 d.Strong.Hi]), (2, .agg #[.int .i64 d.Found.Lo, .int .i64 d.Found.Hi]), (3, .agg #[.int .i64 d.Clean.Lo, .int .i64 d.Clean.Hi])]) hf hc rfl rfl sl_72 rfl ⟨rfl, rfl, rfl, rfl, rfl, rfl, rfl, rfl, rfl, rfl, rfl, rfl, trivial⟩ rfl rfl fun b_3 a w hf hc => ?_
  obtain ⟨r, hr, hF⟩ := bnd_some hF
  refine stE hf hc rfl rfl rfl (eC (v := .bool r) (vs := [.slice (some ⟨b_3, 0, none⟩) 4 4, .func (.func 51) #[] #[]]) (caps := []) en_50 rfl rfl rfl rfl (fun w hc => by obtain ⟨G1, hle1, hrd1, hc, hth1⟩ := lend hc k0; exact (gauge_every_api_Span_ok ([d.Rate, d.Strong, d.Found, d.Clean] : List api_Span) hrd1 hc hr).mono fun e w h => ⟨h.1, ((hth1 _ _ h.2).unpick k0)⟩)) fun a w hf hc => ?_
  refine stP hf rfl rfl rfl (pNot rfl) fun a hf => ?_
  refine stP hf rfl rfl rfl (pA rfl) fun a hf => ?_
  refine cNil ?_
  refine h3 _ _ ?_
  refine cCond (b := (!r)) hf rfl (fun hb => ?_) (fun hb => ?_)
  · replace hF := condT hb hF
    clear hb
    refine wp_seq_k fun K4 h4 => ?_
    refine cReg ?_
    refine stP hf rfl rfl rfl (pBuildS (cells := [.int .i64 0, .int .i64 0]) bt_24 rfl rfl) fun a hf => ?_
    refine stSt (vs := [.int .i64 0, .int .i64 0]) hf hc rfl rfl rfl rfl sz_24 rfl rfl u1 fun w hc => ?_
    refine stP hf rfl rfl rfl (pA rfl) fun a hf => ?_
    refine cNil ?_
    refine h4 _ _ ?_
    refine wp_ret ?_
    refine xBlkR ?_
    refine xThenR ?_
    obtain rfl := Option.some.inj hF
    replace hc := hc.drop k2
    replace hc := hc.drop k0
    exact fnOut2 (by simp) rfl Try.results13 hf hc (rv_cellN (vs := [.int .i64 0, .int .i64 0]) ag_24 rfl rfl (cells_box (n := 2) m0 rfl)) (show look _ 3 = _ from rfl) ⟨rfl, (hc.drop k0)⟩
  · replace hF := condF hb hF
    clear hb
    refine wp_seq_k fun K5 h5 => ?_
    refine cReg ?_
    refine stP hf rfl rfl rfl (pFA fa_26_3 rfl) fun a hf => ?_
    refine stP hf rfl rfl rfl (pFA fa_24_1 rfl) fun a hf => ?_
    refine stE hf hc rfl rfl rfl (eLd1 sc_3 rfl (cell_box m2 rfl)) fun a w hf hc => ?_
    refine stP hf rfl rfl rfl (pFA fa_26_2 rfl) fun a hf => ?_
    refine stP hf rfl rfl rfl (pFA fa_24_0 rfl) fun a hf => ?_
    refine stE hf hc rfl rfl rfl (eLd1 sc_3 rfl (cell_box m2 rfl)) fun a w hf hc => ?_
    refine stP hf rfl rfl rfl (pGe rfl rfl) fun a hf => ?_
    refine stP hf rfl rfl rfl (pM rfl) fun a hf => ?_
    refine stCut 8 (fun a w => Has 81 a [(1, .pointer (some ⟨b_1, 0, none⟩)), (2, .pointer (some ⟨b_2, 0, none⟩)), (20, .pointer (some ⟨b_1, 6, none⟩)), (21, .pointer (some ⟨b_1, 7, none⟩)), (22, .int .i64 d.Clean.Hi), (23, .pointer (some ⟨b_1, 4, none⟩)), (24, .pointer (some ⟨b_1, 4, none⟩)), (25, .int .i64 d.Found.Lo), (26, .bool (decide (d.Found.Lo ≤ d.Clean.Hi))), (27, .bool (decide (d.Found.Lo ≤ d.Clean.Hi))), (35, .bool ((decide (d.Found.Lo ≤ d.Clean.Hi)) || (decide (d.Strong.Lo < d.Found.Hi))))] ∧ Ctx G (.row (some ⟨b_3, 0, none⟩) 4 (([d.Rate, d.Strong, d.Found, d.Clean] : List api_Span).map enc_api_Span) 24 2 :: .box b_2 [.int .i64 0, .int .i64 0] 24 :: .box b_1 [.int .i64 d.Rate.Lo, .int .i64 d.Rate.Hi, .int .i64 d.Strong.Lo, .int .i64 d.Strong.Hi, .int .i64 d.Found.Lo, .int .i64 d.Found.Hi, .int .i64 d.Clean.Lo, .int .i64 d.Clean.Hi] 26 :: Lf) w) ?_ ?_
    · cases hb : (decide (d.Found.Lo ≤ d.Clean.Hi))
      · rw [hb] at hf
        refine stP hf rfl rfl rfl (pFA fa_26_2 rfl) fun a hf => ?_
        refine stP hf rfl rfl rfl (pFA fa_24_1 rfl) fun a hf => ?_
        refine stE hf hc rfl rfl rfl (eLd1 sc_3 rfl (cell_box m2 rfl)) fun a w hf hc => ?_
        refine stP hf rfl rfl rfl (pFA fa_26_1 rfl) fun a hf => ?_
        refine stP hf rfl rfl rfl (pFA fa_24_0 rfl) fun a hf => ?_
        refine stE hf hc rfl rfl rfl (eLd1 sc_3 rfl (cell_box m2 rfl)) fun a w hf hc => ?_
        refine stP hf rfl rfl rfl (pGt rfl rfl) fun a hf => ?_
        refine stP hf rfl rfl rfl (pPf rfl rfl) fun a hf => ?_
        exact cNil ⟨hf.keep ⟨rfl, rfl, rfl, rfl, rfl, rfl, rfl, rfl, rfl, rfl, rfl, trivial⟩, hc⟩
      · rw [hb] at hf
        refine stS hf rfl rfl rfl fun a hf => ?_
        refine stS hf rfl rfl rfl fun a hf => ?_
        refine stS hf rfl rfl rfl fun a hf => ?_
        refine stS hf rfl rfl rfl fun a hf => ?_
        refine stS hf rfl rfl rfl fun a hf => ?_
        refine stS hf rfl rfl rfl fun a hf => ?_
        refine stS hf rfl rfl rfl fun a hf => ?_
        refine stP hf rfl rfl rfl (pPt rfl rfl) fun a hf => ?_
        exact cNil ⟨hf.keep ⟨rfl, rfl, rfl, rfl, rfl, rfl, rfl, rfl, rfl, rfl, rfl, trivial⟩, hc⟩
    intro a w ⟨hf, hc⟩
    refine stP hf rfl rfl rfl (pA rfl) fun a hf => ?_
    refine cNil ?_
    refine h5 _ _ ?_
    refine cCond (b := ((decide (d.Found.Lo ≤ d.Clean.Hi)) || (decide (d.Strong.Lo < d.Found.Hi)))) hf rfl (fun hb => ?_) (fun hb => ?_)
    · replace hF := condT hb hF
      clear hb
      refine wp_seq_k fun K6 h6 => ?_
      refine cReg ?_
      refine stP hf rfl rfl rfl (pBuildS (cells := [.int .i64 0, .int .i64 0]) bt_24 rfl rfl) fun a hf => ?_
      refine stSt (vs := [.int .i64 0, .int .i64 0]) hf hc rfl rfl rfl rfl sz_24 rfl rfl u1 fun w hc => ?_
      refine stP hf rfl rfl rfl (pA rfl) fun a hf => ?_
      refine cNil ?_
      refine h6 _ _ ?_
      refine wp_ret ?_
      refine xBlkR ?_
      refine xThenR ?_
      obtain rfl := Option.some.inj hF
      replace hc := hc.drop k2
      replace hc := hc.drop k0
      exact fnOut2 (by simp) rfl Try.results13 hf hc (rv_cellN (vs := [.int .i64 0, .int .i64 0]) ag_24 rfl rfl (cells_box (n := 2) m0 rfl)) (show look _ 3 = _ from rfl) ⟨rfl, (hc.drop k0)⟩
    · replace hF := condF hb hF
      clear hb
      refine wp_skip ?_
      refine h2 _ _ ?_
      refine wp_seq_k fun K7 h7 => ?_
      refine cQ hc follows_mx (by kernel_rfl) ?_
      refine qE hf rfl rfl rfl (Pu.ev (pFA fa_26_2 rfl)) fun a hf => ?_
      refine qE hf rfl rfl rfl (Pu.ev (pFA fa_24_1 rfl)) fun a hf => ?_
      refine qE hf rfl rfl rfl (eLd1 sc_3 rfl (cell_box m2 rfl)) fun a hf => ?_
      refine qE hf rfl rfl rfl (Pu.ev (pFA fa_26_3 rfl)) fun a hf => ?_
      refine qE hf rfl rfl rfl (Pu.ev (pFA fa_24_0 rfl)) fun a hf => ?_
      refine qE hf rfl rfl rfl (eLd1 sc_3 rfl (cell_box m2 rfl)) fun a hf => ?_
      refine qE hf rfl rfl rfl (Pu.ev (pSub rfl rfl)) fun a hf => ?_
      refine qE hf rfl rfl rfl (Pu.ev (pFA fa_26_2 rfl)) fun a hf => ?_
      refine qE hf rfl rfl rfl (Pu.ev (pFA fa_24_0 rfl)) fun a hf => ?_
      refine qE hf rfl rfl rfl (eLd1 sc_3 rfl (cell_box m2 rfl)) fun a hf => ?_
      refine qE hf rfl rfl rfl (Pu.ev (pFA fa_26_3 rfl)) fun a hf => ?_
      refine qE hf rfl rfl rfl (Pu.ev (pFA fa_24_1 rfl)) fun a hf => ?_
      refine qE hf rfl rfl rfl (eLd1 sc_3 rfl (cell_box m2 rfl)) fun a hf => ?_
      refine qE hf rfl rfl rfl (Pu.ev (pSub rfl rfl)) fun a hf => ?_
      refine qE hf rfl rfl rfl (Pu.ev (pA rfl)) fun a hf => ?_
      refine qE hf rfl rfl rfl (Pu.ev (pA rfl)) fun a hf => ?_
      intro w hc
      refine h7 _ _ ?_
      refine wp_seq_k fun K8 h8 => ?_
      obtain ⟨un, hun, hF⟩ := bnd_some hF
      obtain ⟨un_1, hun_1, hF⟩ := bnd_some hF
      refine regionE (fun θ => (⟨none, none, 1, .pointer (some ⟨b_1, 0, none⟩)⟩ :: ⟨none, none, 2, .pointer (some ⟨b_2, 0, none⟩)⟩ :: ⟨none, none, 4, .int .i64 (W (d.Found.Hi - d.Clean.Lo))⟩ :: ⟨none, none, 5, .int .i64 (W (d.Found.Lo - d.Clean.Hi))⟩ :: ⟨some 0, none, 51, .pointer (some ⟨b_1, 0, none⟩)⟩ :: ⟨some 1, none, 52, .pointer (some ⟨b_1, 0, none⟩)⟩ :: ⟨some 2, none, 53, .int .i64 d.Rate.Lo⟩ :: ⟨some 3, none, 54, .pointer (some ⟨b_1, 2, none⟩)⟩ :: ⟨some 4, none, 55, .pointer (some ⟨b_1, 2, none⟩)⟩ :: ⟨some 5, none, 56, .int .i64 d.Strong.Lo⟩ :: ⟨some 6, none, 57, .pointer (some ⟨b_1, 4, none⟩)⟩ :: ⟨some 7, none, 58, .pointer (some ⟨b_1, 5, none⟩)⟩ :: ⟨some 8, none, 59, .int .i64 d.Found.Hi⟩ :: ⟨some 9, none, 60, .int .i64 (W (d.Strong.Lo - d.Found.Hi))⟩ :: ⟨some 10, none, 61, .int .i64 (W (d.Rate.Lo * (W (d.Strong.Lo - d.Found.Hi))))⟩ :: ⟨some 11, none, 62, .int .i64 (W (d.Found.Hi - d.Clean.Lo))⟩ :: ⟨some 12, none, 63, .int .i64 (W ((W (d.Rate.Lo * (W (d.Strong.Lo - d.Found.Hi)))).tdiv (W (d.Found.Hi - d.Clean.Lo))))⟩ :: ⟨some 13, none, 64, .pointer (some ⟨b_1, 0, none⟩)⟩ :: ⟨some 14, none, 65, .pointer (some ⟨b_1, 1, none⟩)⟩ :: ⟨some 15, none, 66, .int .i64 d.Rate.Hi⟩ :: ⟨some 16, none, 67, .pointer (some ⟨b_1, 2, none⟩)⟩ :: ⟨some 17, none, 68, .pointer (some ⟨b_1, 3, none⟩)⟩ :: ⟨some 18, none, 69, .int .i64 d.Strong.Hi⟩ :: ⟨some 19, none, 70, .pointer (some ⟨b_1, 4, none⟩)⟩ :: ⟨some 20, none, 71, .pointer (some ⟨b_1, 4, none⟩)⟩ :: ⟨some 21, none, 72, .int .i64 d.Found.Lo⟩ :: ⟨some 22, none, 73, .int .i64 (W (d.Strong.Hi - d.Found.Lo))⟩ :: ⟨some 23, none, 74, .int .i64 (W (d.Rate.Hi * (W (d.Strong.Hi - d.Found.Lo))))⟩ :: ⟨some 24, none, 75, .int .i64 (W (d.Found.Lo - d.Clean.Hi))⟩ :: ⟨some 25, none, 76, .int .i64 (W ((W (d.Rate.Hi * (W (d.Strong.Hi - d.Found.Lo)))) + (W (d.Found.Lo - d.Clean.Hi))))⟩ :: ⟨some 26, none, 77, .int .i64 (W ((W ((W (d.Rate.Hi * (W (d.Strong.Hi - d.Found.Lo)))) + (W (d.Found.Lo - d.Clean.Hi)))) - 1))⟩ :: ⟨some 27, none, 78, .int .i64 (W (d.Found.Lo - d.Clean.Hi))⟩ :: ⟨some 28, none, 79, .int .i64 (W ((W ((W ((W (d.Rate.Hi * (W (d.Strong.Hi - d.Found.Lo)))) + (W (d.Found.Lo - d.Clean.Hi)))) - 1)).tdiv (W (d.Found.Lo - d.Clean.Hi))))⟩ :: ⟨some 29, none, 80, .agg #[.int .i64 (W ((W (d.Rate.Lo * (W (d.Strong.Lo - d.Found.Hi)))).tdiv (W (d.Found.Hi - d.Clean.Lo)))), .int .i64 (W ((W ((W ((W (d.Rate.Hi * (W (d.Strong.Hi - d.Found.Lo)))) + (W (d.Found.Lo - d.Clean.Hi)))) - 1)).tdiv (W (d.Found.Lo - d.Clean.Hi))))]⟩ :: ⟨some 31, none, 3, .int .i64 0⟩ :: [])) (fun E θ => .row (some ⟨b_3, 0, none⟩) 4 (([d.Rate, d.Strong, d.Found, d.Clean] : List api_Span).map enc_api_Span) 24 2 :: (bif E 30 then .box b_2 [.int .i64 (W ((W (d.Rate.Lo * (W (d.Strong.Lo - d.Found.Hi)))).tdiv (W (d.Found.Hi - d.Clean.Lo)))), .int .i64 (W ((W ((W ((W (d.Rate.Hi * (W (d.Strong.Hi - d.Found.Lo)))) + (W (d.Found.Lo - d.Clean.Hi)))) - 1)).tdiv (W (d.Found.Lo - d.Clean.Hi))))] 24 else .box b_2 [.int .i64 0, .int .i64 0] 24) :: .box b_1 [.int .i64 d.Rate.Lo, .int .i64 d.Rate.Hi, .int .i64 d.Strong.Lo, .int .i64 d.Strong.Hi, .int .i64 d.Found.Lo, .int .i64 d.Found.Hi, .int .i64 d.Clean.Lo, .int .i64 d.Clean.Hi] 26 :: Lf) [] (fun a w => Has 81 a [(2, .pointer (some ⟨b_2, 0, none⟩)), (3, .int .i64 0)] ∧ Ctx G (.row (some ⟨b_3, 0, none⟩) 4 (([d.Rate, d.Strong, d.Found, d.Clean] : List api_Span).map enc_api_Span) 24 2 :: .box b_2 [.int .i64 (W ((W (d.Rate.Lo * (W (d.Strong.Lo - d.Found.Hi)))).tdiv (W (d.Found.Hi - d.Clean.Lo)))), .int .i64 (W ((W ((W ((W (d.Rate.Hi * (W (d.Strong.Hi - d.Found.Lo)))) + (W (d.Found.Lo - d.Clean.Hi)))) - 1)).tdiv (W (d.Found.Lo - d.Clean.Hi))))] 24 :: .box b_1 [.int .i64 d.Rate.Lo, .int .i64 d.Rate.Hi, .int .i64 d.Strong.Lo, .int .i64 d.Strong.Hi, .int .i64 d.Found.Lo, .int .i64 d.Found.Hi, .int .i64 d.Clean.Lo, .int .i64 d.Clean.Hi] 26 :: Lf) w) follows_mx (by kernel_rfl) (by kernel_rfl) (HasE.of hf ⟨rfl, rfl, rfl, rfl, trivial, trivial, trivial, trivial, trivial, trivial, trivial, trivial, trivial, trivial, trivial, trivial, trivial, trivial, trivial, trivial, trivial, trivial, trivial, trivial, trivial, trivial, trivial, trivial, trivial, trivial, trivial, trivial, trivial, trivial, trivial, trivial⟩) hc ⟨?_, ?_, ?_, ?_, ?_, ?_, ?_, ?_, ?_, ?_, ?_, ?_, ?_, ?_, ?_, ?_, ?_, ?_, ?_, ?_, ?_, ?_, ?_, ?_, ?_, ?_, ?_, ?_, ?_, ?_, ?_, ?_, trivial⟩ ?_ ?_
      · intro E θ a w hD hi hp he hc
        have hf := he.h0
        replace hf := hf.more he 0 rfl onT
        refine stP hf rfl rfl rfl (pFA fa_26_0 rfl) fun a hf => ?_
        refine cNil ?_
        refine xThenN ?_
        intro ds u hau
        refine ⟨θ, he.put0 hi hau hf rfl 4 rfl rfl, ?_⟩
        exact hc
      · intro E θ a w hD hi hp he hc
        have e0 := hp.of (k := 0) rfl
        have hf := he.h0
        replace hf := hf.more he 4 rfl (onP e0)
        refine stP hf rfl rfl rfl (pFA fa_24_0 rfl) fun a hf => ?_
        refine cNil ?_
        refine xThenN ?_
        intro ds u hau
        refine ⟨θ, he.put0 hi hau hf rfl 5 rfl rfl, ?_⟩
        exact hc
      · intro E θ a w hD hi hp he hc
        have e1 := hp.of (k := 1) rfl
        have hf := he.h0
        replace hf := hf.more he 5 rfl (onP e1)
        refine stE hf hc rfl rfl rfl (eLd1 sc_3 rfl (cell_box m2 rfl)) fun a w hf hc => ?_
        refine cNil ?_
        refine xThenN ?_
        intro ds u hau
        refine ⟨θ, he.put0 hi hau hf rfl 6 rfl rfl, ?_⟩
        exact hc
      · intro E θ a w hD hi hp he hc
        have hf := he.h0
        replace hf := hf.more he 0 rfl onT
        refine stP hf rfl rfl rfl (pFA fa_26_1 rfl) fun a hf => ?_
        refine cNil ?_
        refine xThenN ?_
        intro ds u hau
        refine ⟨θ, he.put0 hi hau hf rfl 7 rfl rfl, ?_⟩
        exact hc
      · intro E θ a w hD hi hp he hc
        have e3 := hp.of (k := 3) rfl
        have hf := he.h0
        replace hf := hf.more he 7 rfl (onP e3)
        refine stP hf rfl rfl rfl (pFA fa_24_0 rfl) fun a hf => ?_
        refine cNil ?_
        refine xThenN ?_
        intro ds u hau
        refine ⟨θ, he.put0 hi hau hf rfl 8 rfl rfl, ?_⟩
        exact hc
      · intro E θ a w hD hi hp he hc
        have e4 := hp.of (k := 4) rfl
        have hf := he.h0
        replace hf := hf.more he 8 rfl (onP e4)
        refine stE hf hc rfl rfl rfl (eLd1 sc_3 rfl (cell_box m2 rfl)) fun a w hf hc => ?_
        refine cNil ?_
        refine xThenN ?_
        intro ds u hau
        refine ⟨θ, he.put0 hi hau hf rfl 9 rfl rfl, ?_⟩
        exact hc
      · intro E θ a w hD hi hp he hc
        have hf := he.h0
        replace hf := hf.more he 0 rfl onT
        refine stP hf rfl rfl rfl (pFA fa_26_2 rfl) fun a hf => ?_
        refine cNil ?_
        refine xThenN ?_
        intro ds u hau
        refine ⟨θ, he.put0 hi hau hf rfl 10 rfl rfl, ?_⟩
        exact hc
      · intro E θ a w hD hi hp he hc
        have e6 := hp.of (k := 6) rfl
        have hf := he.h0
        replace hf := hf.more he 10 rfl (onP e6)
        refine stP hf rfl rfl rfl (pFA fa_24_1 rfl) fun a hf => ?_
        refine cNil ?_
        refine xThenN ?_
        intro ds u hau
        refine ⟨θ, he.put0 hi hau hf rfl 11 rfl rfl, ?_⟩
        exact hc
      · intro E θ a w hD hi hp he hc
        have e7 := hp.of (k := 7) rfl
        have hf := he.h0
        replace hf := hf.more he 11 rfl (onP e7)
        refine stE hf hc rfl rfl rfl (eLd1 sc_3 rfl (cell_box m2 rfl)) fun a w hf hc => ?_
        refine cNil ?_
        refine xThenN ?_
        intro ds u hau
        refine ⟨θ, he.put0 hi hau hf rfl 12 rfl rfl, ?_⟩
        exact hc
      · intro E θ a w hD hi hp he hc
        have e5 := hp.of (k := 5) rfl
        have e8 := hp.of (k := 8) rfl
        have hf := he.h0
        replace hf := hf.more he 9 rfl (onP e5)
        replace hf := hf.more he 12 rfl (onP e8)
        refine stP hf rfl rfl rfl (pSub rfl rfl) fun a hf => ?_
        refine cNil ?_
        refine xThenN ?_
        intro ds u hau
        refine ⟨θ, he.put0 hi hau hf rfl 13 rfl rfl, ?_⟩
        exact hc
      · intro E θ a w hD hi hp he hc
        have e2 := hp.of (k := 2) rfl
        have e9 := hp.of (k := 9) rfl
        have hf := he.h0
        replace hf := hf.more he 6 rfl (onP e2)
        replace hf := hf.more he 13 rfl (onP e9)
        refine stP hf rfl rfl rfl (pMul rfl rfl) fun a hf => ?_
        refine cNil ?_
        refine xThenN ?_
        intro ds u hau
        refine ⟨θ, he.put0 hi hau hf rfl 14 rfl rfl, ?_⟩
        exact hc
      · intro E θ a w hD hi hp he hc
        have hf := he.h0
        replace hf := hf.more he 2 rfl onT
        refine stP hf rfl rfl rfl (pM rfl) fun a hf => ?_
        refine cNil ?_
        refine xThenN ?_
        intro ds u hau
        refine ⟨θ, he.put0 hi hau hf rfl 15 rfl rfl, ?_⟩
        exact hc
      · intro E θ a w hD hi hp he hc
        have e10 := hp.of (k := 10) rfl
        have e11 := hp.of (k := 11) rfl
        have hf := he.h0
        replace hf := hf.more he 14 rfl (onP e10)
        replace hf := hf.more he 15 rfl (onP e11)
        refine stP hf rfl rfl rfl (pQuo rfl rfl (nz_spec hun)) fun a hf => ?_
        refine cNil ?_
        refine xThenN ?_
        intro ds u hau
        refine ⟨θ, he.put0 hi hau hf rfl 16 rfl rfl, ?_⟩
        exact hc
      · intro E θ a w hD hi hp he hc
        have hf := he.h0
        replace hf := hf.more he 0 rfl onT
        refine stP hf rfl rfl rfl (pFA fa_26_0 rfl) fun a hf => ?_
        refine cNil ?_
        refine xThenN ?_
        intro ds u hau
        refine ⟨θ, he.put0 hi hau hf rfl 17 rfl rfl, ?_⟩
        exact hc
      · intro E θ a w hD hi hp he hc
        have e13 := hp.of (k := 13) rfl
        have hf := he.h0
        replace hf := hf.more he 17 rfl (onP e13)
        refine stP hf rfl rfl rfl (pFA fa_24_1 rfl) fun a hf => ?_
        refine cNil ?_
        refine xThenN ?_
        intro ds u hau
        refine ⟨θ, he.put0 hi hau hf rfl 18 rfl rfl, ?_⟩
        exact hc
      · intro E θ a w hD hi hp he hc
        have e14 := hp.of (k := 14) rfl
        have hf := he.h0
        replace hf := hf.more he 18 rfl (onP e14)
        refine stE hf hc rfl rfl rfl (eLd1 sc_3 rfl (cell_box m2 rfl)) fun a w hf hc => ?_
        refine cNil ?_
        refine xThenN ?_
        intro ds u hau
        refine ⟨θ, he.put0 hi hau hf rfl 19 rfl rfl, ?_⟩
        exact hc
      · intro E θ a w hD hi hp he hc
        have hf := he.h0
        replace hf := hf.more he 0 rfl onT
        refine stP hf rfl rfl rfl (pFA fa_26_1 rfl) fun a hf => ?_
        refine cNil ?_
        refine xThenN ?_
        intro ds u hau
        refine ⟨θ, he.put0 hi hau hf rfl 20 rfl rfl, ?_⟩
        exact hc
      · intro E θ a w hD hi hp he hc
        have e16 := hp.of (k := 16) rfl
        have hf := he.h0
        replace hf := hf.more he 20 rfl (onP e16)
        refine stP hf rfl rfl rfl (pFA fa_24_1 rfl) fun a hf => ?_
        refine cNil ?_
        refine xThenN ?_
        intro ds u hau
        refine ⟨θ, he.put0 hi hau hf rfl 21 rfl rfl, ?_⟩
        exact hc
      · intro E θ a w hD hi hp he hc
        have e17 := hp.of (k := 17) rfl
        have hf := he.h0
        replace hf := hf.more he 21 rfl (onP e17)
        refine stE hf hc rfl rfl rfl (eLd1 sc_3 rfl (cell_box m2 rfl)) fun a w hf hc => ?_
        refine cNil ?_
        refine xThenN ?_
        intro ds u hau
        refine ⟨θ, he.put0 hi hau hf rfl 22 rfl rfl, ?_⟩
        exact hc
      · intro E θ a w hD hi hp he hc
        have hf := he.h0
        replace hf := hf.more he 0 rfl onT
        refine stP hf rfl rfl rfl (pFA fa_26_2 rfl) fun a hf => ?_
        refine cNil ?_
        refine xThenN ?_
        intro ds u hau
        refine ⟨θ, he.put0 hi hau hf rfl 23 rfl rfl, ?_⟩
        exact hc
      · intro E θ a w hD hi hp he hc
        have e19 := hp.of (k := 19) rfl
        have hf := he.h0
        replace hf := hf.more he 23 rfl (onP e19)
        refine stP hf rfl rfl rfl (pFA fa_24_0 rfl) fun a hf => ?_
        refine cNil ?_
        refine xThenN ?_
        intro ds u hau
        refine ⟨θ, he.put0 hi hau hf rfl 24 rfl rfl, ?_⟩
        exact hc
      · intro E θ a w hD hi hp he hc
        have e20 := hp.of (k := 20) rfl
        have hf := he.h0
        replace hf := hf.more he 24 rfl (onP e20)
        refine stE hf hc rfl rfl rfl (eLd1 sc_3 rfl (cell_box m2 rfl)) fun a w hf hc => ?_
        refine cNil ?_
        refine xThenN ?_
        intro ds u hau
        refine ⟨θ, he.put0 hi hau hf rfl 25 rfl rfl, ?_⟩
        exact hc
      · intro E θ a w hD hi hp he hc
        have e18 := hp.of (k := 18) rfl
        have e21 := hp.of (k := 21) rfl
        have hf := he.h0
        replace hf := hf.more he 22 rfl (onP e18)
        replace hf := hf.more he 25 rfl (onP e21)
        refine stP hf rfl rfl rfl (pSub rfl rfl) fun a hf => ?_
        refine cNil ?_
        refine xThenN ?_
        intro ds u hau
        refine ⟨θ, he.put0 hi hau hf rfl 26 rfl rfl, ?_⟩
        exact hc
      · intro E θ a w hD hi hp he hc
        have e15 := hp.of (k := 15) rfl
        have e22 := hp.of (k := 22) rfl
        have hf := he.h0
        replace hf := hf.more he 19 rfl (onP e15)
        replace hf := hf.more he 26 rfl (onP e22)
        refine stP hf rfl rfl rfl (pMul rfl rfl) fun a hf => ?_
        refine cNil ?_
        refine xThenN ?_
        intro ds u hau
        refine ⟨θ, he.put0 hi hau hf rfl 27 rfl rfl, ?_⟩
        exact hc
      · intro E θ a w hD hi hp he hc
        have hf := he.h0
        replace hf := hf.more he 3 rfl onT
        refine stP hf rfl rfl rfl (pM rfl) fun a hf => ?_
        refine cNil ?_
        refine xThenN ?_
        intro ds u hau
        refine ⟨θ, he.put0 hi hau hf rfl 28 rfl rfl, ?_⟩
        exact hc
      · intro E θ a w hD hi hp he hc
        have e23 := hp.of (k := 23) rfl
        have e24 := hp.of (k := 24) rfl
        have hf := he.h0
        replace hf := hf.more he 27 rfl (onP e23)
        replace hf := hf.more he 28 rfl (onP e24)
        refine stP hf rfl rfl rfl (pAdd rfl rfl) fun a hf => ?_
        refine cNil ?_
        refine xThenN ?_
        intro ds u hau
        refine ⟨θ, he.put0 hi hau hf rfl 29 rfl rfl, ?_⟩
        exact hc
      · intro E θ a w hD hi hp he hc
        have e25 := hp.of (k := 25) rfl
        have hf := he.h0
        replace hf := hf.more he 29 rfl (onP e25)
        refine stP hf rfl rfl rfl (pSub rfl rfl) fun a hf => ?_
        refine cNil ?_
        refine xThenN ?_
        intro ds u hau
        refine ⟨θ, he.put0 hi hau hf rfl 30 rfl rfl, ?_⟩
        exact hc
      · intro E θ a w hD hi hp he hc
        have hf := he.h0
        replace hf := hf.more he 3 rfl onT
        refine stP hf rfl rfl rfl (pM rfl) fun a hf => ?_
        refine cNil ?_
        refine xThenN ?_
        intro ds u hau
        refine ⟨θ, he.put0 hi hau hf rfl 31 rfl rfl, ?_⟩
        exact hc
      · intro E θ a w hD hi hp he hc
        have e26 := hp.of (k := 26) rfl
        have e27 := hp.of (k := 27) rfl
        have hf := he.h0
        replace hf := hf.more he 30 rfl (onP e26)
        replace hf := hf.more he 31 rfl (onP e27)
        refine stP hf rfl rfl rfl (pQuo rfl rfl (nz_spec hun_1)) fun a hf => ?_
        refine cNil ?_
        refine xThenN ?_
        intro ds u hau
        refine ⟨θ, he.put0 hi hau hf rfl 32 rfl rfl, ?_⟩
        exact hc
      · intro E θ a w hD hi hp he hc
        have e12 := hp.of (k := 12) rfl
        have e28 := hp.of (k := 28) rfl
        have hf := he.h0
        replace hf := hf.more he 16 rfl (onP e12)
        replace hf := hf.more he 32 rfl (onP e28)
        refine stP hf rfl rfl rfl (pBuildS (cells := [.int .i64 (W ((W (d.Rate.Lo * (W (d.Strong.Lo - d.Found.Hi)))).tdiv (W (d.Found.Hi - d.Clean.Lo)))), .int .i64 (W ((W ((W ((W (d.Rate.Hi * (W (d.Strong.Hi - d.Found.Lo)))) + (W (d.Found.Lo - d.Clean.Hi)))) - 1)).tdiv (W (d.Found.Lo - d.Clean.Hi))))]) bt_24 rfl rfl) fun a hf => ?_
        refine cNil ?_
        refine xThenN ?_
        intro ds u hau
        refine ⟨θ, he.put0 hi hau hf rfl 33 rfl rfl, ?_⟩
        exact hc
      · intro E θ a w hD hi hp he hc
        have e29 := hp.of (k := 29) rfl
        replace hc : Ctx G (.row (some ⟨b_3, 0, none⟩) 4 (([d.Rate, d.Strong, d.Found, d.Clean] : List api_Span).map enc_api_Span) 24 2 :: (bif E 30 then .box b_2 [.int .i64 (W ((W (d.Rate.Lo * (W (d.Strong.Lo - d.Found.Hi)))).tdiv (W (d.Found.Hi - d.Clean.Lo)))), .int .i64 (W ((W ((W ((W (d.Rate.Hi * (W (d.Strong.Hi - d.Found.Lo)))) + (W (d.Found.Lo - d.Clean.Hi)))) - 1)).tdiv (W (d.Found.Lo - d.Clean.Hi))))] 24 else .box b_2 [.int .i64 0, .int .i64 0] 24) :: .box b_1 [.int .i64 d.Rate.Lo, .int .i64 d.Rate.Hi, .int .i64 d.Strong.Lo, .int .i64 d.Strong.Hi, .int .i64 d.Found.Lo, .int .i64 d.Found.Hi, .int .i64 d.Clean.Lo, .int .i64 d.Clean.Hi] 26 :: Lf) w := hc
        rw [hi] at hc
        replace hc : Ctx G (.row (some ⟨b_3, 0, none⟩) 4 (([d.Rate, d.Strong, d.Found, d.Clean] : List api_Span).map enc_api_Span) 24 2 :: .box b_2 [.int .i64 0, .int .i64 0] 24 :: .box b_1 [.int .i64 d.Rate.Lo, .int .i64 d.Rate.Hi, .int .i64 d.Strong.Lo, .int .i64 d.Strong.Hi, .int .i64 d.Found.Lo, .int .i64 d.Found.Hi, .int .i64 d.Clean.Lo, .int .i64 d.Clean.Hi] 26 :: Lf) w := hc
        have hf := he.h0
        replace hf := hf.more he 1 rfl onT
        replace hf := hf.more he 33 rfl (onP e29)
        refine stSt (vs := [.int .i64 (W ((W (d.Rate.Lo * (W (d.Strong.Lo - d.Found.Hi)))).tdiv (W (d.Found.Hi - d.Clean.Lo)))), .int .i64 (W ((W ((W ((W (d.Rate.Hi * (W (d.Strong.Hi - d.Found.Lo)))) + (W (d.Found.Lo - d.Clean.Hi)))) - 1)).tdiv (W (d.Found.Lo - d.Clean.Hi))))]) hf hc rfl rfl rfl rfl sz_24 rfl rfl u1 fun w hc => ?_
        refine cNil ?_
        refine xThenN ?_
        intro ds u hau
        refine ⟨θ, he.stay0 hi hau hf rfl, ?_⟩
        show Ctx G (.row (some ⟨b_3, 0, none⟩) 4 (([d.Rate, d.Strong, d.Found, d.Clean] : List api_Span).map enc_api_Span) 24 2 :: (bif true then .box b_2 [.int .i64 (W ((W (d.Rate.Lo * (W (d.Strong.Lo - d.Found.Hi)))).tdiv (W (d.Found.Hi - d.Clean.Lo)))), .int .i64 (W ((W ((W ((W (d.Rate.Hi * (W (d.Strong.Hi - d.Found.Lo)))) + (W (d.Found.Lo - d.Clean.Hi)))) - 1)).tdiv (W (d.Found.Lo - d.Clean.Hi))))] 24 else .box b_2 [.int .i64 0, .int .i64 0] 24) :: .box b_1 [.int .i64 d.Rate.Lo, .int .i64 d.Rate.Hi, .int .i64 d.Strong.Lo, .int .i64 d.Strong.Hi, .int .i64 d.Found.Lo, .int .i64 d.Found.Hi, .int .i64 d.Clean.Lo, .int .i64 d.Clean.Hi] 26 :: Lf) w
        exact hc
      · intro E θ a w hD hi hp he hc
        have hf := he.h0
        refine stP hf rfl rfl rfl (pA rfl) fun a hf => ?_
        refine cNil ?_
        refine xThenN ?_
        intro ds u hau
        refine ⟨θ, he.put0 hi hau hf rfl 34 rfl rfl, ?_⟩
        exact hc
      · intro E θ a w hall he hc
        have hf := he.h0
        have e30 := hall 30 rfl
        have e31 := hall 31 rfl
        replace hf := hf.more he 34 rfl (onP e31)
        replace hf := hf.more he 1 rfl (onT)
        replace hc : Ctx G (.row (some ⟨b_3, 0, none⟩) 4 (([d.Rate, d.Strong, d.Found, d.Clean] : List api_Span).map enc_api_Span) 24 2 :: (bif E 30 then .box b_2 [.int .i64 (W ((W (d.Rate.Lo * (W (d.Strong.Lo - d.Found.Hi)))).tdiv (W (d.Found.Hi - d.Clean.Lo)))), .int .i64 (W ((W ((W ((W (d.Rate.Hi * (W (d.Strong.Hi - d.Found.Lo)))) + (W (d.Found.Lo - d.Clean.Hi)))) - 1)).tdiv (W (d.Found.Lo - d.Clean.Hi))))] 24 else .box b_2 [.int .i64 0, .int .i64 0] 24) :: .box b_1 [.int .i64 d.Rate.Lo, .int .i64 d.Rate.Hi, .int .i64 d.Strong.Lo, .int .i64 d.Strong.Hi, .int .i64 d.Found.Lo, .int .i64 d.Found.Hi, .int .i64 d.Clean.Lo, .int .i64 d.Clean.Hi] 26 :: Lf) w := hc
        rw [e30] at hc
        exact ⟨hf.keep ⟨rfl, rfl, trivial⟩, hc⟩
      rintro a w ⟨hf, hc⟩
      refine h8 _ _ ?_
      refine wp_ret ?_
      obtain rfl := Option.some.inj hF
      replace hc := hc.drop k2
      replace hc := hc.drop k0
      exact fnOut2 (by simp) rfl Try.results13 hf hc (rv_cellN (vs := [.int .i64 (W ((W (d.Rate.Lo * (W (d.Strong.Lo - d.Found.Hi)))).tdiv (W (d.Found.Hi - d.Clean.Lo)))), .int .i64 (W ((W ((W ((W (d.Rate.Hi * (W (d.Strong.Hi - d.Found.Lo)))) + (W (d.Found.Lo - d.Clean.Hi)))) - 1)).tdiv (W (d.Found.Lo - d.Clean.Hi))))]) ag_24 rfl rfl (cells_box (n := 2) m0 rfl)) (show look _ 3 = _ from rfl) ⟨rfl, (hc.drop k0)⟩

def kit_Same_int_b7 (N : Nat) (a_ : List Int) (b_ : List Int) (i_1 : Int) : Option (Step (Int) (Bool)) :=
  cond (decide (i_1 < ((a_.length : Nat) : Int)))
  (Option.bind (getI a_ i_1) fun e_1 =>
  Option.bind (getI b_ i_1) fun e_2 =>
  cond (e_1 != e_2)
  (some (.ret false))
  (some (.cont (W (i_1 + 1)))))
  (some (.brk i_1))
def kit_Same_int (N : Nat) (a_ : List Int) (b_ : List Int) : Option (Bool) :=
  cond (((a_.length : Nat) : Int) != ((b_.length : Nat) : Int))
  (some false)
  (Option.bind (loopO (fun s7 => kit_Same_int_b7 N a_ b_ s7) N 0) fun x7 =>
  exK x7 (fun s7 => some true) some)
theorem kit_Same_int_ok {N : Nat} {G : Pers} {Lf : List Ent} {w : World} (a_ : List Int) (b_ : List Int) {a__p : Option Addr} {a__c : Nat} {b__p : Option Addr} {b__c : Nat} (h_a_ : Rd G 1 a__p a__c (a_.map encI_i64)) (h_b_ : Rd G 1 b__p b__c (b_.map encI_i64)) (hc : Ctx G (Lf) w) {res : Bool} (hF : kit_Same_int N a_ b_ = some res) : Calls Try.prog 41 #[.slice a__p a_.length a__c, .slice b__p b_.length b__c] w (fun e w => e = .returned (.bool res) ∧ Ctx G (Lf) w) := by
  unfold kit_Same_int at hF
  refine fnIn (args := [.slice a__p a_.length a__c, .slice b__p b_.length b__c]) Try.func41 rfl Try.ntmps41 rfl fun a hf => ?_
  refine wp_seq_k fun K1 h1 => ?_
  refine cReg ?_
  refine stP hf rfl rfl rfl (pA rfl) fun a hf => ?_
  refine cNil ?_
  refine h1 _ _ ?_
  refine wp_seq_k fun K2 h2 => ?_
  refine wp_seq_k fun K3 h3 => ?_
  refine cReg ?_
  refine stP hf rfl rfl rfl (pM rfl) fun a hf => ?_
  refine stP hf rfl rfl rfl (pLenS Try.underlying43 rfl) fun a hf => ?_
  refine stP hf rfl rfl rfl (pM rfl) fun a hf => ?_
  refine stP hf rfl rfl rfl (pLenS Try.underlying43 rfl) fun a hf => ?_
  refine stP hf rfl rfl rfl (pNe rfl rfl) fun a hf => ?_
  refine cNil ?_
  refine h3 _ _ ?_
  refine cCond (b := (((a_.length : Nat) : Int) != ((b_.length : Nat) : Int))) hf rfl (fun hb => ?_) (fun hb => ?_)
  · replace hF := condT hb hF
    clear hb
    refine wp_seq_k fun K4 h4 => ?_
    refine cReg ?_
    refine stP hf rfl rfl rfl (pA rfl) fun a hf => ?_
    refine cNil ?_
    refine h4 _ _ ?_
    refine wp_ret ?_
    refine xThenR ?_
    obtain rfl := Option.some.inj hF
    exact fnOut1 (by simp) rfl Try.results41 hf hc (show look _ 4 = _ from rfl) ⟨rfl, hc⟩
  · replace hF := condF hb hF
    clear hb
    refine wp_skip ?_
    refine h2 _ _ ?_
    refine wp_seq_k fun K5 h5 => ?_
    refine wp_seq_k fun K6 h6 => ?_
    refine cReg ?_
    refine stP hf rfl rfl rfl (pA rfl) fun a hf => ?_
    refine cNil ?_
    refine h6 _ _ ?_
    refine wp_block ?_
    obtain ⟨x7, hx7, hF⟩ := bnd_some hF
    let S7 : Int → Act → World → Prop := (fun (zz : Int) a w => Has 26 a [(0, .slice a__p a_.length a__c), (1, .slice b__p b_.length b__c), (5, .int .i64 zz)] ∧ Ctx G (Lf) w)
    have hr7 : ∀ (zz : Int) a w, x7 = .go zz → S7 zz a w → K5 a w := by
      rintro i_1 a w rfl ⟨hf, hc⟩
      replace hF : _ = some res := hF
      refine h5 _ _ ?_
      refine wp_seq_k fun K8 h8 => ?_
      refine cReg ?_
      refine stP hf rfl rfl rfl (pA rfl) fun a hf => ?_
      refine cNil ?_
      refine h8 _ _ ?_
      refine wp_ret ?_
      obtain rfl := Option.some.inj hF
      exact fnOut1 (by simp) rfl Try.results41 hf hc (show look _ 4 = _ from rfl) ⟨rfl, hc⟩
    have ho7 : ∀ r, x7 = .out r → r = res := by
      rintro r rfl
      exact Option.some.inj hF
    refine cLoop N (loopW (S := S7) (x := x7) ?_ N 0 _ _ ⟨hf.keep ⟨rfl, rfl, rfl, trivial⟩, hc⟩ hx7)
    clear hF hf hc
    rintro i_1 st7 a w KB7 ⟨hf, hc⟩ hF hfin7 hK7
    unfold kit_Same_int_b7 at hF
    refine wp_seq_k fun K9 h9 => ?_
    refine wp_seq_k fun K10 h10 => ?_
    refine cReg ?_
    refine stP hf rfl rfl rfl (pM rfl) fun a hf => ?_
    refine stP hf rfl rfl rfl (pM rfl) fun a hf => ?_
    refine stP hf rfl rfl rfl (pLenS Try.underlying43 rfl) fun a hf => ?_
    refine stP hf rfl rfl rfl (pLt rfl rfl) fun a hf => ?_
    refine cNil ?_
    refine h10 _ _ ?_
    refine cCond (b := (decide (i_1 < ((a_.length : Nat) : Int)))) hf rfl (fun hb => ?_) (fun hb => ?_)
    · replace hF := condT hb hF
      clear hb
      refine wp_skip ?_
      refine h9 _ _ ?_
      refine wp_seq_k fun K11 h11 => ?_
      refine wp_block ?_
      refine wp_seq_k fun K12 h12 => ?_
      obtain ⟨e_1, he_1, hF⟩ := bnd_some hF
      obtain ⟨b_1, o, ha, hp_1⟩ := h_a_.atm he_1
      obtain ⟨e_2, he_2, hF⟩ := bnd_some hF
      obtain ⟨b_2, o_1, ha_1, hp_2⟩ := h_b_.atm he_2
      refine cQ hc follows_mx (by kernel_rfl) ?_
      refine qE hf rfl rfl rfl (Pu.ev (pM rfl)) fun a hf => ?_
      refine qE hf rfl rfl rfl (Pu.ev (pM rfl)) fun a hf => ?_
      refine qE hf rfl rfl rfl (Pu.ev (pIA Try.underlying43 sz_3 rfl rfl ha)) fun a hf => ?_
      refine qE hf rfl rfl rfl (eLd1 sc_3 rfl (cell_pc (j := 0) hp_1 rfl)) fun a hf => ?_
      refine qE hf rfl rfl rfl (Pu.ev (pM rfl)) fun a hf => ?_
      refine qE hf rfl rfl rfl (Pu.ev (pM rfl)) fun a hf => ?_
      refine qE hf rfl rfl rfl (Pu.ev (pIA Try.underlying43 sz_3 rfl rfl ha_1)) fun a hf => ?_
      refine qE hf rfl rfl rfl (eLd1 sc_3 rfl (cell_pc (j := 0) hp_2 rfl)) fun a hf => ?_
      refine qE hf rfl rfl rfl (Pu.ev (pNe rfl rfl)) fun a hf => ?_
      intro w hc
      refine h12 _ _ ?_
      refine cCond (b := (e_1 != e_2)) hf rfl (fun hb => ?_) (fun hb => ?_)
      · replace hF := condT hb hF
        clear hb
        refine wp_seq_k fun K13 h13 => ?_
        refine cReg ?_
        refine stP hf rfl rfl rfl (pA rfl) fun a hf => ?_
        refine cNil ?_
        refine h13 _ _ ?_
        refine wp_ret ?_
        refine xBlkR ?_
        refine xThenR ?_
        refine xThenR ?_
        have he := Option.some.inj hF
        rw [← he] at hfin7
        replace hF := ho7 _ hfin7
        refine xBlkR ?_
        refine xThenR ?_
        obtain rfl := hF
        exact fnOut1 (by simp) rfl Try.results41 hf hc (show look _ 4 = _ from rfl) ⟨rfl, hc⟩
      · replace hF := condF hb hF
        clear hb
        refine wp_skip ?_
        refine h11 _ _ ?_
        refine cReg ?_
        refine stP hf rfl rfl rfl (pM rfl) fun a hf => ?_
        refine stP hf rfl rfl rfl (pAdd rfl rfl) fun a hf => ?_
        refine stP hf rfl rfl rfl (pA rfl) fun a hf => ?_
        refine cNil ?_
        exact hK7 (W (i_1 + 1)) _ _ (Option.some.inj hF).symm ⟨hf.keep ⟨rfl, rfl, rfl, trivial⟩, hc⟩
    · replace hF := condF hb hF
      clear hb
      refine wp_exit ?_
      refine xThen ?_
      refine xThen ?_
      have he := Option.some.inj hF
      rw [← he] at hfin7
      refine cHit ?_
      exact hr7 _ _ _ hfin7 ⟨hf.keep ⟨rfl, rfl, rfl, trivial⟩, hc⟩

def gauge_methods_1 (s_ : api_Span) : Bool :=
  (gauge_right s_ (-1000000000000) 1000000000000)
theorem gauge_methods_1_ok {G : Pers} {Lf : List Ent} {w : World} (s_ : api_Span)   (hc : Ctx G (Lf) w) {res : Bool} (hF : gauge_methods_1 s_ = res) : Calls Try.prog 109 #[.agg #[.int .i64 s_.Lo, .int .i64 s_.Hi]] w (fun e w => e = .returned (.bool res) ∧ Ctx G (Lf) w) := by
  unfold gauge_methods_1 at hF
  refine fnIn (args := [.agg #[.int .i64 s_.Lo, .int .i64 s_.Hi]]) Try.func109 rfl Try.ntmps109 rfl fun a hf => ?_
  refine wp_seq_k fun K1 h1 => ?_
  refine cReg ?_
  refine stBx (cs := [.int .i64 s_.Lo, .int .i64 s_.Hi]) hf hc rfl rfl rfl rfl fun b_1 a w hf hc => ?_
  refine stP hf rfl rfl rfl (pA rfl) fun a hf => ?_
  refine cNil ?_
  refine h1 _ _ ?_
  refine wp_seq_k fun K2 h2 => ?_
  refine cReg ?_
  refine stE hf hc rfl rfl rfl (eLdN (vs := [.int .i64 s_.Lo, .int .i64 s_.Hi]) ag_24 rfl rfl (cells_box (n := 2) m0 rfl)) fun a w hf hc => ?_
  refine stE hf hc rfl rfl rfl (eC (v := .bool (gauge_right s_ (-1000000000000) 1000000000000)) (vs := [.agg #[.int .i64 s_.Lo, .int .i64 s_.Hi], .int .i64 (-1000000000000), .int .i64 1000000000000]) (caps := []) en_52 rfl rfl rfl rfl (fun w hc => gauge_right_ok s_ (-1000000000000) 1000000000000 hc rfl)) fun a w hf hc => ?_
  refine stP hf rfl rfl rfl (pA rfl) fun a hf => ?_
  refine cNil ?_
  refine h2 _ _ ?_
  refine wp_ret ?_
  obtain rfl := hF
  replace hc := hc.drop k0
  exact fnOut1 (by simp) rfl Try.results109 hf hc (show look _ 2 = _ from rfl) ⟨rfl, hc⟩

def gauge_every_api_Span_1_s2 (x : api_Span) : Bool :=
  (!(gauge_methods_1 x))
theorem gauge_every_api_Span_1_s2_ok {G : Pers} {Lf : List Ent} {w : World} (x : api_Span) {b_ : Nat}  (hc : Ctx G (.box b_ [.func (.func 109) #[] #[]] 107 :: Lf) w) {res : Bool} (hF : gauge_every_api_Span_1_s2 x = res) : Calls Try.prog 94 #[.agg #[.int .i64 x.Lo, .int .i64 x.Hi], .pointer (some ⟨b_, 0, none⟩)] w (fun e w => e = .returned (.bool res) ∧ Ctx G (.box b_ [.func (.func 109) #[] #[]] 107 :: Lf) w) := by
  unfold gauge_every_api_Span_1_s2 at hF
  refine fnIn (args := [.agg #[.int .i64 x.Lo, .int .i64 x.Hi], .pointer (some ⟨b_, 0, none⟩)]) Try.func94 rfl Try.ntmps94 rfl fun a hf => ?_
  refine wp_seq_k fun K1 h1 => ?_
  refine cReg ?_
  refine stBx (cs := [.int .i64 x.Lo, .int .i64 x.Hi]) hf hc rfl rfl rfl rfl fun b_1 a w hf hc => ?_
  refine stP hf rfl rfl rfl (pA rfl) fun a hf => ?_
  refine cNil ?_
  refine h1 _ _ ?_
  refine wp_seq_k fun K2 h2 => ?_
  refine cReg ?_
  refine stE hf hc rfl rfl rfl (eLd1 sc_107 rfl (cell_box m1 rfl)) fun a w hf hc => ?_
  refine stE hf hc rfl rfl rfl (eLdN (vs := [.int .i64 x.Lo, .int .i64 x.Hi]) ag_24 rfl rfl (cells_box (n := 2) m0 rfl)) fun a w hf hc => ?_
  refine stE hf hc rfl rfl rfl (eC (v := .bool (gauge_methods_1 x)) (vs := [.agg #[.int .i64 x.Lo, .int .i64 x.Hi]]) (caps := []) en_109 rfl rfl rfl rfl (fun w hc => gauge_methods_1_ok x hc rfl)) fun a w hf hc => ?_
  refine stP hf rfl rfl rfl (pNot rfl) fun a hf => ?_
  refine stP hf rfl rfl rfl (pA rfl) fun a hf => ?_
  refine cNil ?_
  refine h2 _ _ ?_
  refine wp_ret ?_
  obtain rfl := hF
  replace hc := hc.drop k0
  exact fnOut1 (by simp) rfl Try.results94 hf hc (show look _ 3 = _ from rfl) ⟨rfl, hc⟩

end Go.Nilo
