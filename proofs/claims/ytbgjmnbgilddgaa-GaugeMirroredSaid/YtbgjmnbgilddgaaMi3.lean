/-
  What functions of the Go text compute, as plain functions, and that they do, part 3 of 4. Conditions: what each theorem names.
-/
import Derived.Test.YtbgjmnbgilddgaaMi2
import Derived.Test.YtbgjmnbgilddgaaProg
set_option linter.unusedVariables false
set_option maxRecDepth 100000
set_option maxHeartbeats 4000000
namespace Go.Nilo
open Go.Proofs


def gauge_Thinned (N : Nat) (d : gauge_Dye) : Option (api_Span × Int) :=
  Option.bind (gauge_every_api_Span N ([d.Rate, d.Strong, d.Found, d.Clean] : List api_Span)) fun r =>
  cond (!r)
  (some ((⟨0, 0⟩ : api_Span), 40))
  (cond ((decide (d.Found.Lo ≤ d.Clean.Hi)) || (decide (d.Strong.Lo < d.Found.Hi)))
  (some ((⟨0, 0⟩ : api_Span), 7))
  (Option.bind (nz (W (d.Found.Hi - d.Clean.Lo))) fun un =>
  Option.bind (nz (W (d.Found.Lo - d.Clean.Hi))) fun un_1 =>
  some ((⟨W ((W (d.Rate.Lo * (W (d.Strong.Lo - d.Found.Hi)))).tdiv (W (d.Found.Hi - d.Clean.Lo))), W ((W ((W ((W (d.Rate.Hi * (W (d.Strong.Hi - d.Found.Lo)))) + (W (d.Found.Lo - d.Clean.Hi)))) - 1)).tdiv (W (d.Found.Lo - d.Clean.Hi)))⟩ : api_Span), 0)))
theorem gauge_Thinned_ok {N : Nat} {G : Pers} {Lf : List Ent} {w : World} (d : gauge_Dye)   (hc : Ctx G (Lf) w) {res : api_Span × Int} (hF : gauge_Thinned N d = some res) : Calls Try.prog 13 #[.agg #[.int .i64 d.Rate.Lo, .int .i64 d.Rate.Hi, .int .i64 d.Strong.Lo, .int .i64 d.Strong.Hi, .int .i64 d.Found.Lo, .int .i64 d.Found.Hi, .int .i64 d.Clean.Lo, .int .i64 d.Clean.Hi]] w (fun e w => e = .returned (.tuple #[.agg #[.int .i64 res.1.Lo, .int .i64 res.1.Hi], .int .i64 res.2]) ∧ Ctx G (Lf) w) := by
  unfold gauge_Thinned at hF
  refine fnIn (args := [.agg #[.int .i64 d.Rate.Lo, .int .i64 d.Rate.Hi, .int .i64 d.Strong.Lo, .int .i64 d.Strong.Hi, .int .i64 d.Found.Lo, .int .i64 d.Found.Hi, .int .i64 d.Clean.Lo, .int .i64 d.Clean.Hi]]) Try.func13 rfl Try.ntmps13 rfl fun a hf => ?_
  refine wp_seq_k fun K1 h1 => ?_
  refine cReg ?_
  refine stBx (cs := [.int .i64 d.Rate.Lo, .int .i64 d.Rate.Hi, .int .i64 d.Strong.Lo, .int .i64 d.Strong.Hi, .int .i64 d.Found.Lo, .int .i64 d.Found.Hi, .int .i64 d.Clean.Lo, .int .i64 d.Clean.Hi]) hf hc rfl rfl rfl rfl fun b_1 a w hf hc => ?_
  refine stAl (cs := [.int .i64 0, .int .i64 0]) hf hc rfl rfl zr_24 rfl fun b_2 a w hf hc => ?_
  refine stP hf rfl rfl rfl (pA rfl) fun a hf => ?_
  refine cNil ?_
  refine h1 _ _ ?_
  refine wp_seq_k fun K2 h2 => ?_
  refine wp_block ?_
  refine wp_seq_k fun K3 h3 => ?_
  refine cReg ?_
  refine stP hf rfl rfl rfl (pFA fa_26_0 rfl) fun a hf => ?_
  refine stE hf hc rfl rfl rfl (eLdN (vs := [.int .i64 d.Rate.Lo, .int .i64 d.Rate.Hi]) ag_24 rfl rfl (cells_box (n := 2) m1 rfl)) fun a w hf hc => ?_
  refine stP hf rfl rfl rfl (pFA fa_26_1 rfl) fun a hf => ?_
  refine stE hf hc rfl rfl rfl (eLdN (vs := [.int .i64 d.Strong.Lo, .int .i64 d.Strong.Hi]) ag_24 rfl rfl (cells_box (n := 2) m1 rfl)) fun a w hf hc => ?_
  refine stP hf rfl rfl rfl (pFA fa_26_2 rfl) fun a hf => ?_
  refine stE hf hc rfl rfl rfl (eLdN (vs := [.int .i64 d.Found.Lo, .int .i64 d.Found.Hi]) ag_24 rfl rfl (cells_box (n := 2) m1 rfl)) fun a w hf hc => ?_
  refine stP hf rfl rfl rfl (pFA fa_26_3 rfl) fun a hf => ?_
  refine stE hf hc rfl rfl rfl (eLdN (vs := [.int .i64 d.Clean.Lo, .int .i64 d.Clean.Hi]) ag_24 rfl rfl (cells_box (n := 2) m1 rfl)) fun a w hf hc => ?_
  refine stBS (rows := ([d.Rate, d.Strong, d.Found, d.Clean] : List api_Span).map enc_api_Span) (vs := [(0, .agg #[.int .i64 d.Rate.Lo, .int .i64 d.Rate.Hi]), (1, .agg #[.int .i64 d.Strong.Lo, .int .i64 d.Strong.Hi]), (2, .agg #[.int .i64 d.Found.Lo, .int .i64 d.Found.Hi]), (3, .agg #[.int .i64 d.Clean.Lo, .int .i64 d.Clean.Hi])]) hf hc rfl rfl sl_72 rfl ⟨rfl, rfl, rfl, rfl, rfl, rfl, rfl, rfl, rfl, rfl, rfl, rfl, trivial⟩ rfl rfl fun b_3 a w hf hc => ?_
  obtain ⟨r, hr, hF⟩ := bnd_some hF
  refine stE hf hc rfl rfl rfl (eC (v := .bool r) (vs := [.slice (some ⟨b_3, 0, none⟩) 4 4, .func (.func 51) #[] #[]]) (caps := []) en_50 rfl rfl rfl rfl (fun w hc => by obtain ⟨G1, hle1, hrd1, hc, hth1⟩ := lend hc k0; exact (gauge_every_api_Span_ok ([d.Rate, d.Strong, d.Found, d.Clean] : List api_Span) hrd1 hc hr).mono fun e w h => ⟨h.1, ((hth1 _ _ h.2).unpick k0)⟩)) fun a w hf hc => ?_
  refine stP hf rfl rfl rfl (pNot rfl) fun a hf => ?_
  refine stP hf rfl rfl rfl (pA rfl) fun a hf => ?_
  refine cNil ?_
  refine h3 _ _ ?_
  refine cCond (b := (!r)) hf rfl (fun hb => ?_) (fun hb => ?_)
  · replace hF := condT hb hF
    clear hb
    refine wp_seq_k fun K4 h4 => ?_
    refine cReg ?_
    refine stP hf rfl rfl rfl (pBuildS (cells := [.int .i64 0, .int .i64 0]) bt_24 rfl rfl) fun a hf => ?_
    refine stSt (vs := [.int .i64 0, .int .i64 0]) hf hc rfl rfl rfl rfl sz_24 rfl rfl u1 fun w hc => ?_
    refine stP hf rfl rfl rfl (pA rfl) fun a hf => ?_
    refine cNil ?_
    refine h4 _ _ ?_
    refine wp_ret ?_
    refine xBlkR ?_
    refine xThenR ?_
    obtain rfl := Option.some.inj hF
    replace hc := hc.drop k2
    replace hc := hc.drop k0
    exact fnOut2 (by simp) rfl Try.results13 hf hc (rv_cellN (vs := [.int .i64 0, .int .i64 0]) ag_24 rfl rfl (cells_box (n := 2) m0 rfl)) (show look _ 3 = _ from rfl) ⟨rfl, (hc.drop k0)⟩
  · replace hF := condF hb hF
    clear hb
    refine wp_seq_k fun K5 h5 => ?_
    refine cReg ?_
    refine stP hf rfl rfl rfl (pFA fa_26_3 rfl) fun a hf => ?_
    refine stP hf rfl rfl rfl (pFA fa_24_1 rfl) fun a hf => ?_
    refine stE hf hc rfl rfl rfl (eLd1 sc_3 rfl (cell_box m2 rfl)) fun a w hf hc => ?_
    refine stP hf rfl rfl rfl (pFA fa_26_2 rfl) fun a hf => ?_
    refine stP hf rfl rfl rfl (pFA fa_24_0 rfl) fun a hf => ?_
    refine stE hf hc rfl rfl rfl (eLd1 sc_3 rfl (cell_box m2 rfl)) fun a w hf hc => ?_
    refine stP hf rfl rfl rfl (pGe rfl rfl) fun a hf => ?_
    refine stP hf rfl rfl rfl (pM rfl) fun a hf => ?_
    refine stCut 8 (fun a w => Has 81 a [(1, .pointer (some ⟨b_1, 0, none⟩)), (2, .pointer (some ⟨b_2, 0, none⟩)), (20, .pointer (some ⟨b_1, 6, none⟩)), (21, .pointer (some ⟨b_1, 7, none⟩)), (22, .int .i64 d.Clean.Hi), (23, .pointer (some ⟨b_1, 4, none⟩)), (24, .pointer (some ⟨b_1, 4, none⟩)), (25, .int .i64 d.Found.Lo), (26, .bool (decide (d.Found.Lo ≤ d.Clean.Hi))), (27, .bool (decide (d.Found.Lo ≤ d.Clean.Hi))), (35, .bool ((decide (d.Found.Lo ≤ d.Clean.Hi)) || (decide (d.Strong.Lo < d.Found.Hi))))] ∧ Ctx G (.row (some ⟨b_3, 0, none⟩) 4 (([d.Rate, d.Strong, d.Found, d.Clean] : List api_Span).map enc_api_Span) 24 2 :: .box b_2 [.int .i64 0, .int .i64 0] 24 :: .box b_1 [.int .i64 d.Rate.Lo, .int .i64 d.Rate.Hi, .int .i64 d.Strong.Lo, .int .i64 d.Strong.Hi, .int .i64 d.Found.Lo, .int .i64 d.Found.Hi, .int .i64 d.Clean.Lo, .int .i64 d.Clean.Hi] 26 :: Lf) w) ?_ ?_
    · cases hb : (decide (d.Found.Lo ≤ d.Clean.Hi))
      · rw [hb] at hf
        refine stP hf rfl rfl rfl (pFA fa_26_2 rfl) fun a hf => ?_
        refine stP hf rfl rfl rfl (pFA fa_24_1 rfl) fun a hf => ?_
        refine stE hf hc rfl rfl rfl (eLd1 sc_3 rfl (cell_box m2 rfl)) fun a w hf hc => ?_
        refine stP hf rfl rfl rfl (pFA fa_26_1 rfl) fun a hf => ?_
        refine stP hf rfl rfl rfl (pFA fa_24_0 rfl) fun a hf => ?_
        refine stE hf hc rfl rfl rfl (eLd1 sc_3 rfl (cell_box m2 rfl)) fun a w hf hc => ?_
        refine stP hf rfl rfl rfl (pGt rfl rfl) fun a hf => ?_
        refine stP hf rfl rfl rfl (pPf rfl rfl) fun a hf => ?_
        exact cNil ⟨hf.keep ⟨rfl, rfl, rfl, rfl, rfl, rfl, rfl, rfl, rfl, rfl, rfl, trivial⟩, hc⟩
      · rw [hb] at hf
        refine stS hf rfl rfl rfl fun a hf => ?_
        refine stS hf rfl rfl rfl fun a hf => ?_
        refine stS hf rfl rfl rfl fun a hf => ?_
        refine stS hf rfl rfl rfl fun a hf => ?_
        refine stS hf rfl rfl rfl fun a hf => ?_
        refine stS hf rfl rfl rfl fun a hf => ?_
        refine stS hf rfl rfl rfl fun a hf => ?_
        refine stP hf rfl rfl rfl (pPt rfl rfl) fun a hf => ?_
        exact cNil ⟨hf.keep ⟨rfl, rfl, rfl, rfl, rfl, rfl, rfl, rfl, rfl, rfl, rfl, trivial⟩, hc⟩
    intro a w ⟨hf, hc⟩
    refine stP hf rfl rfl rfl (pA rfl) fun a hf => ?_
    refine cNil ?_
    refine h5 _ _ ?_
    refine cCond (b := ((decide (d.Found.Lo ≤ d.Clean.Hi)) || (decide (d.Strong.Lo < d.Found.Hi)))) hf rfl (fun hb => ?_) (fun hb => ?_)
    · replace hF := condT hb hF
      clear hb
      refine wp_seq_k fun K6 h6 => ?_
      refine cReg ?_
      refine stP hf rfl rfl rfl (pBuildS (cells := [.int .i64 0, .int .i64 0]) bt_24 rfl rfl) fun a hf => ?_
      refine stSt (vs := [.int .i64 0, .int .i64 0]) hf hc rfl rfl rfl rfl sz_24 rfl rfl u1 fun w hc => ?_
      refine stP hf rfl rfl rfl (pA rfl) fun a hf => ?_
      refine cNil ?_
      refine h6 _ _ ?_
      refine wp_ret ?_
      refine xBlkR ?_
      refine xThenR ?_
      obtain rfl := Option.some.inj hF
      replace hc := hc.drop k2
      replace hc := hc.drop k0
      exact fnOut2 (by simp) rfl Try.results13 hf hc (rv_cellN (vs := [.int .i64 0, .int .i64 0]) ag_24 rfl rfl (cells_box (n := 2) m0 rfl)) (show look _ 3 = _ from rfl) ⟨rfl, (hc.drop k0)⟩
    · replace hF := condF hb hF
      clear hb
      refine wp_skip ?_
      refine h2 _ _ ?_
      refine wp_seq_k fun K7 h7 => ?_
      refine cQ hc follows_mx (by kernel_rfl) ?_
      refine qE hf rfl rfl rfl (Pu.ev (pFA fa_26_2 rfl)) fun a hf => ?_
      refine qE hf rfl rfl rfl (Pu.ev (pFA fa_24_1 rfl)) fun a hf => ?_
      refine qE hf rfl rfl rfl (eLd1 sc_3 rfl (cell_box m2 rfl)) fun a hf => ?_
      refine qE hf rfl rfl rfl (Pu.ev (pFA fa_26_3 rfl)) fun a hf => ?_
      refine qE hf rfl rfl rfl (Pu.ev (pFA fa_24_0 rfl)) fun a hf => ?_
      refine qE hf rfl rfl rfl (eLd1 sc_3 rfl (cell_box m2 rfl)) fun a hf => ?_
      refine qE hf rfl rfl rfl (Pu.ev (pSub rfl rfl)) fun a hf => ?_
      refine qE hf rfl rfl rfl (Pu.ev (pFA fa_26_2 rfl)) fun a hf => ?_
      refine qE hf rfl rfl rfl (Pu.ev (pFA fa_24_0 rfl)) fun a hf => ?_
      refine qE hf rfl rfl rfl (eLd1 sc_3 rfl (cell_box m2 rfl)) fun a hf => ?_
      refine qE hf rfl rfl rfl (Pu.ev (pFA fa_26_3 rfl)) fun a hf => ?_
      refine qE hf rfl rfl rfl (Pu.ev (pFA fa_24_1 rfl)) fun a hf => ?_
      refine qE hf rfl rfl rfl (eLd1 sc_3 rfl (cell_box m2 rfl)) fun a hf => ?_
      refine qE hf rfl rfl rfl (Pu.ev (pSub rfl rfl)) fun a hf => ?_
      refine qE hf rfl rfl rfl (Pu.ev (pA rfl)) fun a hf => ?_
      refine qE hf rfl rfl rfl (Pu.ev (pA rfl)) fun a hf => ?_
      intro w hc
      refine h7 _ _ ?_
      refine wp_seq_k fun K8 h8 => ?_
      obtain ⟨un, hun, hF⟩ := bnd_some hF
      obtain ⟨un_1, hun_1, hF⟩ := bnd_some hF
      refine regionE (fun θ => (⟨none, none, 1, .pointer (some ⟨b_1, 0, none⟩)⟩ :: ⟨none, none, 2, .pointer (some ⟨b_2, 0, none⟩)⟩ :: ⟨none, none, 4, .int .i64 (W (d.Found.Hi - d.Clean.Lo))⟩ :: ⟨none, none, 5, .int .i64 (W (d.Found.Lo - d.Clean.Hi))⟩ :: ⟨some 0, none, 51, .pointer (some ⟨b_1, 0, none⟩)⟩ :: ⟨some 1, none, 52, .pointer (some ⟨b_1, 0, none⟩)⟩ :: ⟨some 2, none, 53, .int .i64 d.Rate.Lo⟩ :: ⟨some 3, none, 54, .pointer (some ⟨b_1, 2, none⟩)⟩ :: ⟨some 4, none, 55, .pointer (some ⟨b_1, 2, none⟩)⟩ :: ⟨some 5, none, 56, .int .i64 d.Strong.Lo⟩ :: ⟨some 6, none, 57, .pointer (some ⟨b_1, 4, none⟩)⟩ :: ⟨some 7, none, 58, .pointer (some ⟨b_1, 5, none⟩)⟩ :: ⟨some 8, none, 59, .int .i64 d.Found.Hi⟩ :: ⟨some 9, none, 60, .int .i64 (W (d.Strong.Lo - d.Found.Hi))⟩ :: ⟨some 10, none, 61, .int .i64 (W (d.Rate.Lo * (W (d.Strong.Lo - d.Found.Hi))))⟩ :: ⟨some 11, none, 62, .int .i64 (W (d.Found.Hi - d.Clean.Lo))⟩ :: ⟨some 12, none, 63, .int .i64 (W ((W (d.Rate.Lo * (W (d.Strong.Lo - d.Found.Hi)))).tdiv (W (d.Found.Hi - d.Clean.Lo))))⟩ :: ⟨some 13, none, 64, .pointer (some ⟨b_1, 0, none⟩)⟩ :: ⟨some 14, none, 65, .pointer (some ⟨b_1, 1, none⟩)⟩ :: ⟨some 15, none, 66, .int .i64 d.Rate.Hi⟩ :: ⟨some 16, none, 67, .pointer (some ⟨b_1, 2, none⟩)⟩ :: ⟨some 17, none, 68, .pointer (some ⟨b_1, 3, none⟩)⟩ :: ⟨some 18, none, 69, .int .i64 d.Strong.Hi⟩ :: ⟨some 19, none, 70, .pointer (some ⟨b_1, 4, none⟩)⟩ :: ⟨some 20, none, 71, .pointer (some ⟨b_1, 4, none⟩)⟩ :: ⟨some 21, none, 72, .int .i64 d.Found.Lo⟩ :: ⟨some 22, none, 73, .int .i64 (W (d.Strong.Hi - d.Found.Lo))⟩ :: ⟨some 23, none, 74, .int .i64 (W (d.Rate.Hi * (W (d.Strong.Hi - d.Found.Lo))))⟩ :: ⟨some 24, none, 75, .int .i64 (W (d.Found.Lo - d.Clean.Hi))⟩ :: ⟨some 25, none, 76, .int .i64 (W ((W (d.Rate.Hi * (W (d.Strong.Hi - d.Found.Lo)))) + (W (d.Found.Lo - d.Clean.Hi))))⟩ :: ⟨some 26, none, 77, .int .i64 (W ((W ((W (d.Rate.Hi * (W (d.Strong.Hi - d.Found.Lo)))) + (W (d.Found.Lo - d.Clean.Hi)))) - 1))⟩ :: ⟨some 27, none, 78, .int .i64 (W (d.Found.Lo - d.Clean.Hi))⟩ :: ⟨some 28, none, 79, .int .i64 (W ((W ((W ((W (d.Rate.Hi * (W (d.Strong.Hi - d.Found.Lo)))) + (W (d.Found.Lo - d.Clean.Hi)))) - 1)).tdiv (W (d.Found.Lo - d.Clean.Hi))))⟩ :: ⟨some 29, none, 80, .agg #[.int .i64 (W ((W (d.Rate.Lo * (W (d.Strong.Lo - d.Found.Hi)))).tdiv (W (d.Found.Hi - d.Clean.Lo)))), .int .i64 (W ((W ((W ((W (d.Rate.Hi * (W (d.Strong.Hi - d.Found.Lo)))) + (W (d.Found.Lo - d.Clean.Hi)))) - 1)).tdiv (W (d.Found.Lo - d.Clean.Hi))))]⟩ :: ⟨some 31, none, 3, .int .i64 0⟩ :: [])) (fun E θ => .row (some ⟨b_3, 0, none⟩) 4 (([d.Rate, d.Strong, d.Found, d.Clean] : List api_Span).map enc_api_Span) 24 2 :: (bif E 30 then .box b_2 [.int .i64 (W ((W (d.Rate.Lo * (W (d.Strong.Lo - d.Found.Hi)))).tdiv (W (d.Found.Hi - d.Clean.Lo)))), .int .i64 (W ((W ((W ((W (d.Rate.Hi * (W (d.Strong.Hi - d.Found.Lo)))) + (W (d.Found.Lo - d.Clean.Hi)))) - 1)).tdiv (W (d.Found.Lo - d.Clean.Hi))))] 24 else .box b_2 [.int .i64 0, .int .i64 0] 24) :: .box b_1 [.int .i64 d.Rate.Lo, .int .i64 d.Rate.Hi, .int .i64 d.Strong.Lo, .int .i64 d.Strong.Hi, .int .i64 d.Found.Lo, .int .i64 d.Found.Hi, .int .i64 d.Clean.Lo, .int .i64 d.Clean.Hi] 26 :: Lf) [] (fun a w => Has 81 a [(2, .pointer (some ⟨b_2, 0, none⟩)), (3, .int .i64 0)] ∧ Ctx G (.row (some ⟨b_3, 0, none⟩) 4 (([d.Rate, d.Strong, d.Found, d.Clean] : List api_Span).map enc_api_Span) 24 2 :: .box b_2 [.int .i64 (W ((W (d.Rate.Lo * (W (d.Strong.Lo - d.Found.Hi)))).tdiv (W (d.Found.Hi - d.Clean.Lo)))), .int .i64 (W ((W ((W ((W (d.Rate.Hi * (W (d.Strong.Hi - d.Found.Lo)))) + (W (d.Found.Lo - d.Clean.Hi)))) - 1)).tdiv (W (d.Found.Lo - d.Clean.Hi))))] 24 :: .box b_1 [.int .i64 d.Rate.Lo, .int .i64 d.Rate.Hi, .int .i64 d.Strong.Lo, .int .i64 d.Strong.Hi, .int .i64 d.Found.Lo, .int .i64 d.Found.Hi, .int .i64 d.Clean.Lo, .int .i64 d.Clean.Hi] 26 :: Lf) w) follows_mx (by kernel_rfl) (by kernel_rfl) (HasE.of hf ⟨rfl, rfl, rfl, rfl, trivial, trivial, trivial, trivial, trivial, trivial, trivial, trivial, trivial, trivial, trivial, trivial, trivial, trivial, trivial, trivial, trivial, trivial, trivial, trivial, trivial, trivial, trivial, trivial, trivial, trivial, trivial, trivial, trivial, trivial, trivial, trivial⟩) hc ⟨?_, ?_, ?_, ?_, ?_, ?_, ?_, ?_, ?_, ?_, ?_, ?_, ?_, ?_, ?_, ?_, ?_, ?_, ?_, ?_, ?_, ?_, ?_, ?_, ?_, ?_, ?_, ?_, ?_, ?_, ?_, ?_, trivial⟩ ?_ ?_
      · intro E θ a w hD hi hp he hc
        have hf := he.h0
        replace hf := hf.more he 0 rfl onT
        refine stP hf rfl rfl rfl (pFA fa_26_0 rfl) fun a hf => ?_
        refine cNil ?_
        refine xThenN ?_
        intro ds u hau
        refine ⟨θ, he.put0 hi hau hf rfl 4 rfl rfl, ?_⟩
        exact hc
      · intro E θ a w hD hi hp he hc
        have e0 := hp.of (k := 0) rfl
        have hf := he.h0
        replace hf := hf.more he 4 rfl (onP e0)
        refine stP hf rfl rfl rfl (pFA fa_24_0 rfl) fun a hf => ?_
        refine cNil ?_
        refine xThenN ?_
        intro ds u hau
        refine ⟨θ, he.put0 hi hau hf rfl 5 rfl rfl, ?_⟩
        exact hc
      · intro E θ a w hD hi hp he hc
        have e1 := hp.of (k := 1) rfl
        have hf := he.h0
        replace hf := hf.more he 5 rfl (onP e1)
        refine stE hf hc rfl rfl rfl (eLd1 sc_3 rfl (cell_box m2 rfl)) fun a w hf hc => ?_
        refine cNil ?_
        refine xThenN ?_
        intro ds u hau
        refine ⟨θ, he.put0 hi hau hf rfl 6 rfl rfl, ?_⟩
        exact hc
      · intro E θ a w hD hi hp he hc
        have hf := he.h0
        replace hf := hf.more he 0 rfl onT
        refine stP hf rfl rfl rfl (pFA fa_26_1 rfl) fun a hf => ?_
        refine cNil ?_
        refine xThenN ?_
        intro ds u hau
        refine ⟨θ, he.put0 hi hau hf rfl 7 rfl rfl, ?_⟩
        exact hc
      · intro E θ a w hD hi hp he hc
        have e3 := hp.of (k := 3) rfl
        have hf := he.h0
        replace hf := hf.more he 7 rfl (onP e3)
        refine stP hf rfl rfl rfl (pFA fa_24_0 rfl) fun a hf => ?_
        refine cNil ?_
        refine xThenN ?_
        intro ds u hau
        refine ⟨θ, he.put0 hi hau hf rfl 8 rfl rfl, ?_⟩
        exact hc
      · intro E θ a w hD hi hp he hc
        have e4 := hp.of (k := 4) rfl
        have hf := he.h0
        replace hf := hf.more he 8 rfl (onP e4)
        refine stE hf hc rfl rfl rfl (eLd1 sc_3 rfl (cell_box m2 rfl)) fun a w hf hc => ?_
        refine cNil ?_
        refine xThenN ?_
        intro ds u hau
        refine ⟨θ, he.put0 hi hau hf rfl 9 rfl rfl, ?_⟩
        exact hc
      · intro E θ a w hD hi hp he hc
        have hf := he.h0
        replace hf := hf.more he 0 rfl onT
        refine stP hf rfl rfl rfl (pFA fa_26_2 rfl) fun a hf => ?_
        refine cNil ?_
        refine xThenN ?_
        intro ds u hau
        refine ⟨θ, he.put0 hi hau hf rfl 10 rfl rfl, ?_⟩
        exact hc
      · intro E θ a w hD hi hp he hc
        have e6 := hp.of (k := 6) rfl
        have hf := he.h0
        replace hf := hf.more he 10 rfl (onP e6)
        refine stP hf rfl rfl rfl (pFA fa_24_1 rfl) fun a hf => ?_
        refine cNil ?_
        refine xThenN ?_
        intro ds u hau
        refine ⟨θ, he.put0 hi hau hf rfl 11 rfl rfl, ?_⟩
        exact hc
      · intro E θ a w hD hi hp he hc
        have e7 := hp.of (k := 7) rfl
        have hf := he.h0
        replace hf := hf.more he 11 rfl (onP e7)
        refine stE hf hc rfl rfl rfl (eLd1 sc_3 rfl (cell_box m2 rfl)) fun a w hf hc => ?_
        refine cNil ?_
        refine xThenN ?_
        intro ds u hau
        refine ⟨θ, he.put0 hi hau hf rfl 12 rfl rfl, ?_⟩
        exact hc
      · intro E θ a w hD hi hp he hc
        have e5 := hp.of (k := 5) rfl
        have e8 := hp.of (k := 8) rfl
        have hf := he.h0
        replace hf := hf.more he 9 rfl (onP e5)
        replace hf := hf.more he 12 rfl (onP e8)
        refine stP hf rfl rfl rfl (pSub rfl rfl) fun a hf => ?_
        refine cNil ?_
        refine xThenN ?_
        intro ds u hau
        refine ⟨θ, he.put0 hi hau hf rfl 13 rfl rfl, ?_⟩
        exact hc
      · intro E θ a w hD hi hp he hc
        have e2 := hp.of (k := 2) rfl
        have e9 := hp.of (k := 9) rfl
        have hf := he.h0
        replace hf := hf.more he 6 rfl (onP e2)
        replace hf := hf.more he 13 rfl (onP e9)
        refine stP hf rfl rfl rfl (pMul rfl rfl) fun a hf => ?_
        refine cNil ?_
        refine xThenN ?_
        intro ds u hau
        refine ⟨θ, he.put0 hi hau hf rfl 14 rfl rfl, ?_⟩
        exact hc
      · intro E θ a w hD hi hp he hc
        have hf := he.h0
        replace hf := hf.more he 2 rfl onT
        refine stP hf rfl rfl rfl (pM rfl) fun a hf => ?_
        refine cNil ?_
        refine xThenN ?_
        intro ds u hau
        refine ⟨θ, he.put0 hi hau hf rfl 15 rfl rfl, ?_⟩
        exact hc
      · intro E θ a w hD hi hp he hc
        have e10 := hp.of (k := 10) rfl
        have e11 := hp.of (k := 11) rfl
        have hf := he.h0
        replace hf := hf.more he 14 rfl (onP e10)
        replace hf := hf.more he 15 rfl (onP e11)
        refine stP hf rfl rfl rfl (pQuo rfl rfl (nz_spec hun)) fun a hf => ?_
        refine cNil ?_
        refine xThenN ?_
        intro ds u hau
        refine ⟨θ, he.put0 hi hau hf rfl 16 rfl rfl, ?_⟩
        exact hc
      · intro E θ a w hD hi hp he hc
        have hf := he.h0
        replace hf := hf.more he 0 rfl onT
        refine stP hf rfl rfl rfl (pFA fa_26_0 rfl) fun a hf => ?_
        refine cNil ?_
        refine xThenN ?_
        intro ds u hau
        refine ⟨θ, he.put0 hi hau hf rfl 17 rfl rfl, ?_⟩
        exact hc
      · intro E θ a w hD hi hp he hc
        have e13 := hp.of (k := 13) rfl
        have hf := he.h0
        replace hf := hf.more he 17 rfl (onP e13)
        refine stP hf rfl rfl rfl (pFA fa_24_1 rfl) fun a hf => ?_
        refine cNil ?_
        refine xThenN ?_
        intro ds u hau
        refine ⟨θ, he.put0 hi hau hf rfl 18 rfl rfl, ?_⟩
        exact hc
      · intro E θ a w hD hi hp he hc
        have e14 := hp.of (k := 14) rfl
        have hf := he.h0
        replace hf := hf.more he 18 rfl (onP e14)
        refine stE hf hc rfl rfl rfl (eLd1 sc_3 rfl (cell_box m2 rfl)) fun a w hf hc => ?_
        refine cNil ?_
        refine xThenN ?_
        intro ds u hau
        refine ⟨θ, he.put0 hi hau hf rfl 19 rfl rfl, ?_⟩
        exact hc
      · intro E θ a w hD hi hp he hc
        have hf := he.h0
        replace hf := hf.more he 0 rfl onT
        refine stP hf rfl rfl rfl (pFA fa_26_1 rfl) fun a hf => ?_
        refine cNil ?_
        refine xThenN ?_
        intro ds u hau
        refine ⟨θ, he.put0 hi hau hf rfl 20 rfl rfl, ?_⟩
        exact hc
      · intro E θ a w hD hi hp he hc
        have e16 := hp.of (k := 16) rfl
        have hf := he.h0
        replace hf := hf.more he 20 rfl (onP e16)
        refine stP hf rfl rfl rfl (pFA fa_24_1 rfl) fun a hf => ?_
        refine cNil ?_
        refine xThenN ?_
        intro ds u hau
        refine ⟨θ, he.put0 hi hau hf rfl 21 rfl rfl, ?_⟩
        exact hc
      · intro E θ a w hD hi hp he hc
        have e17 := hp.of (k := 17) rfl
        have hf := he.h0
        replace hf := hf.more he 21 rfl (onP e17)
        refine stE hf hc rfl rfl rfl (eLd1 sc_3 rfl (cell_box m2 rfl)) fun a w hf hc => ?_
        refine cNil ?_
        refine xThenN ?_
        intro ds u hau
        refine ⟨θ, he.put0 hi hau hf rfl 22 rfl rfl, ?_⟩
        exact hc
      · intro E θ a w hD hi hp he hc
        have hf := he.h0
        replace hf := hf.more he 0 rfl onT
        refine stP hf rfl rfl rfl (pFA fa_26_2 rfl) fun a hf => ?_
        refine cNil ?_
        refine xThenN ?_
        intro ds u hau
        refine ⟨θ, he.put0 hi hau hf rfl 23 rfl rfl, ?_⟩
        exact hc
      · intro E θ a w hD hi hp he hc
        have e19 := hp.of (k := 19) rfl
        have hf := he.h0
        replace hf := hf.more he 23 rfl (onP e19)
        refine stP hf rfl rfl rfl (pFA fa_24_0 rfl) fun a hf => ?_
        refine cNil ?_
        refine xThenN ?_
        intro ds u hau
        refine ⟨θ, he.put0 hi hau hf rfl 24 rfl rfl, ?_⟩
        exact hc
      · intro E θ a w hD hi hp he hc
        have e20 := hp.of (k := 20) rfl
        have hf := he.h0
        replace hf := hf.more he 24 rfl (onP e20)
        refine stE hf hc rfl rfl rfl (eLd1 sc_3 rfl (cell_box m2 rfl)) fun a w hf hc => ?_
        refine cNil ?_
        refine xThenN ?_
        intro ds u hau
        refine ⟨θ, he.put0 hi hau hf rfl 25 rfl rfl, ?_⟩
        exact hc
      · intro E θ a w hD hi hp he hc
        have e18 := hp.of (k := 18) rfl
        have e21 := hp.of (k := 21) rfl
        have hf := he.h0
        replace hf := hf.more he 22 rfl (onP e18)
        replace hf := hf.more he 25 rfl (onP e21)
        refine stP hf rfl rfl rfl (pSub rfl rfl) fun a hf => ?_
        refine cNil ?_
        refine xThenN ?_
        intro ds u hau
        refine ⟨θ, he.put0 hi hau hf rfl 26 rfl rfl, ?_⟩
        exact hc
      · intro E θ a w hD hi hp he hc
        have e15 := hp.of (k := 15) rfl
        have e22 := hp.of (k := 22) rfl
        have hf := he.h0
        replace hf := hf.more he 19 rfl (onP e15)
        replace hf := hf.more he 26 rfl (onP e22)
        refine stP hf rfl rfl rfl (pMul rfl rfl) fun a hf => ?_
        refine cNil ?_
        refine xThenN ?_
        intro ds u hau
        refine ⟨θ, he.put0 hi hau hf rfl 27 rfl rfl, ?_⟩
        exact hc
      · intro E θ a w hD hi hp he hc
        have hf := he.h0
        replace hf := hf.more he 3 rfl onT
        refine stP hf rfl rfl rfl (pM rfl) fun a hf => ?_
        refine cNil ?_
        refine xThenN ?_
        intro ds u hau
        refine ⟨θ, he.put0 hi hau hf rfl 28 rfl rfl, ?_⟩
        exact hc
      · intro E θ a w hD hi hp he hc
        have e23 := hp.of (k := 23) rfl
        have e24 := hp.of (k := 24) rfl
        have hf := he.h0
        replace hf := hf.more he 27 rfl (onP e23)
        replace hf := hf.more he 28 rfl (onP e24)
        refine stP hf rfl rfl rfl (pAdd rfl rfl) fun a hf => ?_
        refine cNil ?_
        refine xThenN ?_
        intro ds u hau
        refine ⟨θ, he.put0 hi hau hf rfl 29 rfl rfl, ?_⟩
        exact hc
      · intro E θ a w hD hi hp he hc
        have e25 := hp.of (k := 25) rfl
        have hf := he.h0
        replace hf := hf.more he 29 rfl (onP e25)
        refine stP hf rfl rfl rfl (pSub rfl rfl) fun a hf => ?_
        refine cNil ?_
        refine xThenN ?_
        intro ds u hau
        refine ⟨θ, he.put0 hi hau hf rfl 30 rfl rfl, ?_⟩
        exact hc
      · intro E θ a w hD hi hp he hc
        have hf := he.h0
        replace hf := hf.more he 3 rfl onT
        refine stP hf rfl rfl rfl (pM rfl) fun a hf => ?_
        refine cNil ?_
        refine xThenN ?_
        intro ds u hau
        refine ⟨θ, he.put0 hi hau hf rfl 31 rfl rfl, ?_⟩
        exact hc
      · intro E θ a w hD hi hp he hc
        have e26 := hp.of (k := 26) rfl
        have e27 := hp.of (k := 27) rfl
        have hf := he.h0
        replace hf := hf.more he 30 rfl (onP e26)
        replace hf := hf.more he 31 rfl (onP e27)
        refine stP hf rfl rfl rfl (pQuo rfl rfl (nz_spec hun_1)) fun a hf => ?_
        refine cNil ?_
        refine xThenN ?_
        intro ds u hau
        refine ⟨θ, he.put0 hi hau hf rfl 32 rfl rfl, ?_⟩
        exact hc
      · intro E θ a w hD hi hp he hc
        have e12 := hp.of (k := 12) rfl
        have e28 := hp.of (k := 28) rfl
        have hf := he.h0
        replace hf := hf.more he 16 rfl (onP e12)
        replace hf := hf.more he 32 rfl (onP e28)
        refine stP hf rfl rfl rfl (pBuildS (cells := [.int .i64 (W ((W (d.Rate.Lo * (W (d.Strong.Lo - d.Found.Hi)))).tdiv (W (d.Found.Hi - d.Clean.Lo)))), .int .i64 (W ((W ((W ((W (d.Rate.Hi * (W (d.Strong.Hi - d.Found.Lo)))) + (W (d.Found.Lo - d.Clean.Hi)))) - 1)).tdiv (W (d.Found.Lo - d.Clean.Hi))))]) bt_24 rfl rfl) fun a hf => ?_
        refine cNil ?_
        refine xThenN ?_
        intro ds u hau
        refine ⟨θ, he.put0 hi hau hf rfl 33 rfl rfl, ?_⟩
        exact hc
      · intro E θ a w hD hi hp he hc
        have e29 := hp.of (k := 29) rfl
        try dsimp only at hc
        rw [hi] at hc
        have hf := he.h0
        replace hf := hf.more he 1 rfl onT
        replace hf := hf.more he 33 rfl (onP e29)
        refine stSt (vs := [.int .i64 (W ((W (d.Rate.Lo * (W (d.Strong.Lo - d.Found.Hi)))).tdiv (W (d.Found.Hi - d.Clean.Lo)))), .int .i64 (W ((W ((W ((W (d.Rate.Hi * (W (d.Strong.Hi - d.Found.Lo)))) + (W (d.Found.Lo - d.Clean.Hi)))) - 1)).tdiv (W (d.Found.Lo - d.Clean.Hi))))]) hf hc rfl rfl rfl rfl sz_24 rfl rfl u1 fun w hc => ?_
        refine cNil ?_
        refine xThenN ?_
        intro ds u hau
        refine ⟨θ, he.stay0 hi hau hf rfl, ?_⟩
        try dsimp only
        rw [updE_self E 30]
        exact hc
      · intro E θ a w hD hi hp he hc
        have hf := he.h0
        refine stP hf rfl rfl rfl (pA rfl) fun a hf => ?_
        refine cNil ?_
        refine xThenN ?_
        intro ds u hau
        refine ⟨θ, he.put0 hi hau hf rfl 34 rfl rfl, ?_⟩
        exact hc
      · intro E θ a w hall he hc
        have hf := he.h0
        have e30 := hall 30 rfl
        have e31 := hall 31 rfl
        replace hf := hf.more he 34 rfl (onP e31)
        replace hf := hf.more he 1 rfl (onT)
        try dsimp only at hc
        rw [e30] at hc
        exact ⟨hf.keep ⟨rfl, rfl, trivial⟩, hc⟩
      rintro a w ⟨hf, hc⟩
      refine h8 _ _ ?_
      refine wp_ret ?_
      obtain rfl := Option.some.inj hF
      replace hc := hc.drop k2
      replace hc := hc.drop k0
      exact fnOut2 (by simp) rfl Try.results13 hf hc (rv_cellN (vs := [.int .i64 (W ((W (d.Rate.Lo * (W (d.Strong.Lo - d.Found.Hi)))).tdiv (W (d.Found.Hi - d.Clean.Lo)))), .int .i64 (W ((W ((W ((W (d.Rate.Hi * (W (d.Strong.Hi - d.Found.Lo)))) + (W (d.Found.Lo - d.Clean.Hi)))) - 1)).tdiv (W (d.Found.Lo - d.Clean.Hi))))]) ag_24 rfl rfl (cells_box (n := 2) m0 rfl)) (show look _ 3 = _ from rfl) ⟨rfl, (hc.drop k0)⟩

def kit_Same_int_b7 (N : Nat) (a_ : List Int) (b_ : List Int) (i_1 : Int) : Option (Step (Int) (Bool)) :=
  cond (decide (i_1 < ((a_.length : Nat) : Int)))
  (Option.bind (getI a_ i_1) fun e_1 =>
  Option.bind (getI b_ i_1) fun e_2 =>
  cond (e_1 != e_2)
  (some (.ret false))
  (some (.cont (W (i_1 + 1)))))
  (some (.brk i_1))
def kit_Same_int (N : Nat) (a_ : List Int) (b_ : List Int) : Option (Bool) :=
  cond (((a_.length : Nat) : Int) != ((b_.length : Nat) : Int))
  (some false)
  (Option.bind (loopO (fun s7 => kit_Same_int_b7 N a_ b_ s7) N 0) fun x7 =>
  exK x7 (fun s7 => some true) some)
theorem kit_Same_int_ok {N : Nat} {G : Pers} {Lf : List Ent} {w : World} (a_ : List Int) (b_ : List Int) {a__p : Option Addr} {a__c : Nat} {b__p : Option Addr} {b__c : Nat} (h_a_ : Rd G 1 a__p a__c (a_.map encI_i64)) (h_b_ : Rd G 1 b__p b__c (b_.map encI_i64)) (hc : Ctx G (Lf) w) {res : Bool} (hF : kit_Same_int N a_ b_ = some res) : Calls Try.prog 41 #[.slice a__p a_.length a__c, .slice b__p b_.length b__c] w (fun e w => e = .returned (.bool res) ∧ Ctx G (Lf) w) := by
  unfold kit_Same_int at hF
  refine fnIn (args := [.slice a__p a_.length a__c, .slice b__p b_.length b__c]) Try.func41 rfl Try.ntmps41 rfl fun a hf => ?_
  refine wp_seq_k fun K1 h1 => ?_
  refine cReg ?_
  refine stP hf rfl rfl rfl (pA rfl) fun a hf => ?_
  refine cNil ?_
  refine h1 _ _ ?_
  refine wp_seq_k fun K2 h2 => ?_
  refine wp_seq_k fun K3 h3 => ?_
  refine cReg ?_
  refine stP hf rfl rfl rfl (pM rfl) fun a hf => ?_
  refine stP hf rfl rfl rfl (pLenS Try.underlying43 rfl) fun a hf => ?_
  refine stP hf rfl rfl rfl (pM rfl) fun a hf => ?_
  refine stP hf rfl rfl rfl (pLenS Try.underlying43 rfl) fun a hf => ?_
  refine stP hf rfl rfl rfl (pNe rfl rfl) fun a hf => ?_
  refine cNil ?_
  refine h3 _ _ ?_
  refine cCond (b := (((a_.length : Nat) : Int) != ((b_.length : Nat) : Int))) hf rfl (fun hb => ?_) (fun hb => ?_)
  · replace hF := condT hb hF
    clear hb
    refine wp_seq_k fun K4 h4 => ?_
    refine cReg ?_
    refine stP hf rfl rfl rfl (pA rfl) fun a hf => ?_
    refine cNil ?_
    refine h4 _ _ ?_
    refine wp_ret ?_
    refine xThenR ?_
    obtain rfl := Option.some.inj hF
    exact fnOut1 (by simp) rfl Try.results41 hf hc (show look _ 4 = _ from rfl) ⟨rfl, hc⟩
  · replace hF := condF hb hF
    clear hb
    refine wp_skip ?_
    refine h2 _ _ ?_
    refine wp_seq_k fun K5 h5 => ?_
    refine wp_seq_k fun K6 h6 => ?_
    refine cReg ?_
    refine stP hf rfl rfl rfl (pA rfl) fun a hf => ?_
    refine cNil ?_
    refine h6 _ _ ?_
    refine wp_block ?_
    obtain ⟨x7, hx7, hF⟩ := bnd_some hF
    let S7 : Int → Act → World → Prop := (fun (zz : Int) a w => Has 26 a [(0, .slice a__p a_.length a__c), (1, .slice b__p b_.length b__c), (5, .int .i64 zz)] ∧ Ctx G (Lf) w)
    have hr7 : ∀ (zz : Int) a w, x7 = .go zz → S7 zz a w → K5 a w := by
      rintro i_1 a w rfl ⟨hf, hc⟩
      replace hF : _ = some res := hF
      refine h5 _ _ ?_
      refine wp_seq_k fun K8 h8 => ?_
      refine cReg ?_
      refine stP hf rfl rfl rfl (pA rfl) fun a hf => ?_
      refine cNil ?_
      refine h8 _ _ ?_
      refine wp_ret ?_
      obtain rfl := Option.some.inj hF
      exact fnOut1 (by simp) rfl Try.results41 hf hc (show look _ 4 = _ from rfl) ⟨rfl, hc⟩
    have ho7 : ∀ r, x7 = .out r → r = res := by
      rintro r rfl
      exact Option.some.inj hF
    refine cLoop N (loopW (S := S7) (x := x7) ?_ N 0 _ _ ⟨hf.keep ⟨rfl, rfl, rfl, trivial⟩, hc⟩ hx7)
    clear hF hf hc
    rintro i_1 st7 a w KB7 ⟨hf, hc⟩ hF hfin7 hK7
    unfold kit_Same_int_b7 at hF
    refine wp_seq_k fun K9 h9 => ?_
    refine wp_seq_k fun K10 h10 => ?_
    refine cReg ?_
    refine stP hf rfl rfl rfl (pM rfl) fun a hf => ?_
    refine stP hf rfl rfl rfl (pM rfl) fun a hf => ?_
    refine stP hf rfl rfl rfl (pLenS Try.underlying43 rfl) fun a hf => ?_
    refine stP hf rfl rfl rfl (pLt rfl rfl) fun a hf => ?_
    refine cNil ?_
    refine h10 _ _ ?_
    refine cCond (b := (decide (i_1 < ((a_.length : Nat) : Int)))) hf rfl (fun hb => ?_) (fun hb => ?_)
    · replace hF := condT hb hF
      clear hb
      refine wp_skip ?_
      refine h9 _ _ ?_
      refine wp_seq_k fun K11 h11 => ?_
      refine wp_block ?_
      refine wp_seq_k fun K12 h12 => ?_
      obtain ⟨e_1, he_1, hF⟩ := bnd_some hF
      obtain ⟨b_1, o, qa, qp⟩ := h_a_.atm he_1
      obtain ⟨e_2, he_2, hF⟩ := bnd_some hF
      obtain ⟨b_2, o_1, qa_1, qp_1⟩ := h_b_.atm he_2
      refine cQ hc follows_mx (by kernel_rfl) ?_
      refine qE hf rfl rfl rfl (Pu.ev (pM rfl)) fun a hf => ?_
      refine qE hf rfl rfl rfl (Pu.ev (pM rfl)) fun a hf => ?_
      refine qE hf rfl rfl rfl (Pu.ev (pIA Try.underlying43 sz_3 rfl rfl qa)) fun a hf => ?_
      refine qE hf rfl rfl rfl (eLd1 sc_3 rfl (cell_pc (j := 0) qp rfl)) fun a hf => ?_
      refine qE hf rfl rfl rfl (Pu.ev (pM rfl)) fun a hf => ?_
      refine qE hf rfl rfl rfl (Pu.ev (pM rfl)) fun a hf => ?_
      refine qE hf rfl rfl rfl (Pu.ev (pIA Try.underlying43 sz_3 rfl rfl qa_1)) fun a hf => ?_
      refine qE hf rfl rfl rfl (eLd1 sc_3 rfl (cell_pc (j := 0) qp_1 rfl)) fun a hf => ?_
      refine qE hf rfl rfl rfl (Pu.ev (pNe rfl rfl)) fun a hf => ?_
      intro w hc
      refine h12 _ _ ?_
      refine cCond (b := (e_1 != e_2)) hf rfl (fun hb => ?_) (fun hb => ?_)
      · replace hF := condT hb hF
        clear hb
        refine wp_seq_k fun K13 h13 => ?_
        refine cReg ?_
        refine stP hf rfl rfl rfl (pA rfl) fun a hf => ?_
        refine cNil ?_
        refine h13 _ _ ?_
        refine wp_ret ?_
        refine xBlkR ?_
        refine xThenR ?_
        refine xThenR ?_
        have he := Option.some.inj hF
        rw [← he] at hfin7
        replace hF := ho7 _ hfin7
        refine xBlkR ?_
        refine xThenR ?_
        obtain rfl := hF
        exact fnOut1 (by simp) rfl Try.results41 hf hc (show look _ 4 = _ from rfl) ⟨rfl, hc⟩
      · replace hF := condF hb hF
        clear hb
        refine wp_skip ?_
        refine h11 _ _ ?_
        refine cReg ?_
        refine stP hf rfl rfl rfl (pM rfl) fun a hf => ?_
        refine stP hf rfl rfl rfl (pAdd rfl rfl) fun a hf => ?_
        refine stP hf rfl rfl rfl (pA rfl) fun a hf => ?_
        refine cNil ?_
        exact hK7 (W (i_1 + 1)) _ _ (Option.some.inj hF).symm ⟨hf.keep ⟨rfl, rfl, rfl, trivial⟩, hc⟩
    · replace hF := condF hb hF
      clear hb
      refine wp_exit ?_
      refine xThen ?_
      refine xThen ?_
      have he := Option.some.inj hF
      rw [← he] at hfin7
      refine cHit ?_
      exact hr7 _ _ _ hfin7 ⟨hf.keep ⟨rfl, rfl, rfl, trivial⟩, hc⟩

def gauge_methods_1 (s_ : api_Span) : Bool :=
  (gauge_right s_ (-1000000000000) 1000000000000)
theorem gauge_methods_1_ok {G : Pers} {Lf : List Ent} {w : World} (s_ : api_Span)   (hc : Ctx G (Lf) w) {res : Bool} (hF : gauge_methods_1 s_ = res) : Calls Try.prog 109 #[.agg #[.int .i64 s_.Lo, .int .i64 s_.Hi]] w (fun e w => e = .returned (.bool res) ∧ Ctx G (Lf) w) := by
  unfold gauge_methods_1 at hF
  refine fnIn (args := [.agg #[.int .i64 s_.Lo, .int .i64 s_.Hi]]) Try.func109 rfl Try.ntmps109 rfl fun a hf => ?_
  refine wp_seq_k fun K1 h1 => ?_
  refine cReg ?_
  refine stBx (cs := [.int .i64 s_.Lo, .int .i64 s_.Hi]) hf hc rfl rfl rfl rfl fun b_1 a w hf hc => ?_
  refine stP hf rfl rfl rfl (pA rfl) fun a hf => ?_
  refine cNil ?_
  refine h1 _ _ ?_
  refine wp_seq_k fun K2 h2 => ?_
  refine cReg ?_
  refine stE hf hc rfl rfl rfl (eLdN (vs := [.int .i64 s_.Lo, .int .i64 s_.Hi]) ag_24 rfl rfl (cells_box (n := 2) m0 rfl)) fun a w hf hc => ?_
  refine stE hf hc rfl rfl rfl (eC (v := .bool (gauge_right s_ (-1000000000000) 1000000000000)) (vs := [.agg #[.int .i64 s_.Lo, .int .i64 s_.Hi], .int .i64 (-1000000000000), .int .i64 1000000000000]) (caps := []) en_52 rfl rfl rfl rfl (fun w hc => gauge_right_ok s_ (-1000000000000) 1000000000000 hc rfl)) fun a w hf hc => ?_
  refine stP hf rfl rfl rfl (pA rfl) fun a hf => ?_
  refine cNil ?_
  refine h2 _ _ ?_
  refine wp_ret ?_
  obtain rfl := hF
  replace hc := hc.drop k0
  exact fnOut1 (by simp) rfl Try.results109 hf hc (show look _ 2 = _ from rfl) ⟨rfl, hc⟩

def gauge_every_api_Span_1_s2 (x : api_Span) : Bool :=
  (!(gauge_methods_1 x))
theorem gauge_every_api_Span_1_s2_ok {G : Pers} {Lf : List Ent} {w : World} (x : api_Span) {b_ : Nat}  (hc : Ctx G (.box b_ [.func (.func 109) #[] #[]] 107 :: Lf) w) {res : Bool} (hF : gauge_every_api_Span_1_s2 x = res) : Calls Try.prog 94 #[.agg #[.int .i64 x.Lo, .int .i64 x.Hi], .pointer (some ⟨b_, 0, none⟩)] w (fun e w => e = .returned (.bool res) ∧ Ctx G (.box b_ [.func (.func 109) #[] #[]] 107 :: Lf) w) := by
  unfold gauge_every_api_Span_1_s2 at hF
  refine fnIn (args := [.agg #[.int .i64 x.Lo, .int .i64 x.Hi], .pointer (some ⟨b_, 0, none⟩)]) Try.func94 rfl Try.ntmps94 rfl fun a hf => ?_
  refine wp_seq_k fun K1 h1 => ?_
  refine cReg ?_
  refine stBx (cs := [.int .i64 x.Lo, .int .i64 x.Hi]) hf hc rfl rfl rfl rfl fun b_1 a w hf hc => ?_
  refine stP hf rfl rfl rfl (pA rfl) fun a hf => ?_
  refine cNil ?_
  refine h1 _ _ ?_
  refine wp_seq_k fun K2 h2 => ?_
  refine cReg ?_
  refine stE hf hc rfl rfl rfl (eLd1 sc_107 rfl (cell_box m1 rfl)) fun a w hf hc => ?_
  refine stE hf hc rfl rfl rfl (eLdN (vs := [.int .i64 x.Lo, .int .i64 x.Hi]) ag_24 rfl rfl (cells_box (n := 2) m0 rfl)) fun a w hf hc => ?_
  refine stE hf hc rfl rfl rfl (eC (v := .bool (gauge_methods_1 x)) (vs := [.agg #[.int .i64 x.Lo, .int .i64 x.Hi]]) (caps := []) en_109 rfl rfl rfl rfl (fun w hc => gauge_methods_1_ok x hc rfl)) fun a w hf hc => ?_
  refine stP hf rfl rfl rfl (pNot rfl) fun a hf => ?_
  refine stP hf rfl rfl rfl (pA rfl) fun a hf => ?_
  refine cNil ?_
  refine h2 _ _ ?_
  refine wp_ret ?_
  obtain rfl := hF
  replace hc := hc.drop k0
  exact fnOut1 (by simp) rfl Try.results94 hf hc (show look _ 3 = _ from rfl) ⟨rfl, hc⟩

def slices_IndexFunc_Lapi_Span_api_Span_s2_b4 (N : Nat) (s_ : List api_Span) (x : Int) : Option (Step (Int) (Int)) :=
  cond (decide (x < ((s_.length : Nat) : Int)))
  (Option.bind (getI s_ x) fun e_1 =>
  cond (gauge_every_api_Span_1_s2 e_1)
  (some (.ret x))
  (some (.cont (W (x + 1)))))
  (some (.brk x))
def slices_IndexFunc_Lapi_Span_api_Span_s2 (N : Nat) (s_ : List api_Span) : Option (Int) :=
  Option.bind (loopO (fun s4 => slices_IndexFunc_Lapi_Span_api_Span_s2_b4 N s_ s4) N 0) fun x4 =>
  exK x4 (fun s4 => some (-1)) some
theorem slices_IndexFunc_Lapi_Span_api_Span_s2_ok {N : Nat} {G : Pers} {Lf : List Ent} {w : World} (s_ : List api_Span) {s__p : Option Addr} {s__c : Nat} {b_ : Nat} (h_s_ : Rd G 2 s__p s__c (s_.map enc_api_Span)) (hc : Ctx G (.box b_ [.func (.func 109) #[] #[]] 107 :: Lf) w) {res : Int} (hF : slices_IndexFunc_Lapi_Span_api_Span_s2 N s_ = some res) : Calls Try.prog 111 #[.slice s__p s_.length s__c, .func (.func 94) #[] #[.pointer (some ⟨b_, 0, none⟩)]] w (fun e w => e = .returned (.int .i64 res) ∧ Ctx G (.box b_ [.func (.func 109) #[] #[]] 107 :: Lf) w) := by
  unfold slices_IndexFunc_Lapi_Span_api_Span_s2 at hF
  refine fnIn (args := [.slice s__p s_.length s__c, .func (.func 94) #[] #[.pointer (some ⟨b_, 0, none⟩)]]) Try.func111 rfl Try.ntmps111 rfl fun a hf => ?_
  refine wp_seq_k fun K1 h1 => ?_
  refine cReg ?_
  refine stP hf rfl rfl rfl (pA rfl) fun a hf => ?_
  refine cNil ?_
  refine h1 _ _ ?_
  refine wp_seq_k fun K2 h2 => ?_
  refine wp_seq_k fun K3 h3 => ?_
  refine cReg ?_
  refine stP hf rfl rfl rfl (pM rfl) fun a hf => ?_
  refine stP hf rfl rfl rfl (pLenS Try.underlying72 rfl) fun a hf => ?_
  refine stP hf rfl rfl rfl (pM rfl) fun a hf => ?_
  refine cNil ?_
  refine h3 _ _ ?_
  refine wp_block ?_
  obtain ⟨x4, hx4, hF⟩ := bnd_some hF
  let S4 : Int → Act → World → Prop := (fun (zz : Int) a w => Has 19 a [(0, .slice s__p s_.length s__c), (1, .func (.func 94) #[] #[.pointer (some ⟨b_, 0, none⟩)]), (7, .int .i64 ((s_.length : Nat) : Int)), (8, .int .i64 zz)] ∧ Ctx G (.box b_ [.func (.func 109) #[] #[]] 107 :: Lf) w)
  have hr4 : ∀ (zz : Int) a w, x4 = .go zz → S4 zz a w → K2 a w := by
    rintro x a w rfl ⟨hf, hc⟩
    replace hF : _ = some res := hF
    refine h2 _ _ ?_
    refine wp_seq_k fun K5 h5 => ?_
    refine cReg ?_
    refine stP hf rfl rfl rfl (pA rfl) fun a hf => ?_
    refine cNil ?_
    refine h5 _ _ ?_
    refine wp_ret ?_
    obtain rfl := Option.some.inj hF
    exact fnOut1 (by simp) rfl Try.results111 hf hc (show look _ 4 = _ from rfl) ⟨rfl, hc⟩
  have ho4 : ∀ r, x4 = .out r → r = res := by
    rintro r rfl
    exact Option.some.inj hF
  refine cLoop N (loopW (S := S4) (x := x4) ?_ N 0 _ _ ⟨hf.keep ⟨rfl, rfl, rfl, rfl, trivial⟩, hc⟩ hx4)
  clear hF hf hc
  rintro x st4 a w KB4 ⟨hf, hc⟩ hF hfin4 hK4
  unfold slices_IndexFunc_Lapi_Span_api_Span_s2_b4 at hF
  refine wp_seq_k fun K6 h6 => ?_
  refine cReg ?_
  refine stP hf rfl rfl rfl (pLt rfl rfl) fun a hf => ?_
  refine cNil ?_
  refine h6 _ _ ?_
  refine wp_seq_k fun K7 h7 => ?_
  refine cCond (b := (decide (x < ((s_.length : Nat) : Int)))) hf rfl (fun hb => ?_) (fun hb => ?_)
  · replace hF := condT hb hF
    clear hb
    refine wp_skip ?_
    refine h7 _ _ ?_
    refine wp_seq_k fun K8 h8 => ?_
    refine wp_block ?_
    refine wp_seq_k fun K9 h9 => ?_
    refine cReg ?_
    refine stP hf rfl rfl rfl (pM rfl) fun a hf => ?_
    refine stP hf rfl rfl rfl (pA rfl) fun a hf => ?_
    refine cNil ?_
    refine h9 _ _ ?_
    refine wp_seq_k fun K10 h10 => ?_
    refine cReg ?_
    refine stP hf rfl rfl rfl (pM rfl) fun a hf => ?_
    refine stP hf rfl rfl rfl (pM rfl) fun a hf => ?_
    refine stP hf rfl rfl rfl (pM rfl) fun a hf => ?_
    obtain ⟨e_1, he_1, hF⟩ := bnd_some hF
    obtain ⟨b_1, o, qa, qp⟩ := h_s_.atm he_1
    refine stP hf rfl rfl rfl (pIA Try.underlying72 sz_24 rfl rfl qa) fun a hf => ?_
    refine stE hf hc rfl rfl rfl (eLdN (vs := [.int .i64 e_1.Lo, .int .i64 e_1.Hi]) ag_24 rfl rfl (cells_pc qp (n := 2) (o' := 0) rfl)) fun a w hf hc => ?_
    refine stE hf hc rfl rfl rfl (eC (v := .bool (gauge_every_api_Span_1_s2 e_1)) (vs := [.agg #[.int .i64 e_1.Lo, .int .i64 e_1.Hi]]) (caps := [.pointer (some ⟨b_, 0, none⟩)]) en_94 rfl rfl rfl rfl (fun w hc => (gauge_every_api_Span_1_s2_ok e_1 (hc.pick k0) rfl).mono fun e w h => ⟨h.1, (h.2.unpick k0)⟩)) fun a w hf hc => ?_
    refine cNil ?_
    refine h10 _ _ ?_
    refine cCond (b := (gauge_every_api_Span_1_s2 e_1)) hf rfl (fun hb => ?_) (fun hb => ?_)
    · replace hF := condT hb hF
      clear hb
      refine wp_seq_k fun K11 h11 => ?_
      refine cReg ?_
      refine stP hf rfl rfl rfl (pM rfl) fun a hf => ?_
      refine stP hf rfl rfl rfl (pA rfl) fun a hf => ?_
      refine cNil ?_
      refine h11 _ _ ?_
      refine wp_ret ?_
      refine xBlkR ?_
      refine xThenR ?_
      refine xThenR ?_
      have he := Option.some.inj hF
      rw [← he] at hfin4
      replace hF := ho4 _ hfin4
      refine xBlkR ?_
      refine xThenR ?_
      obtain rfl := hF
      exact fnOut1 (by simp) rfl Try.results111 hf hc (show look _ 4 = _ from rfl) ⟨rfl, hc⟩
    · replace hF := condF hb hF
      clear hb
      refine wp_skip ?_
      refine h8 _ _ ?_
      refine cReg ?_
      refine stP hf rfl rfl rfl (pAdd rfl rfl) fun a hf => ?_
      refine stP hf rfl rfl rfl (pM rfl) fun a hf => ?_
      refine cNil ?_
      exact hK4 (W (x + 1)) _ _ (Option.some.inj hF).symm ⟨hf.keep ⟨rfl, rfl, rfl, rfl, trivial⟩, hc⟩
  · replace hF := condF hb hF
    clear hb
    refine wp_exit ?_
    refine xThen ?_
    refine xThen ?_
    have he := Option.some.inj hF
    rw [← he] at hfin4
    refine cHit ?_
    exact hr4 _ _ _ hfin4 ⟨hf.keep ⟨rfl, rfl, rfl, rfl, trivial⟩, hc⟩

def slices_ContainsFunc_Lapi_Span_api_Span_s2 (N : Nat) (s_ : List api_Span) : Option (Bool) :=
  Option.bind (slices_IndexFunc_Lapi_Span_api_Span_s2 N s_) fun r =>
  some (decide (0 ≤ r))
theorem slices_ContainsFunc_Lapi_Span_api_Span_s2_ok {N : Nat} {G : Pers} {Lf : List Ent} {w : World} (s_ : List api_Span) {s__p : Option Addr} {s__c : Nat} {b_ : Nat} (h_s_ : Rd G 2 s__p s__c (s_.map enc_api_Span)) (hc : Ctx G (.box b_ [.func (.func 109) #[] #[]] 107 :: Lf) w) {res : Bool} (hF : slices_ContainsFunc_Lapi_Span_api_Span_s2 N s_ = some res) : Calls Try.prog 93 #[.slice s__p s_.length s__c, .func (.func 94) #[] #[.pointer (some ⟨b_, 0, none⟩)]] w (fun e w => e = .returned (.bool res) ∧ Ctx G (.box b_ [.func (.func 109) #[] #[]] 107 :: Lf) w) := by
  unfold slices_ContainsFunc_Lapi_Span_api_Span_s2 at hF
  refine fnIn (args := [.slice s__p s_.length s__c, .func (.func 94) #[] #[.pointer (some ⟨b_, 0, none⟩)]]) Try.func93 rfl Try.ntmps93 rfl fun a hf => ?_
  refine wp_seq_k fun K1 h1 => ?_
  refine cReg ?_
  refine stP hf rfl rfl rfl (pA rfl) fun a hf => ?_
  refine cNil ?_
  refine h1 _ _ ?_
  refine wp_seq_k fun K2 h2 => ?_
  refine cReg ?_
  refine stP hf rfl rfl rfl (pM rfl) fun a hf => ?_
  refine stP hf rfl rfl rfl (pM rfl) fun a hf => ?_
  obtain ⟨r, hr, hF⟩ := bnd_some hF
  refine stE hf hc rfl rfl rfl (eC (v := .int .i64 r) (vs := [.slice s__p s_.length s__c, .func (.func 94) #[] #[.pointer (some ⟨b_, 0, none⟩)]]) (caps := []) en_111 rfl rfl rfl rfl (fun w hc => (slices_IndexFunc_Lapi_Span_api_Span_s2_ok s_ h_s_ (hc.pick k0) hr).mono fun e w h => ⟨h.1, (h.2.unpick k0)⟩)) fun a w hf hc => ?_
  refine stP hf rfl rfl rfl (pGe rfl rfl) fun a hf => ?_
  refine stP hf rfl rfl rfl (pA rfl) fun a hf => ?_
  refine cNil ?_
  refine h2 _ _ ?_
  refine wp_ret ?_
  obtain rfl := Option.some.inj hF
  exact fnOut1 (by simp) rfl Try.results93 hf hc (show look _ 4 = _ from rfl) ⟨rfl, hc⟩

def gauge_every_api_Span_s2 (N : Nat) (l : List api_Span) : Option (Bool) :=
  Option.bind (slices_ContainsFunc_Lapi_Span_api_Span_s2 N l) fun r =>
  some (!r)
theorem gauge_every_api_Span_s2_ok {N : Nat} {G : Pers} {Lf : List Ent} {w : World} (l : List api_Span) {l_p : Option Addr} {l_c : Nat} (h_l : Rd G 2 l_p l_c (l.map enc_api_Span)) (hc : Ctx G (Lf) w) {res : Bool} (hF : gauge_every_api_Span_s2 N l = some res) : Calls Try.prog 50 #[.slice l_p l.length l_c, .func (.func 109) #[] #[]] w (fun e w => e = .returned (.bool res) ∧ Ctx G (Lf) w) := by
  unfold gauge_every_api_Span_s2 at hF
  refine fnIn (args := [.slice l_p l.length l_c, .func (.func 109) #[] #[]]) Try.func50 rfl Try.ntmps50 rfl fun a hf => ?_
  refine wp_seq_k fun K1 h1 => ?_
  refine cReg ?_
  refine stBx (cs := [.func (.func 109) #[] #[]]) hf hc rfl rfl rfl rfl fun b_1 a w hf hc => ?_
  refine stP hf rfl rfl rfl (pA rfl) fun a hf => ?_
  refine cNil ?_
  refine h1 _ _ ?_
  refine wp_seq_k fun K2 h2 => ?_
  refine cReg ?_
  refine stP hf rfl rfl rfl (pM rfl) fun a hf => ?_
  refine stP hf rfl rfl rfl (pMF (us := [.pointer (some ⟨b_1, 0, none⟩)]) rfl rfl) fun a hf => ?_
  obtain ⟨r, hr, hF⟩ := bnd_some hF
  refine stE hf hc rfl rfl rfl (eC (v := .bool r) (vs := [.slice l_p l.length l_c, .func (.func 94) #[] #[.pointer (some ⟨b_1, 0, none⟩)]]) (caps := []) en_93 rfl rfl rfl rfl (fun w hc => (slices_ContainsFunc_Lapi_Span_api_Span_s2_ok l h_l (hc.pick k0) hr).mono fun e w h => ⟨h.1, (h.2.unpick k0)⟩)) fun a w hf hc => ?_
  refine stP hf rfl rfl rfl (pNot rfl) fun a hf => ?_
  refine stP hf rfl rfl rfl (pA rfl) fun a hf => ?_
  refine cNil ?_
  refine h2 _ _ ?_
  refine wp_ret ?_
  obtain rfl := Option.some.inj hF
  replace hc := hc.drop k0
  exact fnOut1 (by simp) rfl Try.results50 hf hc (show look _ 4 = _ from rfl) ⟨rfl, hc⟩

def gauge_methods (N : Nat) (l : List api_Span) : Option (Int) :=
  cond (!(gauge_in ((l.length : Nat) : Int) 1 20))
  (some 3)
  (Option.bind (gauge_every_api_Span_s2 N l) fun r =>
  cond (!r)
  (some 4)
  (some 0))
theorem gauge_methods_ok {N : Nat} {G : Pers} {Lf : List Ent} {w : World} (l : List api_Span) {l_p : Option Addr} {l_c : Nat} (h_l : Rd G 2 l_p l_c (l.map enc_api_Span)) (hc : Ctx G (Lf) w) {res : Int} (hF : gauge_methods N l = some res) : Calls Try.prog 90 #[.slice l_p l.length l_c] w (fun e w => e = .returned (.int .i64 res) ∧ Ctx G (Lf) w) := by
  unfold gauge_methods at hF
  refine fnIn (args := [.slice l_p l.length l_c]) Try.func90 rfl Try.ntmps90 rfl fun a hf => ?_
  refine wp_seq_k fun K1 h1 => ?_
  refine cReg ?_
  refine stP hf rfl rfl rfl (pA rfl) fun a hf => ?_
  refine cNil ?_
  refine h1 _ _ ?_
  refine wp_seq_k fun K2 h2 => ?_
  refine wp_block ?_
  refine wp_seq_k fun K3 h3 => ?_
  refine cReg ?_
  refine stP hf rfl rfl rfl (pM rfl) fun a hf => ?_
  refine stP hf rfl rfl rfl (pLenS Try.underlying72 rfl) fun a hf => ?_
  refine stE hf hc rfl rfl rfl (eC (v := .bool (gauge_in ((l.length : Nat) : Int) 1 20)) (vs := [.int .i64 ((l.length : Nat) : Int), .int .i64 1, .int .i64 20]) (caps := []) en_55 rfl rfl rfl rfl (fun w hc => gauge_in_ok ((l.length : Nat) : Int) 1 20 hc rfl)) fun a w hf hc => ?_
  refine stP hf rfl rfl rfl (pNot rfl) fun a hf => ?_
  refine stP hf rfl rfl rfl (pA rfl) fun a hf => ?_
  refine cNil ?_
  refine h3 _ _ ?_
  refine cCond (b := (!(gauge_in ((l.length : Nat) : Int) 1 20))) hf rfl (fun hb => ?_) (fun hb => ?_)
  · replace hF := condT hb hF
    clear hb
    refine wp_seq_k fun K4 h4 => ?_
    refine cReg ?_
    refine stP hf rfl rfl rfl (pA rfl) fun a hf => ?_
    refine cNil ?_
    refine h4 _ _ ?_
    refine wp_ret ?_
    refine xBlkR ?_
    refine xThenR ?_
    obtain rfl := Option.some.inj hF
    exact fnOut1 (by simp) rfl Try.results90 hf hc (show look _ 2 = _ from rfl) ⟨rfl, hc⟩
  · replace hF := condF hb hF
    clear hb
    refine wp_seq_k fun K5 h5 => ?_
    refine cReg ?_
    refine stP hf rfl rfl rfl (pM rfl) fun a hf => ?_
    obtain ⟨r, hr, hF⟩ := bnd_some hF
    refine stE hf hc rfl rfl rfl (eC (v := .bool r) (vs := [.slice l_p l.length l_c, .func (.func 109) #[] #[]]) (caps := []) en_50 rfl rfl rfl rfl (fun w hc => gauge_every_api_Span_s2_ok l h_l hc hr)) fun a w hf hc => ?_
    refine stP hf rfl rfl rfl (pNot rfl) fun a hf => ?_
    refine stP hf rfl rfl rfl (pA rfl) fun a hf => ?_
    refine cNil ?_
    refine h5 _ _ ?_
    refine cCond (b := (!r)) hf rfl (fun hb => ?_) (fun hb => ?_)
    · replace hF := condT hb hF
      clear hb
      refine wp_seq_k fun K6 h6 => ?_
      refine cReg ?_
      refine stP hf rfl rfl rfl (pA rfl) fun a hf => ?_
      refine cNil ?_
      refine h6 _ _ ?_
      refine wp_ret ?_
      refine xBlkR ?_
      refine xThenR ?_
      obtain rfl := Option.some.inj hF
      exact fnOut1 (by simp) rfl Try.results90 hf hc (show look _ 2 = _ from rfl) ⟨rfl, hc⟩
    · replace hF := condF hb hF
      clear hb
      refine wp_skip ?_
      refine h2 _ _ ?_
      refine wp_seq_k fun K7 h7 => ?_
      refine cReg ?_
      refine stP hf rfl rfl rfl (pA rfl) fun a hf => ?_
      refine cNil ?_
      refine h7 _ _ ?_
      refine wp_ret ?_
      obtain rfl := Option.some.inj hF
      exact fnOut1 (by simp) rfl Try.results90 hf hc (show look _ 2 = _ from rfl) ⟨rfl, hc⟩

def gauge_Apart_b18 (N : Nat) (l : List api_Span) (x : Int) (e_2 : api_Span) (x_1 : Int) : Option (Step (Int) (Step (Int × Int × Int × Int) (Int × Int × Int))) :=
  cond (decide (x_1 < ((l.length : Nat) : Int)))
  (Option.bind (getI l x_1) fun e_3 =>
  cond ((decide (x < x_1)) && ((decide (e_3.Hi < e_2.Lo)) || (decide (e_2.Hi < e_3.Lo))))
  (some (.ret (.brk (x, x_1, 0, x))))
  (some (.cont (W (x_1 + 1)))))
  (some (.brk x_1))
def gauge_Apart_b10 (N : Nat) (l : List api_Span) (a_1 : Int) (b_1 : Int) (e_1 : Int) (x : Int) : Option (Step (Int × Int × Int × Int) (Int × Int × Int)) :=
  cond (decide (x < ((l.length : Nat) : Int)))
  (Option.bind (getI l x) fun e_2 =>
  Option.bind (loopO (fun s18 => gauge_Apart_b18 N l x e_2 s18) N 0) fun x18 =>
  exK x18 (fun s18 => some (.cont (a_1, b_1, e_1, W (x + 1)))) some)
  (some (.brk (a_1, b_1, e_1, x)))
def gauge_Apart (N : Nat) (l : List api_Span) : Option (Int × Int × Int) :=
  Option.bind (gauge_methods N l) fun r =>
  cond (r != 0)
  (some (0, 0, r))
  (Option.bind (loopO (fun s10 => gauge_Apart_b10 N l s10.1 s10.2.1 s10.2.2.1 s10.2.2.2) N (0, 0, 5, 0)) fun x10 =>
  exK x10 (fun s10 => some (s10.1, s10.2.1, s10.2.2.1)) some)
theorem gauge_Apart_ok {N : Nat} {G : Pers} {Lf : List Ent} {w : World} (l : List api_Span) {l_p : Option Addr} {l_c : Nat} (h_l : Rd G 2 l_p l_c (l.map enc_api_Span)) (hc : Ctx G (Lf) w) {res : Int × Int × Int} (hF : gauge_Apart N l = some res) : Calls Try.prog 47 #[.slice l_p l.length l_c] w (fun e w => e = .returned (.tuple #[.int .i64 res.1, .int .i64 res.2.1, .int .i64 res.2.2]) ∧ Ctx G (Lf) w) := by
  unfold gauge_Apart at hF
  refine fnIn (args := [.slice l_p l.length l_c]) Try.func47 rfl Try.ntmps47 rfl fun a hf => ?_
  refine wp_seq_k fun K1 h1 => ?_
  refine cReg ?_
  refine stP hf rfl rfl rfl (pA rfl) fun a hf => ?_
  refine stP hf rfl rfl rfl (pA rfl) fun a hf => ?_
  refine stP hf rfl rfl rfl (pA rfl) fun a hf => ?_
  refine cNil ?_
  refine h1 _ _ ?_
  refine wp_scope_straight ?_
  refine wp_seq_k fun K2 h2 => ?_
  refine wp_seq_k fun K3 h3 => ?_
  refine cReg ?_
  refine stP hf rfl rfl rfl (pM rfl) fun a hf => ?_
  obtain ⟨r, hr, hF⟩ := bnd_some hF
  refine stE hf hc rfl rfl rfl (eC (v := .int .i64 r) (vs := [.slice l_p l.length l_c]) (caps := []) en_90 rfl rfl rfl rfl (fun w hc => gauge_methods_ok l h_l hc hr)) fun a w hf hc => ?_
  refine stP hf rfl rfl rfl (pA rfl) fun a hf => ?_
  refine cNil ?_
  refine h3 _ _ ?_
  refine wp_seq_k fun K4 h4 => ?_
  refine cReg ?_
  refine stP hf rfl rfl rfl (pM rfl) fun a hf => ?_
  refine stP hf rfl rfl rfl (pNe rfl rfl) fun a hf => ?_
  refine cNil ?_
  refine h4 _ _ ?_
  refine cCond (b := (r != 0)) hf rfl (fun hb => ?_) (fun hb => ?_)
  · replace hF := condT hb hF
    clear hb
    refine wp_seq_k fun K5 h5 => ?_
    refine cReg ?_
    refine stP hf rfl rfl rfl (pM rfl) fun a hf => ?_
    refine stP hf rfl rfl rfl (pA rfl) fun a hf => ?_
    refine stP hf rfl rfl rfl (pA rfl) fun a hf => ?_
    refine stP hf rfl rfl rfl (pA rfl) fun a hf => ?_
    refine cNil ?_
    refine h5 _ _ ?_
    refine wp_ret ?_
    refine xThenR ?_
    refine xScopeR ?_
    obtain rfl := Option.some.inj hF
    exact fnOut3 (by simp) rfl Try.results47 hf hc (show look _ 2 = _ from rfl) (show look _ 3 = _ from rfl) (show look _ 4 = _ from rfl) ⟨rfl, hc⟩
  · replace hF := condF hb hF
    clear hb
    refine wp_skip ?_
    refine h2 _ _ ?_
    refine wp_seq_k fun K6 h6 => ?_
    refine cReg ?_
    refine stP hf rfl rfl rfl (pA rfl) fun a hf => ?_
    refine stP hf rfl rfl rfl (pA rfl) fun a hf => ?_
    refine stP hf rfl rfl rfl (pA rfl) fun a hf => ?_
    refine cNil ?_
    refine h6 _ _ ?_
    refine wp_seq_k fun K7 h7 => ?_
    refine wp_label ?_
    refine h7 _ _ ?_
    refine wp_seq_k fun K8 h8 => ?_
    refine wp_seq_k fun K9 h9 => ?_
    refine cReg ?_
    refine stP hf rfl rfl rfl (pM rfl) fun a hf => ?_
    refine stP hf rfl rfl rfl (pLenS Try.underlying72 rfl) fun a hf => ?_
    refine stP hf rfl rfl rfl (pM rfl) fun a hf => ?_
    refine cNil ?_
    refine h9 _ _ ?_
    refine wp_block ?_
    obtain ⟨x10, hx10, hF⟩ := bnd_some hF
    let S10 : (Int × Int × Int × Int) → Act → World → Prop := (fun (zz : Int × Int × Int × Int) a w => Has 56 a [(0, .slice l_p l.length l_c), (6, .int .i64 zz.1), (7, .int .i64 zz.2.1), (8, .int .i64 zz.2.2.1), (18, .slice l_p l.length l_c), (19, .int .i64 ((l.length : Nat) : Int)), (20, .int .i64 zz.2.2.2)] ∧ Ctx G (Lf) w)
    have hr10 : ∀ (zz : Int × Int × Int × Int) a w, x10 = .go zz → S10 zz a w → K8 a w := by
      rintro ⟨a_1, b_1, e_1, x⟩ a w rfl ⟨hf, hc⟩
      replace hF : _ = some res := hF
      refine h8 _ _ ?_
      refine wp_seq_k fun K11 h11 => ?_
      refine cReg ?_
      refine stP hf rfl rfl rfl (pM rfl) fun a hf => ?_
      refine stP hf rfl rfl rfl (pM rfl) fun a hf => ?_
      refine stP hf rfl rfl rfl (pM rfl) fun a hf => ?_
      refine stP hf rfl rfl rfl (pA rfl) fun a hf => ?_
      refine stP hf rfl rfl rfl (pA rfl) fun a hf => ?_
      refine stP hf rfl rfl rfl (pA rfl) fun a hf => ?_
      refine cNil ?_
      refine h11 _ _ ?_
      refine wp_ret ?_
      refine xScopeR ?_
      obtain rfl := Option.some.inj hF
      exact fnOut3 (by simp) rfl Try.results47 hf hc (show look _ 2 = _ from rfl) (show look _ 3 = _ from rfl) (show look _ 4 = _ from rfl) ⟨rfl, hc⟩
    have ho10 : ∀ r, x10 = .out r → r = res := by
      rintro r rfl
      exact Option.some.inj hF
    refine cLoop N (loopW (S := S10) (x := x10) ?_ N (0, 0, 5, 0) _ _ ⟨hf.keep ⟨rfl, rfl, rfl, rfl, rfl, rfl, rfl, trivial⟩, hc⟩ hx10)
    clear hF hf hc
    rintro ⟨a_1, b_1, e_1, x⟩ st10 a w KB10 ⟨hf, hc⟩ hF hfin10 hK10
    unfold gauge_Apart_b10 at hF
    refine wp_seq_k fun K12 h12 => ?_
    refine cReg ?_
    refine stP hf rfl rfl rfl (pLt rfl rfl) fun a hf => ?_
    refine cNil ?_
    refine h12 _ _ ?_
    refine wp_seq_k fun K13 h13 => ?_
    refine cCond (b := (decide (x < ((l.length : Nat) : Int)))) hf rfl (fun hb => ?_) (fun hb => ?_)
    · replace hF := condT hb hF
      clear hb
      refine wp_skip ?_
      refine h13 _ _ ?_
      refine wp_seq_k fun K14 h14 => ?_
      refine wp_block ?_
      refine wp_seq_k fun K15 h15 => ?_
      refine cReg ?_
      refine stP hf rfl rfl rfl (pM rfl) fun a hf => ?_
      obtain ⟨e_2, he_2, hF⟩ := bnd_some hF
      obtain ⟨b_2, o, qa, qp⟩ := h_l.atm he_2
      refine stP hf rfl rfl rfl (pIA Try.underlying72 sz_24 rfl rfl qa) fun a hf => ?_
      refine stE hf hc rfl rfl rfl (eLdN (vs := [.int .i64 e_2.Lo, .int .i64 e_2.Hi]) ag_24 rfl rfl (cells_pc qp (n := 2) (o' := 0) rfl)) fun a w hf hc => ?_
      refine stAl (cs := [.int .i64 0, .int .i64 0]) hf hc rfl rfl zr_24 rfl fun b_3 a w hf hc => ?_
      refine stP hf rfl rfl rfl (pA rfl) fun a hf => ?_
      refine stSt (vs := [.int .i64 e_2.Lo, .int .i64 e_2.Hi]) hf hc rfl rfl rfl rfl sz_24 rfl rfl u0 fun w hc => ?_
      refine cNil ?_
      refine h15 _ _ ?_
      refine wp_seq_k fun K16 h16 => ?_
      refine cReg ?_
      refine stP hf rfl rfl rfl (pM rfl) fun a hf => ?_
      refine stP hf rfl rfl rfl (pLenS Try.underlying72 rfl) fun a hf => ?_
      refine stP hf rfl rfl rfl (pM rfl) fun a hf => ?_
      refine cNil ?_
      refine h16 _ _ ?_
      refine wp_thenK fun K17 h17 => ?_
      refine wp_block ?_
      obtain ⟨x18, hx18, hF⟩ := bnd_some hF
      let S18 : Int → Act → World → Prop := (fun (zz : Int) a w => Has 56 a [(0, .slice l_p l.length l_c), (6, .int .i64 a_1), (7, .int .i64 b_1), (8, .int .i64 e_1), (9, .int .i64 x), (10, .pointer (some ⟨b_3, 0, none⟩)), (18, .slice l_p l.length l_c), (19, .int .i64 ((l.length : Nat) : Int)), (20, .int .i64 x), (25, .slice l_p l.length l_c), (26, .int .i64 ((l.length : Nat) : Int)), (27, .int .i64 zz)] ∧ Ctx G (.box b_3 [.int .i64 e_2.Lo, .int .i64 e_2.Hi] 24 :: Lf) w)
      have hr18 : ∀ (zz : Int) a w, x18 = .go zz → S18 zz a w → K17 a w := by
        rintro x_1 a w rfl ⟨hf, hc⟩
        replace hF : _ = some st10 := hF
        refine h17 _ _ ?_
        refine h14 _ _ ?_
        refine cReg ?_
        refine stP hf rfl rfl rfl (pAdd rfl rfl) fun a hf => ?_
        refine stP hf rfl rfl rfl (pM rfl) fun a hf => ?_
        refine cNil ?_
        replace hc := hc.drop k0
        exact hK10 (a_1, b_1, e_1, W (x + 1)) _ _ (Option.some.inj hF).symm ⟨hf.keep ⟨rfl, rfl, rfl, rfl, rfl, rfl, rfl, trivial⟩, hc⟩
      have ho18 : ∀ r, x18 = .out r → r = st10 := by
        rintro r rfl
        exact Option.some.inj hF
      refine cLoop N (loopW (S := S18) (x := x18) ?_ N 0 _ _ ⟨hf.keep ⟨rfl, rfl, rfl, rfl, rfl, rfl, rfl, rfl, rfl, rfl, rfl, rfl, trivial⟩, hc⟩ hx18)
      clear hF hf hc
      rintro x_1 st18 a w KB18 ⟨hf, hc⟩ hF hfin18 hK18
      unfold gauge_Apart_b18 at hF
      refine wp_seq_k fun K19 h19 => ?_
      refine cReg ?_
      refine stP hf rfl rfl rfl (pLt rfl rfl) fun a hf => ?_
      refine cNil ?_
      refine h19 _ _ ?_
      refine wp_seq_k fun K20 h20 => ?_
      refine cCond (b := (decide (x_1 < ((l.length : Nat) : Int)))) hf rfl (fun hb => ?_) (fun hb => ?_)
      · replace hF := condT hb hF
        clear hb
        refine wp_skip ?_
        refine h20 _ _ ?_
        refine wp_seq_k fun K21 h21 => ?_
        refine wp_block ?_
        refine wp_seq_k fun K22 h22 => ?_
        refine cReg ?_
        refine stP hf rfl rfl rfl (pM rfl) fun a hf => ?_
        obtain ⟨e_3, he_3, hF⟩ := bnd_some hF
        obtain ⟨b_4, o_1, qa_1, qp_1⟩ := h_l.atm he_3
        refine stP hf rfl rfl rfl (pIA Try.underlying72 sz_24 rfl rfl qa_1) fun a hf => ?_
        refine stE hf hc rfl rfl rfl (eLdN (vs := [.int .i64 e_3.Lo, .int .i64 e_3.Hi]) ag_24 rfl rfl (cells_pc qp_1 (n := 2) (o' := 0) rfl)) fun a w hf hc => ?_
        refine stAl (cs := [.int .i64 0, .int .i64 0]) hf hc rfl rfl zr_24 rfl fun b_5 a w hf hc => ?_
        refine stP hf rfl rfl rfl (pA rfl) fun a hf => ?_
        refine stSt (vs := [.int .i64 e_3.Lo, .int .i64 e_3.Hi]) hf hc rfl rfl rfl rfl sz_24 rfl rfl u0 fun w hc => ?_
        refine cNil ?_
        refine h22 _ _ ?_
        refine wp_seq_k fun K23 h23 => ?_
        refine cReg ?_
        refine stP hf rfl rfl rfl (pM rfl) fun a hf => ?_
        refine stP hf rfl rfl rfl (pM rfl) fun a hf => ?_
        refine stP hf rfl rfl rfl (pGt rfl rfl) fun a hf => ?_
        refine stP hf rfl rfl rfl (pM rfl) fun a hf => ?_
        refine stCut 13 (fun a w => Has 56 a [(0, .slice l_p l.length l_c), (6, .int .i64 a_1), (7, .int .i64 b_1), (8, .int .i64 e_1), (9, .int .i64 x), (10, .pointer (some ⟨b_3, 0, none⟩)), (18, .slice l_p l.length l_c), (19, .int .i64 ((l.length : Nat) : Int)), (20, .int .i64 x), (25, .slice l_p l.length l_c), (26, .int .i64 ((l.length : Nat) : Int)), (27, .int .i64 x_1), (12, .pointer (some ⟨b_5, 0, none⟩)), (11, .int .i64 x_1), (32, .int .i64 x_1), (33, .int .i64 x), (34, .bool (decide (x < x_1))), (35, .bool (decide (x < x_1))), (48, .bool ((decide (x < x_1)) && ((decide (e_3.Hi < e_2.Lo)) || (decide (e_2.Hi < e_3.Lo)))))] ∧ Ctx G (.box b_5 [.int .i64 e_3.Lo, .int .i64 e_3.Hi] 24 :: .box b_3 [.int .i64 e_2.Lo, .int .i64 e_2.Hi] 24 :: Lf) w) ?_ ?_
        · cases hb : (decide (x < x_1))
          · rw [hb] at hf
            refine stS hf rfl rfl rfl fun a hf => ?_
            refine stS hf rfl rfl rfl fun a hf => ?_
            refine stS hf rfl rfl rfl fun a hf => ?_
            refine stS hf rfl rfl rfl fun a hf => ?_
            refine stS hf rfl rfl rfl fun a hf => ?_
            refine stS hf rfl rfl rfl fun a hf => ?_
            refine stS hf rfl rfl rfl fun a hf => ?_
            refine stS hf rfl rfl rfl fun a hf => ?_
            refine stS hf rfl rfl rfl fun a hf => ?_
            refine stS hf rfl rfl rfl fun a hf => ?_
            refine stS hf rfl rfl rfl fun a hf => ?_
            refine stS hf rfl rfl rfl fun a hf => ?_
            refine stP hf rfl rfl rfl (pPf rfl rfl) fun a hf => ?_
            exact cNil ⟨hf.keep ⟨rfl, rfl, rfl, rfl, rfl, rfl, rfl, rfl, rfl, rfl, rfl, rfl, rfl, rfl, rfl, rfl, rfl, rfl, rfl, trivial⟩, hc⟩
          · rw [hb] at hf
            refine stP hf rfl rfl rfl (pFA fa_24_0 rfl) fun a hf => ?_
            refine stE hf hc rfl rfl rfl (eLd1 sc_3 rfl (cell_box m1 rfl)) fun a w hf hc => ?_
            refine stP hf rfl rfl rfl (pFA fa_24_1 rfl) fun a hf => ?_
            refine stE hf hc rfl rfl rfl (eLd1 sc_3 rfl (cell_box m0 rfl)) fun a w hf hc => ?_
            refine stP hf rfl rfl rfl (pGt rfl rfl) fun a hf => ?_
            refine stP hf rfl rfl rfl (pM rfl) fun a hf => ?_
            refine stCut 6 (fun a w => Has 56 a [(0, .slice l_p l.length l_c), (6, .int .i64 a_1), (7, .int .i64 b_1), (8, .int .i64 e_1), (9, .int .i64 x), (10, .pointer (some ⟨b_3, 0, none⟩)), (18, .slice l_p l.length l_c), (19, .int .i64 ((l.length : Nat) : Int)), (20, .int .i64 x), (25, .slice l_p l.length l_c), (26, .int .i64 ((l.length : Nat) : Int)), (27, .int .i64 x_1), (12, .pointer (some ⟨b_5, 0, none⟩)), (11, .int .i64 x_1), (32, .int .i64 x_1), (33, .int .i64 x), (34, .bool true), (35, .bool true), (36, .pointer (some ⟨b_3, 0, none⟩)), (37, .int .i64 e_2.Lo), (38, .pointer (some ⟨b_5, 1, none⟩)), (39, .int .i64 e_3.Hi), (40, .bool (decide (e_3.Hi < e_2.Lo))), (41, .bool (decide (e_3.Hi < e_2.Lo))), (47, .bool ((decide (e_3.Hi < e_2.Lo)) || (decide (e_2.Hi < e_3.Lo))))] ∧ Ctx G (.box b_5 [.int .i64 e_3.Lo, .int .i64 e_3.Hi] 24 :: .box b_3 [.int .i64 e_2.Lo, .int .i64 e_2.Hi] 24 :: Lf) w) ?_ ?_
            · cases hb : (decide (e_3.Hi < e_2.Lo))
              · rw [hb] at hf
                refine stP hf rfl rfl rfl (pFA fa_24_0 rfl) fun a hf => ?_
                refine stE hf hc rfl rfl rfl (eLd1 sc_3 rfl (cell_box m0 rfl)) fun a w hf hc => ?_
                refine stP hf rfl rfl rfl (pFA fa_24_1 rfl) fun a hf => ?_
                refine stE hf hc rfl rfl rfl (eLd1 sc_3 rfl (cell_box m1 rfl)) fun a w hf hc => ?_
                refine stP hf rfl rfl rfl (pGt rfl rfl) fun a hf => ?_
                refine stP hf rfl rfl rfl (pPf rfl rfl) fun a hf => ?_
                exact cNil ⟨hf.keep ⟨rfl, rfl, rfl, rfl, rfl, rfl, rfl, rfl, rfl, rfl, rfl, rfl, rfl, rfl, rfl, rfl, rfl, rfl, rfl, rfl, rfl, rfl, rfl, rfl, rfl, trivial⟩, hc⟩
              · rw [hb] at hf
                refine stS hf rfl rfl rfl fun a hf => ?_
                refine stS hf rfl rfl rfl fun a hf => ?_
                refine stS hf rfl rfl rfl fun a hf => ?_
                refine stS hf rfl rfl rfl fun a hf => ?_
                refine stS hf rfl rfl rfl fun a hf => ?_
                refine stP hf rfl rfl rfl (pPt rfl rfl) fun a hf => ?_
                exact cNil ⟨hf.keep ⟨rfl, rfl, rfl, rfl, rfl, rfl, rfl, rfl, rfl, rfl, rfl, rfl, rfl, rfl, rfl, rfl, rfl, rfl, rfl, rfl, rfl, rfl, rfl, rfl, rfl, trivial⟩, hc⟩
            intro a w ⟨hf, hc⟩
            refine stP hf rfl rfl rfl (pPt rfl rfl) fun a hf => ?_
            exact cNil ⟨hf.keep ⟨rfl, rfl, rfl, rfl, rfl, rfl, rfl, rfl, rfl, rfl, rfl, rfl, rfl, rfl, rfl, rfl, rfl, rfl, rfl, trivial⟩, hc⟩
        intro a w ⟨hf, hc⟩
        refine cNil ?_
        refine h23 _ _ ?_
        refine cCond (b := ((decide (x < x_1)) && ((decide (e_3.Hi < e_2.Lo)) || (decide (e_2.Hi < e_3.Lo))))) hf rfl (fun hb => ?_) (fun hb => ?_)
        · replace hF := condT hb hF
          clear hb
          refine wp_seq_k fun K24 h24 => ?_
          refine cReg ?_
          refine stP hf rfl rfl rfl (pM rfl) fun a hf => ?_
          refine stP hf rfl rfl rfl (pM rfl) fun a hf => ?_
          refine stP hf rfl rfl rfl (pA rfl) fun a hf => ?_
          refine stP hf rfl rfl rfl (pA rfl) fun a hf => ?_
          refine stP hf rfl rfl rfl (pA rfl) fun a hf => ?_
          refine cNil ?_
          refine h24 _ _ ?_
          refine wp_exit ?_
          refine cMiss rfl ?_
          refine xThen ?_
          refine xThen ?_
          have he := Option.some.inj hF
          rw [← he] at hfin18
          replace hF := ho18 _ hfin18
          refine cMiss rfl ?_
          refine xThen ?_
          refine cMiss rfl ?_
          refine xThen ?_
          refine xThen ?_
          replace hc := hc.drop k1
          replace hc := hc.drop k0
          have he := hF
          rw [← he] at hfin10
          refine cHit ?_
          exact hr10 _ _ _ hfin10 ⟨hf.keep ⟨rfl, rfl, rfl, rfl, rfl, rfl, rfl, trivial⟩, hc⟩
        · replace hF := condF hb hF
          clear hb
          refine wp_skip ?_
          refine h21 _ _ ?_
          refine cReg ?_
          refine stP hf rfl rfl rfl (pAdd rfl rfl) fun a hf => ?_
          refine stP hf rfl rfl rfl (pM rfl) fun a hf => ?_
          refine cNil ?_
          replace hc := hc.drop k0
          exact hK18 (W (x_1 + 1)) _ _ (Option.some.inj hF).symm ⟨hf.keep ⟨rfl, rfl, rfl, rfl, rfl, rfl, rfl, rfl, rfl, rfl, rfl, rfl, trivial⟩, hc⟩
      · replace hF := condF hb hF
        clear hb
        refine wp_exit ?_
        refine xThen ?_
        refine xThen ?_
        have he := Option.some.inj hF
        rw [← he] at hfin18
        refine cHit ?_
        exact hr18 _ _ _ hfin18 ⟨hf.keep ⟨rfl, rfl, rfl, rfl, rfl, rfl, rfl, rfl, rfl, rfl, rfl, rfl, trivial⟩, hc⟩
    · replace hF := condF hb hF
      clear hb
      refine wp_exit ?_
      refine xThen ?_
      refine xThen ?_
      have he := Option.some.inj hF
      rw [← he] at hfin10
      refine cHit ?_
      exact hr10 _ _ _ hfin10 ⟨hf.keep ⟨rfl, rfl, rfl, rfl, rfl, rfl, rfl, trivial⟩, hc⟩

def gauge_Common_b9 (N : Nat) (l : List api_Span) (x : Int) (x_1 : Int) (x_2 : Int) : Option (Step (Int × Int × Int) (api_Span × Int)) :=
  cond (decide (x < ((l.length : Nat) : Int)))
  (Option.bind (getI l x) fun e_2 =>
  some (.cont (W (x + 1), max x_1 e_2.Lo, min x_2 e_2.Hi)))
  (some (.brk (x, x_1, x_2)))
def gauge_Common (N : Nat) (l : List api_Span) : Option (api_Span × Int) :=
  Option.bind (gauge_methods N l) fun r =>
  cond (r != 0)
  (some ((⟨0, 0⟩ : api_Span), r))
  (Option.bind (getI l 0) fun e_1 =>
  Option.bind (loopO (fun s9 => gauge_Common_b9 N l s9.1 s9.2.1 s9.2.2) N (0, e_1.Lo, e_1.Hi)) fun x9 =>
  exK x9 (fun s9 => cond (decide (s9.2.2 < s9.2.1))
  (some ((⟨0, 0⟩ : api_Span), 7))
  (some ((⟨s9.2.1, s9.2.2⟩ : api_Span), 0))) some)
theorem gauge_Common_ok {N : Nat} {G : Pers} {Lf : List Ent} {w : World} (l : List api_Span) {l_p : Option Addr} {l_c : Nat} (h_l : Rd G 2 l_p l_c (l.map enc_api_Span)) (hc : Ctx G (Lf) w) {res : api_Span × Int} (hF : gauge_Common N l = some res) : Calls Try.prog 46 #[.slice l_p l.length l_c] w (fun e w => e = .returned (.tuple #[.agg #[.int .i64 res.1.Lo, .int .i64 res.1.Hi], .int .i64 res.2]) ∧ Ctx G (Lf) w) := by
  unfold gauge_Common at hF
  refine fnIn (args := [.slice l_p l.length l_c]) Try.func46 rfl Try.ntmps46 rfl fun a hf => ?_
  refine wp_seq_k fun K1 h1 => ?_
  refine cReg ?_
  refine stAl (cs := [.int .i64 0, .int .i64 0]) hf hc rfl rfl zr_24 rfl fun b_1 a w hf hc => ?_
  refine stP hf rfl rfl rfl (pA rfl) fun a hf => ?_
  refine cNil ?_
  refine h1 _ _ ?_
  refine wp_seq_k fun K2 h2 => ?_
  refine wp_seq_k fun K3 h3 => ?_
  refine cReg ?_
  refine stP hf rfl rfl rfl (pM rfl) fun a hf => ?_
  obtain ⟨r, hr, hF⟩ := bnd_some hF
  refine stE hf hc rfl rfl rfl (eC (v := .int .i64 r) (vs := [.slice l_p l.length l_c]) (caps := []) en_90 rfl rfl rfl rfl (fun w hc => gauge_methods_ok l h_l hc hr)) fun a w hf hc => ?_
  refine stP hf rfl rfl rfl (pA rfl) fun a hf => ?_
  refine cNil ?_
  refine h3 _ _ ?_
  refine wp_seq_k fun K4 h4 => ?_
  refine cReg ?_
  refine stP hf rfl rfl rfl (pM rfl) fun a hf => ?_
  refine stP hf rfl rfl rfl (pNe rfl rfl) fun a hf => ?_
  refine cNil ?_
  refine h4 _ _ ?_
  refine cCond (b := (r != 0)) hf rfl (fun hb => ?_) (fun hb => ?_)
  · replace hF := condT hb hF
    clear hb
    refine wp_seq_k fun K5 h5 => ?_
    refine cReg ?_
    refine stP hf rfl rfl rfl (pBuildS (cells := [.int .i64 0, .int .i64 0]) bt_24 rfl rfl) fun a hf => ?_
    refine stP hf rfl rfl rfl (pM rfl) fun a hf => ?_
    refine stSt (vs := [.int .i64 0, .int .i64 0]) hf hc rfl rfl rfl rfl sz_24 rfl rfl u0 fun w hc => ?_
    refine stP hf rfl rfl rfl (pA rfl) fun a hf => ?_
    refine cNil ?_
    refine h5 _ _ ?_
    refine wp_ret ?_
    refine xThenR ?_
    obtain rfl := Option.some.inj hF
    exact fnOut2 (by simp) rfl Try.results46 hf hc (rv_cellN (vs := [.int .i64 0, .int .i64 0]) ag_24 rfl rfl (cells_box (n := 2) m0 rfl)) (show look _ 3 = _ from rfl) ⟨rfl, (hc.drop k0)⟩
  · replace hF := condF hb hF
    clear hb
    refine wp_skip ?_
    refine h2 _ _ ?_
    refine wp_seq_k fun K6 h6 => ?_
    refine cReg ?_
    refine stP hf rfl rfl rfl (pM rfl) fun a hf => ?_
    obtain ⟨e_1, he_1, hF⟩ := bnd_some hF
    obtain ⟨b_2, o, qa, qp⟩ := h_l.atm he_1
    refine stP hf rfl rfl rfl (pIA Try.underlying72 sz_24 rfl rfl qa) fun a hf => ?_
    refine stE hf hc rfl rfl rfl (eLdN (vs := [.int .i64 e_1.Lo, .int .i64 e_1.Hi]) ag_24 rfl rfl (cells_pc qp (n := 2) (o' := 0) rfl)) fun a w hf hc => ?_
    refine stAl (cs := [.int .i64 0, .int .i64 0]) hf hc rfl rfl zr_24 rfl fun b_3 a w hf hc => ?_
    refine stSt (vs := [.int .i64 e_1.Lo, .int .i64 e_1.Hi]) hf hc rfl rfl rfl rfl sz_24 rfl rfl u0 fun w hc => ?_
    refine cNil ?_
    refine h6 _ _ ?_
    refine wp_seq_k fun K7 h7 => ?_
    refine wp_seq_k fun K8 h8 => ?_
    refine cReg ?_
    refine stP hf rfl rfl rfl (pM rfl) fun a hf => ?_
    refine stP hf rfl rfl rfl (pLenS Try.underlying72 rfl) fun a hf => ?_
    refine stP hf rfl rfl rfl (pM rfl) fun a hf => ?_
    refine cNil ?_
    refine h8 _ _ ?_
    refine wp_block ?_
    obtain ⟨x9, hx9, hF⟩ := bnd_some hF
    let S9 : (Int × Int × Int) → Act → World → Prop := (fun (zz : Int × Int × Int) a w => Has 42 a [(2, .pointer (some ⟨b_1, 0, none⟩)), (5, .pointer (some ⟨b_3, 0, none⟩)), (17, .slice l_p l.length l_c), (18, .int .i64 ((l.length : Nat) : Int)), (19, .int .i64 zz.1)] ∧ Ctx G (.box b_3 [.int .i64 zz.2.1, .int .i64 zz.2.2] 24 :: .box b_1 [.int .i64 0, .int .i64 0] 24 :: Lf) w)
    have hr9 : ∀ (zz : Int × Int × Int) a w, x9 = .go zz → S9 zz a w → K7 a w := by
      rintro ⟨x, x_1, x_2⟩ a w rfl ⟨hf, hc⟩
      replace hF : _ = some res := hF
      refine h7 _ _ ?_
      refine wp_seq_k fun K10 h10 => ?_
      refine wp_seq_k fun K11 h11 => ?_
      refine cReg ?_
      refine stP hf rfl rfl rfl (pFA fa_24_0 rfl) fun a hf => ?_
      refine stE hf hc rfl rfl rfl (eLd1 sc_3 rfl (cell_box m0 rfl)) fun a w hf hc => ?_
      refine stP hf rfl rfl rfl (pFA fa_24_1 rfl) fun a hf => ?_
      refine stE hf hc rfl rfl rfl (eLd1 sc_3 rfl (cell_box m0 rfl)) fun a w hf hc => ?_
      refine stP hf rfl rfl rfl (pGt rfl rfl) fun a hf => ?_
      refine cNil ?_
      refine h11 _ _ ?_
      refine cCond (b := (decide (x_2 < x_1))) hf rfl (fun hb => ?_) (fun hb => ?_)
      · replace hF := condT hb hF
        clear hb
        refine wp_seq_k fun K12 h12 => ?_
        refine cReg ?_
        refine stP hf rfl rfl rfl (pBuildS (cells := [.int .i64 0, .int .i64 0]) bt_24 rfl rfl) fun a hf => ?_
        refine stSt (vs := [.int .i64 0, .int .i64 0]) hf hc rfl rfl rfl rfl sz_24 rfl rfl u1 fun w hc => ?_
        refine stP hf rfl rfl rfl (pA rfl) fun a hf => ?_
        refine cNil ?_
        refine h12 _ _ ?_
        refine wp_ret ?_
        refine xThenR ?_
        obtain rfl := Option.some.inj hF
        replace hc := hc.drop k0
        exact fnOut2 (by simp) rfl Try.results46 hf hc (rv_cellN (vs := [.int .i64 0, .int .i64 0]) ag_24 rfl rfl (cells_box (n := 2) m0 rfl)) (show look _ 3 = _ from rfl) ⟨rfl, (hc.drop k0)⟩
      · replace hF := condF hb hF
        clear hb
        refine wp_skip ?_
        refine h10 _ _ ?_
        refine wp_seq_k fun K13 h13 => ?_
        refine cReg ?_
        refine stE hf hc rfl rfl rfl (eLdN (vs := [.int .i64 x_1, .int .i64 x_2]) ag_24 rfl rfl (cells_box (n := 2) m0 rfl)) fun a w hf hc => ?_
        refine stSt (vs := [.int .i64 x_1, .int .i64 x_2]) hf hc rfl rfl rfl rfl sz_24 rfl rfl u1 fun w hc => ?_
        refine stP hf rfl rfl rfl (pA rfl) fun a hf => ?_
        refine cNil ?_
        refine h13 _ _ ?_
        refine wp_ret ?_
        obtain rfl := Option.some.inj hF
        replace hc := hc.drop k0
        exact fnOut2 (by simp) rfl Try.results46 hf hc (rv_cellN (vs := [.int .i64 x_1, .int .i64 x_2]) ag_24 rfl rfl (cells_box (n := 2) m0 rfl)) (show look _ 3 = _ from rfl) ⟨rfl, (hc.drop k0)⟩
    have ho9 : ∀ r, x9 = .out r → r = res := by
      rintro r rfl
      exact Option.some.inj hF
    refine cLoop N (loopW (S := S9) (x := x9) ?_ N (0, e_1.Lo, e_1.Hi) _ _ ⟨hf.keep ⟨rfl, rfl, rfl, rfl, rfl, trivial⟩, hc⟩ hx9)
    clear hF hf hc
    rintro ⟨x, x_1, x_2⟩ st9 a w KB9 ⟨hf, hc⟩ hF hfin9 hK9
    unfold gauge_Common_b9 at hF
    refine wp_seq_k fun K14 h14 => ?_
    refine cReg ?_
    refine stP hf rfl rfl rfl (pLt rfl rfl) fun a hf => ?_
    refine cNil ?_
    refine h14 _ _ ?_
    refine wp_seq_k fun K15 h15 => ?_
    refine cCond (b := (decide (x < ((l.length : Nat) : Int)))) hf rfl (fun hb => ?_) (fun hb => ?_)
    · replace hF := condT hb hF
      clear hb
      refine wp_skip ?_
      refine h15 _ _ ?_
      refine wp_seq_k fun K16 h16 => ?_
      refine wp_block ?_
      refine wp_seq_k fun K17 h17 => ?_
      refine cReg ?_
      obtain ⟨e_2, he_2, hF⟩ := bnd_some hF
      obtain ⟨b_4, o_1, qa_1, qp_1⟩ := h_l.atm he_2
      refine stP hf rfl rfl rfl (pIA Try.underlying72 sz_24 rfl rfl qa_1) fun a hf => ?_
      refine stE hf hc rfl rfl rfl (eLdN (vs := [.int .i64 e_2.Lo, .int .i64 e_2.Hi]) ag_24 rfl rfl (cells_pc qp_1 (n := 2) (o' := 0) rfl)) fun a w hf hc => ?_
      refine stAl (cs := [.int .i64 0, .int .i64 0]) hf hc rfl rfl zr_24 rfl fun b_5 a w hf hc => ?_
      refine stSt (vs := [.int .i64 e_2.Lo, .int .i64 e_2.Hi]) hf hc rfl rfl rfl rfl sz_24 rfl rfl u0 fun w hc => ?_
      refine cNil ?_
      refine h17 _ _ ?_
      refine cReg ?_
      refine stP hf rfl rfl rfl (pFA fa_24_0 rfl) fun a hf => ?_
      refine stE hf hc rfl rfl rfl (eLd1 sc_3 rfl (cell_box m1 rfl)) fun a w hf hc => ?_
      refine stP hf rfl rfl rfl (pFA fa_24_0 rfl) fun a hf => ?_
      refine stE hf hc rfl rfl rfl (eLd1 sc_3 rfl (cell_box m0 rfl)) fun a w hf hc => ?_
      refine stP hf rfl rfl rfl (pMax2 rfl rfl) fun a hf => ?_
      refine stP hf rfl rfl rfl (pFA fa_24_1 rfl) fun a hf => ?_
      refine stE hf hc rfl rfl rfl (eLd1 sc_3 rfl (cell_box m1 rfl)) fun a w hf hc => ?_
      refine stP hf rfl rfl rfl (pFA fa_24_1 rfl) fun a hf => ?_
      refine stE hf hc rfl rfl rfl (eLd1 sc_3 rfl (cell_box m0 rfl)) fun a w hf hc => ?_
      refine stP hf rfl rfl rfl (pMin2 rfl rfl) fun a hf => ?_
      refine stP hf rfl rfl rfl (pBuildS (cells := [.int .i64 (max x_1 e_2.Lo), .int .i64 (min x_2 e_2.Hi)]) bt_24 rfl rfl) fun a hf => ?_
      refine stSt (vs := [.int .i64 (max x_1 e_2.Lo), .int .i64 (min x_2 e_2.Hi)]) hf hc rfl rfl rfl rfl sz_24 rfl rfl u1 fun w hc => ?_
      refine cNil ?_
      refine h16 _ _ ?_
      refine cReg ?_
      refine stP hf rfl rfl rfl (pAdd rfl rfl) fun a hf => ?_
      refine stP hf rfl rfl rfl (pM rfl) fun a hf => ?_
      refine cNil ?_
      replace hc := hc.drop k0
      exact hK9 (W (x + 1), max x_1 e_2.Lo, min x_2 e_2.Hi) _ _ (Option.some.inj hF).symm ⟨hf.keep ⟨rfl, rfl, rfl, rfl, rfl, trivial⟩, hc⟩
    · replace hF := condF hb hF
      clear hb
      refine wp_exit ?_
      refine xThen ?_
      refine xThen ?_
      have he := Option.some.inj hF
      rw [← he] at hfin9
      refine cHit ?_
      exact hr9 _ _ _ hfin9 ⟨hf.keep ⟨rfl, rfl, rfl, rfl, rfl, trivial⟩, hc⟩

def law03_Three (N : Nat)  : Option (gauge_Site) :=
  some (⟨0, 40, 20, 50, ([(⟨10, 30, 2⟩ : gauge_Point), (⟨20, 60, 1⟩ : gauge_Point), (⟨30, 40, 4⟩ : gauge_Point)] : List gauge_Point)⟩ : gauge_Site)
theorem law03_Three_ok {N : Nat} {G : Pers} {Lf : List Ent} {w : World}    (hc : Ctx G (Lf) w) {res : gauge_Site} (hF : law03_Three N = some res) : Calls Try.prog 54 #[] w (fun e w => ∃ (p'1 : Option Addr) (c'1 : Nat), e = .returned (.agg #[.int .i64 res.Left, .int .i64 res.Right, .int .i64 res.Gap, .int .i64 res.Step_, .slice p'1 res.Points.length c'1]) ∧ Ctx G (.row p'1 c'1 (res.Points.map enc_gauge_Point) 64 3 :: Lf) w) := by
  unfold law03_Three at hF
  refine fnIn (args := []) Try.func54 rfl Try.ntmps54 rfl fun a hf => ?_
  refine wp_seq_k fun K1 h1 => ?_
  refine cReg ?_
  refine stAl (cs := [.int .i64 0, .int .i64 0, .int .i64 0, .int .i64 0, .slice none 0 0]) hf hc rfl rfl zr_55 rfl fun b_1 a w hf hc => ?_
  refine cNil ?_
  refine h1 _ _ ?_
  refine wp_seq_k fun K2 h2 => ?_
  refine cReg ?_
  refine stP hf rfl rfl rfl (pBuildS (cells := [.int .i64 10, .int .i64 30, .int .i64 2]) bt_64 rfl rfl) fun a hf => ?_
  refine stP hf rfl rfl rfl (pBuildS (cells := [.int .i64 20, .int .i64 60, .int .i64 1]) bt_64 rfl rfl) fun a hf => ?_
  refine stP hf rfl rfl rfl (pBuildS (cells := [.int .i64 30, .int .i64 40, .int .i64 4]) bt_64 rfl rfl) fun a hf => ?_
  refine stBS (rows := ([(⟨10, 30, 2⟩ : gauge_Point), (⟨20, 60, 1⟩ : gauge_Point), (⟨30, 40, 4⟩ : gauge_Point)] : List gauge_Point).map enc_gauge_Point) (vs := [(0, .agg #[.int .i64 10, .int .i64 30, .int .i64 2]), (1, .agg #[.int .i64 20, .int .i64 60, .int .i64 1]), (2, .agg #[.int .i64 30, .int .i64 40, .int .i64 4])]) hf hc rfl rfl sl_53 rfl ⟨rfl, rfl, rfl, rfl, rfl, rfl, rfl, rfl, rfl, trivial⟩ rfl rfl fun b_2 a w hf hc => ?_
  refine stP hf rfl rfl rfl (pBuildS (cells := [.int .i64 0, .int .i64 40, .int .i64 20, .int .i64 50, .slice (some ⟨b_2, 0, none⟩) 3 3]) bt_55 rfl rfl) fun a hf => ?_
  refine stSt (vs := [.int .i64 0, .int .i64 40, .int .i64 20, .int .i64 50, .slice (some ⟨b_2, 0, none⟩) 3 3]) hf hc rfl rfl rfl rfl sz_55 rfl rfl u1 fun w hc => ?_
  refine cNil ?_
  refine h2 _ _ ?_
  refine wp_ret ?_
  obtain rfl := Option.some.inj hF
  exact fnOut1 (by simp) rfl Try.results54 hf hc (rv_cellN (vs := [.int .i64 0, .int .i64 40, .int .i64 20, .int .i64 50, .slice (some ⟨b_2, 0, none⟩) 3 3]) ag_55 rfl rfl (cells_box (n := 5) m1 rfl)) ⟨(some ⟨b_2, 0, none⟩), 3, rfl, (hc.drop k1)⟩

def gauge_Proves_1 (n : Int) : Bool :=
  (gauge_in n (-1000000000) 1000000000)
theorem gauge_Proves_1_ok {G : Pers} {Lf : List Ent} {w : World} (n : Int)   (hc : Ctx G (Lf) w) {res : Bool} (hF : gauge_Proves_1 n = res) : Calls Try.prog 88 #[.int .i64 n] w (fun e w => e = .returned (.bool res) ∧ Ctx G (Lf) w) := by
  unfold gauge_Proves_1 at hF
  refine fnIn (args := [.int .i64 n]) Try.func88 rfl Try.ntmps88 rfl fun a hf => ?_
  refine wp_seq_k fun K1 h1 => ?_
  refine cReg ?_
  refine stP hf rfl rfl rfl (pA rfl) fun a hf => ?_
  refine cNil ?_
  refine h1 _ _ ?_
  refine wp_seq_k fun K2 h2 => ?_
  refine cReg ?_
  refine stP hf rfl rfl rfl (pM rfl) fun a hf => ?_
  refine stE hf hc rfl rfl rfl (eC (v := .bool (gauge_in n (-1000000000) 1000000000)) (vs := [.int .i64 n, .int .i64 (-1000000000), .int .i64 1000000000]) (caps := []) en_55 rfl rfl rfl rfl (fun w hc => gauge_in_ok n (-1000000000) 1000000000 hc rfl)) fun a w hf hc => ?_
  refine stP hf rfl rfl rfl (pA rfl) fun a hf => ?_
  refine cNil ?_
  refine h2 _ _ ?_
  refine wp_ret ?_
  obtain rfl := hF
  exact fnOut1 (by simp) rfl Try.results88 hf hc (show look _ 2 = _ from rfl) ⟨rfl, hc⟩

def gauge_every_int_1 (x : Int) : Bool :=
  (!(gauge_Proves_1 x))
theorem gauge_every_int_1_ok {G : Pers} {Lf : List Ent} {w : World} (x : Int) {b_ : Nat}  (hc : Ctx G (.box b_ [.func (.func 88) #[] #[]] 145 :: Lf) w) {res : Bool} (hF : gauge_every_int_1 x = res) : Calls Try.prog 108 #[.int .i64 x, .pointer (some ⟨b_, 0, none⟩)] w (fun e w => e = .returned (.bool res) ∧ Ctx G (.box b_ [.func (.func 88) #[] #[]] 145 :: Lf) w) := by
  unfold gauge_every_int_1 at hF
  refine fnIn (args := [.int .i64 x, .pointer (some ⟨b_, 0, none⟩)]) Try.func108 rfl Try.ntmps108 rfl fun a hf => ?_
  refine wp_seq_k fun K1 h1 => ?_
  refine cReg ?_
  refine stP hf rfl rfl rfl (pA rfl) fun a hf => ?_
  refine cNil ?_
  refine h1 _ _ ?_
  refine wp_seq_k fun K2 h2 => ?_
  refine cReg ?_
  refine stE hf hc rfl rfl rfl (eLd1 sc_145 rfl (cell_box m0 rfl)) fun a w hf hc => ?_
  refine stP hf rfl rfl rfl (pM rfl) fun a hf => ?_
  refine stE hf hc rfl rfl rfl (eC (v := .bool (gauge_Proves_1 x)) (vs := [.int .i64 x]) (caps := []) en_88 rfl rfl rfl rfl (fun w hc => gauge_Proves_1_ok x hc rfl)) fun a w hf hc => ?_
  refine stP hf rfl rfl rfl (pNot rfl) fun a hf => ?_
  refine stP hf rfl rfl rfl (pA rfl) fun a hf => ?_
  refine cNil ?_
  refine h2 _ _ ?_
  refine wp_ret ?_
  obtain rfl := hF
  exact fnOut1 (by simp) rfl Try.results108 hf hc (show look _ 3 = _ from rfl) ⟨rfl, hc⟩

def slices_IndexFunc_Lint_int_b4 (N : Nat) (s_ : List Int) (x : Int) : Option (Step (Int) (Int)) :=
  cond (decide (x < ((s_.length : Nat) : Int)))
  (Option.bind (getI s_ x) fun e_1 =>
  cond (gauge_every_int_1 e_1)
  (some (.ret x))
  (some (.cont (W (x + 1)))))
  (some (.brk x))
def slices_IndexFunc_Lint_int (N : Nat) (s_ : List Int) : Option (Int) :=
  Option.bind (loopO (fun s4 => slices_IndexFunc_Lint_int_b4 N s_ s4) N 0) fun x4 =>
  exK x4 (fun s4 => some (-1)) some
theorem slices_IndexFunc_Lint_int_ok {N : Nat} {G : Pers} {Lf : List Ent} {w : World} (s_ : List Int) {s__p : Option Addr} {s__c : Nat} {b_ : Nat} (h_s_ : Rd G 1 s__p s__c (s_.map encI_i64)) (hc : Ctx G (.box b_ [.func (.func 88) #[] #[]] 145 :: Lf) w) {res : Int} (hF : slices_IndexFunc_Lint_int N s_ = some res) : Calls Try.prog 118 #[.slice s__p s_.length s__c, .func (.func 108) #[] #[.pointer (some ⟨b_, 0, none⟩)]] w (fun e w => e = .returned (.int .i64 res) ∧ Ctx G (.box b_ [.func (.func 88) #[] #[]] 145 :: Lf) w) := by
  unfold slices_IndexFunc_Lint_int at hF
  refine fnIn (args := [.slice s__p s_.length s__c, .func (.func 108) #[] #[.pointer (some ⟨b_, 0, none⟩)]]) Try.func118 rfl Try.ntmps118 rfl fun a hf => ?_
  refine wp_seq_k fun K1 h1 => ?_
  refine cReg ?_
  refine stP hf rfl rfl rfl (pA rfl) fun a hf => ?_
  refine cNil ?_
  refine h1 _ _ ?_
  refine wp_seq_k fun K2 h2 => ?_
  refine wp_seq_k fun K3 h3 => ?_
  refine cReg ?_
  refine stP hf rfl rfl rfl (pM rfl) fun a hf => ?_
  refine stP hf rfl rfl rfl (pLenS Try.underlying43 rfl) fun a hf => ?_
  refine stP hf rfl rfl rfl (pM rfl) fun a hf => ?_
  refine cNil ?_
  refine h3 _ _ ?_
  refine wp_block ?_
  obtain ⟨x4, hx4, hF⟩ := bnd_some hF
  let S4 : Int → Act → World → Prop := (fun (zz : Int) a w => Has 19 a [(0, .slice s__p s_.length s__c), (1, .func (.func 108) #[] #[.pointer (some ⟨b_, 0, none⟩)]), (7, .int .i64 ((s_.length : Nat) : Int)), (8, .int .i64 zz)] ∧ Ctx G (.box b_ [.func (.func 88) #[] #[]] 145 :: Lf) w)
  have hr4 : ∀ (zz : Int) a w, x4 = .go zz → S4 zz a w → K2 a w := by
    rintro x a w rfl ⟨hf, hc⟩
    replace hF : _ = some res := hF
    refine h2 _ _ ?_
    refine wp_seq_k fun K5 h5 => ?_
    refine cReg ?_
    refine stP hf rfl rfl rfl (pA rfl) fun a hf => ?_
    refine cNil ?_
    refine h5 _ _ ?_
    refine wp_ret ?_
    obtain rfl := Option.some.inj hF
    exact fnOut1 (by simp) rfl Try.results118 hf hc (show look _ 4 = _ from rfl) ⟨rfl, hc⟩
  have ho4 : ∀ r, x4 = .out r → r = res := by
    rintro r rfl
    exact Option.some.inj hF
  refine cLoop N (loopW (S := S4) (x := x4) ?_ N 0 _ _ ⟨hf.keep ⟨rfl, rfl, rfl, rfl, trivial⟩, hc⟩ hx4)
  clear hF hf hc
  rintro x st4 a w KB4 ⟨hf, hc⟩ hF hfin4 hK4
  unfold slices_IndexFunc_Lint_int_b4 at hF
  refine wp_seq_k fun K6 h6 => ?_
  refine cReg ?_
  refine stP hf rfl rfl rfl (pLt rfl rfl) fun a hf => ?_
  refine cNil ?_
  refine h6 _ _ ?_
  refine wp_seq_k fun K7 h7 => ?_
  refine cCond (b := (decide (x < ((s_.length : Nat) : Int)))) hf rfl (fun hb => ?_) (fun hb => ?_)
  · replace hF := condT hb hF
    clear hb
    refine wp_skip ?_
    refine h7 _ _ ?_
    refine wp_seq_k fun K8 h8 => ?_
    refine wp_block ?_
    refine wp_seq_k fun K9 h9 => ?_
    refine cReg ?_
    refine stP hf rfl rfl rfl (pM rfl) fun a hf => ?_
    refine stP hf rfl rfl rfl (pA rfl) fun a hf => ?_
    refine cNil ?_
    refine h9 _ _ ?_
    refine wp_seq_k fun K10 h10 => ?_
    refine cReg ?_
    refine stP hf rfl rfl rfl (pM rfl) fun a hf => ?_
    refine stP hf rfl rfl rfl (pM rfl) fun a hf => ?_
    refine stP hf rfl rfl rfl (pM rfl) fun a hf => ?_
    obtain ⟨e_1, he_1, hF⟩ := bnd_some hF
    obtain ⟨b_1, o, qa, qp⟩ := h_s_.atm he_1
    refine stP hf rfl rfl rfl (pIA Try.underlying43 sz_3 rfl rfl qa) fun a hf => ?_
    refine stE hf hc rfl rfl rfl (eLd1 sc_3 rfl (cell_pc (j := 0) qp rfl)) fun a w hf hc => ?_
    refine stE hf hc rfl rfl rfl (eC (v := .bool (gauge_every_int_1 e_1)) (vs := [.int .i64 e_1]) (caps := [.pointer (some ⟨b_, 0, none⟩)]) en_108 rfl rfl rfl rfl (fun w hc => (gauge_every_int_1_ok e_1 (hc.pick k0) rfl).mono fun e w h => ⟨h.1, (h.2.unpick k0)⟩)) fun a w hf hc => ?_
    refine cNil ?_
    refine h10 _ _ ?_
    refine cCond (b := (gauge_every_int_1 e_1)) hf rfl (fun hb => ?_) (fun hb => ?_)
    · replace hF := condT hb hF
      clear hb
      refine wp_seq_k fun K11 h11 => ?_
      refine cReg ?_
      refine stP hf rfl rfl rfl (pM rfl) fun a hf => ?_
      refine stP hf rfl rfl rfl (pA rfl) fun a hf => ?_
      refine cNil ?_
      refine h11 _ _ ?_
      refine wp_ret ?_
      refine xBlkR ?_
      refine xThenR ?_
      refine xThenR ?_
      have he := Option.some.inj hF
      rw [← he] at hfin4
      replace hF := ho4 _ hfin4
      refine xBlkR ?_
      refine xThenR ?_
      obtain rfl := hF
      exact fnOut1 (by simp) rfl Try.results118 hf hc (show look _ 4 = _ from rfl) ⟨rfl, hc⟩
    · replace hF := condF hb hF
      clear hb
      refine wp_skip ?_
      refine h8 _ _ ?_
      refine cReg ?_
      refine stP hf rfl rfl rfl (pAdd rfl rfl) fun a hf => ?_
      refine stP hf rfl rfl rfl (pM rfl) fun a hf => ?_
      refine cNil ?_
      exact hK4 (W (x + 1)) _ _ (Option.some.inj hF).symm ⟨hf.keep ⟨rfl, rfl, rfl, rfl, trivial⟩, hc⟩
  · replace hF := condF hb hF
    clear hb
    refine wp_exit ?_
    refine xThen ?_
    refine xThen ?_
    have he := Option.some.inj hF
    rw [← he] at hfin4
    refine cHit ?_
    exact hr4 _ _ _ hfin4 ⟨hf.keep ⟨rfl, rfl, rfl, rfl, trivial⟩, hc⟩

def slices_ContainsFunc_Lint_int (N : Nat) (s_ : List Int) : Option (Bool) :=
  Option.bind (slices_IndexFunc_Lint_int N s_) fun r =>
  some (decide (0 ≤ r))
theorem slices_ContainsFunc_Lint_int_ok {N : Nat} {G : Pers} {Lf : List Ent} {w : World} (s_ : List Int) {s__p : Option Addr} {s__c : Nat} {b_ : Nat} (h_s_ : Rd G 1 s__p s__c (s_.map encI_i64)) (hc : Ctx G (.box b_ [.func (.func 88) #[] #[]] 145 :: Lf) w) {res : Bool} (hF : slices_ContainsFunc_Lint_int N s_ = some res) : Calls Try.prog 107 #[.slice s__p s_.length s__c, .func (.func 108) #[] #[.pointer (some ⟨b_, 0, none⟩)]] w (fun e w => e = .returned (.bool res) ∧ Ctx G (.box b_ [.func (.func 88) #[] #[]] 145 :: Lf) w) := by
  unfold slices_ContainsFunc_Lint_int at hF
  refine fnIn (args := [.slice s__p s_.length s__c, .func (.func 108) #[] #[.pointer (some ⟨b_, 0, none⟩)]]) Try.func107 rfl Try.ntmps107 rfl fun a hf => ?_
  refine wp_seq_k fun K1 h1 => ?_
  refine cReg ?_
  refine stP hf rfl rfl rfl (pA rfl) fun a hf => ?_
  refine cNil ?_
  refine h1 _ _ ?_
  refine wp_seq_k fun K2 h2 => ?_
  refine cReg ?_
  refine stP hf rfl rfl rfl (pM rfl) fun a hf => ?_
  refine stP hf rfl rfl rfl (pM rfl) fun a hf => ?_
  obtain ⟨r, hr, hF⟩ := bnd_some hF
  refine stE hf hc rfl rfl rfl (eC (v := .int .i64 r) (vs := [.slice s__p s_.length s__c, .func (.func 108) #[] #[.pointer (some ⟨b_, 0, none⟩)]]) (caps := []) en_118 rfl rfl rfl rfl (fun w hc => (slices_IndexFunc_Lint_int_ok s_ h_s_ (hc.pick k0) hr).mono fun e w h => ⟨h.1, (h.2.unpick k0)⟩)) fun a w hf hc => ?_
  refine stP hf rfl rfl rfl (pGe rfl rfl) fun a hf => ?_
  refine stP hf rfl rfl rfl (pA rfl) fun a hf => ?_
  refine cNil ?_
  refine h2 _ _ ?_
  refine wp_ret ?_
  obtain rfl := Option.some.inj hF
  exact fnOut1 (by simp) rfl Try.results107 hf hc (show look _ 4 = _ from rfl) ⟨rfl, hc⟩

def gauge_every_int (N : Nat) (l : List Int) : Option (Bool) :=
  Option.bind (slices_ContainsFunc_Lint_int N l) fun r =>
  some (!r)
theorem gauge_every_int_ok {N : Nat} {G : Pers} {Lf : List Ent} {w : World} (l : List Int) {l_p : Option Addr} {l_c : Nat} (h_l : Rd G 1 l_p l_c (l.map encI_i64)) (hc : Ctx G (Lf) w) {res : Bool} (hF : gauge_every_int N l = some res) : Calls Try.prog 79 #[.slice l_p l.length l_c, .func (.func 88) #[] #[]] w (fun e w => e = .returned (.bool res) ∧ Ctx G (Lf) w) := by
  unfold gauge_every_int at hF
  refine fnIn (args := [.slice l_p l.length l_c, .func (.func 88) #[] #[]]) Try.func79 rfl Try.ntmps79 rfl fun a hf => ?_
  refine wp_seq_k fun K1 h1 => ?_
  refine cReg ?_
  refine stBx (cs := [.func (.func 88) #[] #[]]) hf hc rfl rfl rfl rfl fun b_1 a w hf hc => ?_
  refine stP hf rfl rfl rfl (pA rfl) fun a hf => ?_
  refine cNil ?_
  refine h1 _ _ ?_
  refine wp_seq_k fun K2 h2 => ?_
  refine cReg ?_
  refine stP hf rfl rfl rfl (pM rfl) fun a hf => ?_
  refine stP hf rfl rfl rfl (pMF (us := [.pointer (some ⟨b_1, 0, none⟩)]) rfl rfl) fun a hf => ?_
  obtain ⟨r, hr, hF⟩ := bnd_some hF
  refine stE hf hc rfl rfl rfl (eC (v := .bool r) (vs := [.slice l_p l.length l_c, .func (.func 108) #[] #[.pointer (some ⟨b_1, 0, none⟩)]]) (caps := []) en_107 rfl rfl rfl rfl (fun w hc => (slices_ContainsFunc_Lint_int_ok l h_l (hc.pick k0) hr).mono fun e w h => ⟨h.1, (h.2.unpick k0)⟩)) fun a w hf hc => ?_
  refine stP hf rfl rfl rfl (pNot rfl) fun a hf => ?_
  refine stP hf rfl rfl rfl (pA rfl) fun a hf => ?_
  refine cNil ?_
  refine h2 _ _ ?_
  refine wp_ret ?_
  obtain rfl := Option.some.inj hF
  replace hc := hc.drop k0
  exact fnOut1 (by simp) rfl Try.results79 hf hc (show look _ 4 = _ from rfl) ⟨rfl, hc⟩

def gauge_work_station_s2 (N : Nat) (w_ : Int) (w__1 : Int) (w__2 : Int) (w__3 : Int) (w__4 : List gauge_Point) (w__5 : Nat → gauge_spent) (i_ : Int) : Option (gauge_Point) :=
  cond (i_ == 0)
  (some (⟨w_, 0, 0⟩ : gauge_Point))
  (cond (i_ == (W (((w__4.length : Nat) : Int) + 1)))
  (some (⟨w__1, 0, 0⟩ : gauge_Point))
  (Option.bind (getI w__4 (W (i_ - 1))) fun e_1 =>
  some e_1))
theorem gauge_work_station_s2_ok {N : Nat} {G : Pers} {Lf : List Ent} {w : World} (w_ : Int) (w__1 : Int) (w__2 : Int) (w__3 : Int) (w__4 : List gauge_Point) (w__5 : Nat → gauge_spent) (i_ : Int) {b_ : Nat} {w__4_p : Option Addr} {w__4_c : Nat} (h_w__4 : Rd G 3 w__4_p w__4_c (w__4.map enc_gauge_Point)) (hc : Ctx G (.box b_ (catc [.int .i64 w_, .int .i64 w__1, .int .i64 w__2, .int .i64 w__3, .slice w__4_p w__4.length w__4_c] 32 enc_gauge_spent w__5 [.map none]) 130 :: Lf) w) {res : gauge_Point} (hF : gauge_work_station_s2 N w_ w__1 w__2 w__3 w__4 w__5 i_ = some res) : Calls Try.prog 84 #[.pointer (some ⟨b_, 0, none⟩), .int .i64 i_] w (fun e w => e = .returned (.agg #[.int .i64 res.At, .int .i64 res.Depth, .int .i64 res.Cost]) ∧ Ctx G (.box b_ (catc [.int .i64 w_, .int .i64 w__1, .int .i64 w__2, .int .i64 w__3, .slice w__4_p w__4.length w__4_c] 32 enc_gauge_spent w__5 [.map none]) 130 :: Lf) w) := by
  unfold gauge_work_station_s2 at hF
  refine fnIn (args := [.pointer (some ⟨b_, 0, none⟩), .int .i64 i_]) Try.func84 rfl Try.ntmps84 rfl fun a hf => ?_
  refine wp_seq_k fun K1 h1 => ?_
  refine cReg ?_
  refine stAl (cs := [.int .i64 0, .int .i64 0, .int .i64 0]) hf hc rfl rfl zr_64 rfl fun b_1 a w hf hc => ?_
  refine cNil ?_
  refine h1 _ _ ?_
  refine wp_seq_k fun K2 h2 => ?_
  refine wp_seq_k fun K3 h3 => ?_
  refine cReg ?_
  refine stP hf rfl rfl rfl (pM rfl) fun a hf => ?_
  refine cNil ?_
  refine h3 _ _ ?_
  refine wp_block ?_
  refine wp_seq_k fun K4 h4 => ?_
  refine cReg ?_
  refine stP hf rfl rfl rfl (pEq rfl rfl) fun a hf => ?_
  refine stP hf rfl rfl rfl (pA rfl) fun a hf => ?_
  refine cNil ?_
  refine h4 _ _ ?_
  refine cCond (b := (i_ == 0)) hf rfl (fun hb => ?_) (fun hb => ?_)
  · replace hF := condT hb hF
    clear hb
    refine wp_seq_k fun K5 h5 => ?_
    refine cReg ?_
    refine stP hf rfl rfl rfl (pM rfl) fun a hf => ?_
    refine stP hf rfl rfl rfl (pNC rfl) fun a hf => ?_
    refine stP hf rfl rfl rfl (pFA fa_130_0 rfl) fun a hf => ?_
    refine stP hf rfl rfl rfl (pFA fa_55_0 rfl) fun a hf => ?_
    refine stE hf hc rfl rfl rfl (eLd1 sc_3 rfl (cell_box m1 rfl)) fun a w hf hc => ?_
    refine stP hf rfl rfl rfl (pBuildS (cells := [.int .i64 w_, .int .i64 0, .int .i64 0]) bt_64 rfl rfl) fun a hf => ?_
    refine stSt (vs := [.int .i64 w_, .int .i64 0, .int .i64 0]) hf hc rfl rfl rfl rfl sz_64 rfl rfl u0 fun w hc => ?_
    refine cNil ?_
    refine h5 _ _ ?_
    refine wp_ret ?_
    refine xBlkR ?_
    refine xThenR ?_
    obtain rfl := Option.some.inj hF
    replace hc := hc.pick k0
    replace hc := hc.pick k1
    exact fnOut1 (by simp) rfl Try.results84 hf hc (rv_cellN (vs := [.int .i64 w_, .int .i64 0, .int .i64 0]) ag_64 rfl rfl (cells_box (n := 3) m1 rfl)) ⟨rfl, (hc.drop k1)⟩
  · replace hF := condF hb hF
    clear hb
    refine wp_seq_k fun K6 h6 => ?_
    refine cReg ?_
    refine stP hf rfl rfl rfl (pM rfl) fun a hf => ?_
    refine stP hf rfl rfl rfl (pNC rfl) fun a hf => ?_
    refine stP hf rfl rfl rfl (pFA fa_130_0 rfl) fun a hf => ?_
    refine stP hf rfl rfl rfl (pFA fa_55_4 rfl) fun a hf => ?_
    refine stE hf hc rfl rfl rfl (eLd1 sc_53 rfl (cell_box m1 rfl)) fun a w hf hc => ?_
    refine stP hf rfl rfl rfl (pLenS Try.underlying53 rfl) fun a hf => ?_
    refine stP hf rfl rfl rfl (pAdd rfl rfl) fun a hf => ?_
    refine stP hf rfl rfl rfl (pEq rfl rfl) fun a hf => ?_
    refine stP hf rfl rfl rfl (pA rfl) fun a hf => ?_
    refine cNil ?_
    refine h6 _ _ ?_
    refine cCond (b := (i_ == (W (((w__4.length : Nat) : Int) + 1)))) hf rfl (fun hb => ?_) (fun hb => ?_)
    · replace hF := condT hb hF
      clear hb
      refine wp_seq_k fun K7 h7 => ?_
      refine cReg ?_
      refine stP hf rfl rfl rfl (pM rfl) fun a hf => ?_
      refine stP hf rfl rfl rfl (pNC rfl) fun a hf => ?_
      refine stP hf rfl rfl rfl (pFA fa_130_0 rfl) fun a hf => ?_
      refine stP hf rfl rfl rfl (pFA fa_55_1 rfl) fun a hf => ?_
      refine stE hf hc rfl rfl rfl (eLd1 sc_3 rfl (cell_box m1 rfl)) fun a w hf hc => ?_
      refine stP hf rfl rfl rfl (pBuildS (cells := [.int .i64 w__1, .int .i64 0, .int .i64 0]) bt_64 rfl rfl) fun a hf => ?_
      refine stSt (vs := [.int .i64 w__1, .int .i64 0, .int .i64 0]) hf hc rfl rfl rfl rfl sz_64 rfl rfl u0 fun w hc => ?_
      refine cNil ?_
      refine h7 _ _ ?_
      refine wp_ret ?_
      refine xBlkR ?_
      refine xThenR ?_
      obtain rfl := Option.some.inj hF
      replace hc := hc.pick k0
      replace hc := hc.pick k1
      exact fnOut1 (by simp) rfl Try.results84 hf hc (rv_cellN (vs := [.int .i64 w__1, .int .i64 0, .int .i64 0]) ag_64 rfl rfl (cells_box (n := 3) m1 rfl)) ⟨rfl, (hc.drop k1)⟩
    · replace hF := condF hb hF
      clear hb
      refine wp_skip ?_
      refine h2 _ _ ?_
      refine wp_seq_k fun K8 h8 => ?_
      refine cReg ?_
      refine stP hf rfl rfl rfl (pM rfl) fun a hf => ?_
      refine stP hf rfl rfl rfl (pNC rfl) fun a hf => ?_
      refine stP hf rfl rfl rfl (pFA fa_130_0 rfl) fun a hf => ?_
      refine stP hf rfl rfl rfl (pFA fa_55_4 rfl) fun a hf => ?_
      refine stE hf hc rfl rfl rfl (eLd1 sc_53 rfl (cell_box m1 rfl)) fun a w hf hc => ?_
      refine stP hf rfl rfl rfl (pM rfl) fun a hf => ?_
      refine stP hf rfl rfl rfl (pSub rfl rfl) fun a hf => ?_
      obtain ⟨e_1, he_1, hF⟩ := bnd_some hF
      obtain ⟨b_2, o, qa, qp⟩ := h_w__4.atm he_1
      refine stP hf rfl rfl rfl (pIA Try.underlying53 sz_64 rfl rfl qa) fun a hf => ?_
      refine stE hf hc rfl rfl rfl (eLdN (vs := [.int .i64 e_1.At, .int .i64 e_1.Depth, .int .i64 e_1.Cost]) ag_64 rfl rfl (cells_pc qp (n := 3) (o' := 0) rfl)) fun a w hf hc => ?_
      refine stSt (vs := [.int .i64 e_1.At, .int .i64 e_1.Depth, .int .i64 e_1.Cost]) hf hc rfl rfl rfl rfl sz_64 rfl rfl u0 fun w hc => ?_
      refine cNil ?_
      refine h8 _ _ ?_
      refine wp_ret ?_
      obtain rfl := Option.some.inj hF
      replace hc := hc.pick k0
      replace hc := hc.pick k1
      exact fnOut1 (by simp) rfl Try.results84 hf hc (rv_cellN (vs := [.int .i64 e_1.At, .int .i64 e_1.Depth, .int .i64 e_1.Cost]) ag_64 rfl rfl (cells_box (n := 3) m1 rfl)) ⟨rfl, (hc.drop k1)⟩

def gauge_work_steps_s2 (N : Nat) (w_ : Int) (w__1 : Int) (w__2 : Int) (w__3 : Int) (w__4 : List gauge_Point) (w__5 : Nat → gauge_spent) (a_ : Int) (b__1 : Int) : Option (Bool) :=
  Option.bind (gauge_work_station_s2 N w_ w__1 w__2 w__3 w__4 w__5 a_) fun r =>
  Option.bind (gauge_work_station_s2 N w_ w__1 w__2 w__3 w__4 w__5 b__1) fun r_1 =>
  some ((decide ((W (r_1.At - r.At)) ≤ w__2)) && (decide ((max (W (r.Depth - r_1.Depth)) (W (r_1.Depth - r.Depth))) ≤ w__3)))
theorem gauge_work_steps_s2_ok {N : Nat} {G : Pers} {Lf : List Ent} {w : World} (w_ : Int) (w__1 : Int) (w__2 : Int) (w__3 : Int) (w__4 : List gauge_Point) (w__5 : Nat → gauge_spent) (a_ : Int) (b__1 : Int) {b_ : Nat} {w__4_p : Option Addr} {w__4_c : Nat} (h_w__4 : Rd G 3 w__4_p w__4_c (w__4.map enc_gauge_Point)) (hc : Ctx G (.box b_ (catc [.int .i64 w_, .int .i64 w__1, .int .i64 w__2, .int .i64 w__3, .slice w__4_p w__4.length w__4_c] 32 enc_gauge_spent w__5 [.map none]) 130 :: Lf) w) {res : Bool} (hF : gauge_work_steps_s2 N w_ w__1 w__2 w__3 w__4 w__5 a_ b__1 = some res) : Calls Try.prog 82 #[.pointer (some ⟨b_, 0, none⟩), .int .i64 a_, .int .i64 b__1] w (fun e w => e = .returned (.bool res) ∧ Ctx G (.box b_ (catc [.int .i64 w_, .int .i64 w__1, .int .i64 w__2, .int .i64 w__3, .slice w__4_p w__4.length w__4_c] 32 enc_gauge_spent w__5 [.map none]) 130 :: Lf) w) := by
  unfold gauge_work_steps_s2 at hF
  refine fnIn (args := [.pointer (some ⟨b_, 0, none⟩), .int .i64 a_, .int .i64 b__1]) Try.func82 rfl Try.ntmps82 rfl fun a hf => ?_
  refine wp_seq_k fun K1 h1 => ?_
  refine cReg ?_
  refine stP hf rfl rfl rfl (pA rfl) fun a hf => ?_
  refine cNil ?_
  refine h1 _ _ ?_
  refine wp_seq_k fun K2 h2 => ?_
  refine cReg ?_
  refine stP hf rfl rfl rfl (pM rfl) fun a hf => ?_
  refine stP hf rfl rfl rfl (pM rfl) fun a hf => ?_
  obtain ⟨r, hr, hF⟩ := bnd_some hF
  refine stE hf hc rfl rfl rfl (eC (v := .agg #[.int .i64 r.At, .int .i64 r.Depth, .int .i64 r.Cost]) (vs := [.pointer (some ⟨b_, 0, none⟩), .int .i64 a_]) (caps := []) en_84 rfl rfl rfl rfl (fun w hc => (gauge_work_station_s2_ok w_ w__1 w__2 w__3 w__4 w__5 a_ h_w__4 (hc.pick k0) hr).mono fun e w h => ⟨h.1, (h.2.unpick k0)⟩)) fun a w hf hc => ?_
  refine stP hf rfl rfl rfl (pM rfl) fun a hf => ?_
  refine stP hf rfl rfl rfl (pM rfl) fun a hf => ?_
  obtain ⟨r_1, hr_1, hF⟩ := bnd_some hF
  refine stE hf hc rfl rfl rfl (eC (v := .agg #[.int .i64 r_1.At, .int .i64 r_1.Depth, .int .i64 r_1.Cost]) (vs := [.pointer (some ⟨b_, 0, none⟩), .int .i64 b__1]) (caps := []) en_84 rfl rfl rfl rfl (fun w hc => (gauge_work_station_s2_ok w_ w__1 w__2 w__3 w__4 w__5 b__1 h_w__4 (hc.pick k0) hr_1).mono fun e w h => ⟨h.1, (h.2.unpick k0)⟩)) fun a w hf hc => ?_
  refine stAl (cs := [.int .i64 0, .int .i64 0, .int .i64 0]) hf hc rfl rfl zr_64 rfl fun b_1 a w hf hc => ?_
  refine stAl (cs := [.int .i64 0, .int .i64 0, .int .i64 0]) hf hc rfl rfl zr_64 rfl fun b_2 a w hf hc => ?_
  refine stSt (vs := [.int .i64 r.At, .int .i64 r.Depth, .int .i64 r.Cost]) hf hc rfl rfl rfl rfl sz_64 rfl rfl u1 fun w hc => ?_
  refine stSt (vs := [.int .i64 r_1.At, .int .i64 r_1.Depth, .int .i64 r_1.Cost]) hf hc rfl rfl rfl rfl sz_64 rfl rfl u0 fun w hc => ?_
  refine cNil ?_
  refine h2 _ _ ?_
  refine wp_seq_k fun K3 h3 => ?_
  refine cQ hc follows_mx (by kernel_rfl) ?_
  refine qE hf rfl rfl rfl (Pu.ev (pFA fa_64_0 rfl)) fun a hf => ?_
  refine qE hf rfl rfl rfl (eLd1 sc_3 rfl (cell_box m0 rfl)) fun a hf => ?_
  refine qE hf rfl rfl rfl (Pu.ev (pFA fa_64_0 rfl)) fun a hf => ?_
  refine qE hf rfl rfl rfl (eLd1 sc_3 rfl (cell_box m1 rfl)) fun a hf => ?_
  refine qE hf rfl rfl rfl (Pu.ev (pSub rfl rfl)) fun a hf => ?_
  refine qE hf rfl rfl rfl (Pu.ev (pM rfl)) fun a hf => ?_
  refine qE hf rfl rfl rfl (Pu.ev (pNC rfl)) fun a hf => ?_
  refine qE hf rfl rfl rfl (Pu.ev (pFA fa_130_0 rfl)) fun a hf => ?_
  refine qE hf rfl rfl rfl (Pu.ev (pFA fa_55_2 rfl)) fun a hf => ?_
  refine qE hf rfl rfl rfl (eLd1 sc_3 rfl (cell_box m2 rfl)) fun a hf => ?_
  refine qE hf rfl rfl rfl (Pu.ev (pLe rfl rfl)) fun a hf => ?_
  refine qE hf rfl rfl rfl (Pu.ev (pM rfl)) fun a hf => ?_
  refine qCut 18 (fun a => Has 45 a [(0, .pointer (some ⟨b_, 0, none⟩)), (6, .bool false), (7, .pointer (some ⟨b_1, 0, none⟩)), (8, .pointer (some ⟨b_2, 0, none⟩)), (15, .pointer (some ⟨b_2, 0, none⟩)), (16, .int .i64 r_1.At), (17, .pointer (some ⟨b_1, 0, none⟩)), (18, .int .i64 r.At), (19, .int .i64 (W (r_1.At - r.At))), (20, .pointer (some ⟨b_, 0, none⟩)), (21, .pointer (some ⟨b_, 0, none⟩)), (22, .pointer (some ⟨b_, 0, none⟩)), (23, .pointer (some ⟨b_, 2, none⟩)), (24, .int .i64 w__2), (25, .bool (decide ((W (r_1.At - r.At)) ≤ w__2))), (26, .bool (decide ((W (r_1.At - r.At)) ≤ w__2))), (44, .bool ((decide ((W (r_1.At - r.At)) ≤ w__2)) && (decide ((max (W (r.Depth - r_1.Depth)) (W (r_1.Depth - r.Depth))) ≤ w__3))))]) ?_ ?_
  · cases hb : (decide ((W (r_1.At - r.At)) ≤ w__2))
    · rw [hb] at hf
      refine qS hf rfl rfl rfl fun a hf => ?_
      refine qS hf rfl rfl rfl fun a hf => ?_
      refine qS hf rfl rfl rfl fun a hf => ?_
      refine qS hf rfl rfl rfl fun a hf => ?_
      refine qS hf rfl rfl rfl fun a hf => ?_
      refine qS hf rfl rfl rfl fun a hf => ?_
      refine qS hf rfl rfl rfl fun a hf => ?_
      refine qS hf rfl rfl rfl fun a hf => ?_
      refine qS hf rfl rfl rfl fun a hf => ?_
      refine qS hf rfl rfl rfl fun a hf => ?_
      refine qS hf rfl rfl rfl fun a hf => ?_
      refine qS hf rfl rfl rfl fun a hf => ?_
      refine qS hf rfl rfl rfl fun a hf => ?_
      refine qS hf rfl rfl rfl fun a hf => ?_
      refine qS hf rfl rfl rfl fun a hf => ?_
      refine qS hf rfl rfl rfl fun a hf => ?_
      refine qS hf rfl rfl rfl fun a hf => ?_
      refine qE hf rfl rfl rfl (Pu.ev (pPf rfl rfl)) fun a hf => ?_
      exact qNil (hf.keep ⟨rfl, rfl, rfl, rfl, rfl, rfl, rfl, rfl, rfl, rfl, rfl, rfl, rfl, rfl, rfl, rfl, rfl, trivial⟩)
    · rw [hb] at hf
      refine qE hf rfl rfl rfl (Pu.ev (pFA fa_64_1 rfl)) fun a hf => ?_
      refine qE hf rfl rfl rfl (eLd1 sc_3 rfl (cell_box m1 rfl)) fun a hf => ?_
      refine qE hf rfl rfl rfl (Pu.ev (pFA fa_64_1 rfl)) fun a hf => ?_
      refine qE hf rfl rfl rfl (eLd1 sc_3 rfl (cell_box m0 rfl)) fun a hf => ?_
      refine qE hf rfl rfl rfl (Pu.ev (pSub rfl rfl)) fun a hf => ?_
      refine qE hf rfl rfl rfl (Pu.ev (pFA fa_64_1 rfl)) fun a hf => ?_
      refine qE hf rfl rfl rfl (eLd1 sc_3 rfl (cell_box m0 rfl)) fun a hf => ?_
      refine qE hf rfl rfl rfl (Pu.ev (pFA fa_64_1 rfl)) fun a hf => ?_
      refine qE hf rfl rfl rfl (eLd1 sc_3 rfl (cell_box m1 rfl)) fun a hf => ?_
      refine qE hf rfl rfl rfl (Pu.ev (pSub rfl rfl)) fun a hf => ?_
      refine qE hf rfl rfl rfl (Pu.ev (pMax2 rfl rfl)) fun a hf => ?_
      refine qE hf rfl rfl rfl (Pu.ev (pM rfl)) fun a hf => ?_
      refine qE hf rfl rfl rfl (Pu.ev (pNC rfl)) fun a hf => ?_
      refine qE hf rfl rfl rfl (Pu.ev (pFA fa_130_0 rfl)) fun a hf => ?_
      refine qE hf rfl rfl rfl (Pu.ev (pFA fa_55_3 rfl)) fun a hf => ?_
      refine qE hf rfl rfl rfl (eLd1 sc_3 rfl (cell_box m2 rfl)) fun a hf => ?_
      refine qE hf rfl rfl rfl (Pu.ev (pLe rfl rfl)) fun a hf => ?_
      refine qE hf rfl rfl rfl (Pu.ev (pPt rfl rfl)) fun a hf => ?_
      exact qNil (hf.keep ⟨rfl, rfl, rfl, rfl, rfl, rfl, rfl, rfl, rfl, rfl, rfl, rfl, rfl, rfl, rfl, rfl, rfl, trivial⟩)
  intro a hf
  refine qE hf rfl rfl rfl (Pu.ev (pA rfl)) fun a hf => ?_
  intro w hc
  refine h3 _ _ ?_
  refine wp_ret ?_
  obtain rfl := Option.some.inj hF
  replace hc := hc.drop k1
  replace hc := hc.drop k0
  exact fnOut1 (by simp) rfl Try.results82 hf hc (show look _ 6 = _ from rfl) ⟨rfl, hc⟩

def gauge_Proves_b22 (N : Nat) (s_ : gauge_Site) (tolls : List Int) (x : Int) (x_1 : Int) : Option (Step (Int) (Step (Int) (Bool × Int))) :=
  cond (decide (x_1 < x))
  (Option.bind (gauge_work_steps_s2 N s_.Left s_.Right s_.Gap s_.Step_ s_.Points (fun _ => (⟨0, 0⟩ : gauge_spent)) x_1 x) fun r_2 =>
  Option.bind (cond r_2 (Option.bind (getI tolls x) fun e_3 =>
  Option.bind (getI tolls x_1) fun e_4 =>
  Option.bind (gauge_work_station_s2 N s_.Left s_.Right s_.Gap s_.Step_ s_.Points (fun _ => (⟨0, 0⟩ : gauge_spent)) x) fun r_3 =>
  some (decide (r_3.Cost < (W (e_3 - e_4))))) (some false)) fun t_1 =>
  cond t_1
  (some (.ret (.ret (false, 0))))
  (some (.cont (W (x_1 + 1)))))
  (some (.brk x_1))
def gauge_Proves_b14 (N : Nat) (s_ : gauge_Site) (tolls : List Int) (x : Int) : Option (Step (Int) (Bool × Int)) :=
  cond (decide (x < (W ((W (((s_.Points.length : Nat) : Int) + 1)) + 1))))
  (Option.bind (loopO (fun s22 => gauge_Proves_b22 N s_ tolls x s22) N 0) fun x22 =>
  exK x22 (fun s22 => some (.cont (W (x + 1)))) some)
  (some (.brk x))
def gauge_Proves (N : Nat) (s_ : gauge_Site) (tolls : List Int) (cost : Int) : Option (Bool × Int) :=
  Option.bind (gauge_CheckSite N s_) fun r =>
  cond (r != 0)
  (some (false, r))
  (cond (((tolls.length : Nat) : Int) != (W ((W (((s_.Points.length : Nat) : Int) + 1)) + 1)))
  (some (false, 2))
  (Option.bind (gauge_every_int N tolls) fun r_1 =>
  cond ((!r_1) || (!(gauge_in cost 0 1000000000)))
  (some (false, 4))
  (Option.bind (loopO (fun s14 => gauge_Proves_b14 N s_ tolls s14) N 0) fun x14 =>
  exK x14 (fun s14 => Option.bind (getI tolls (W (((s_.Points.length : Nat) : Int) + 1))) fun e_1 =>
  Option.bind (getI tolls 0) fun e_2 =>
  some ((decide (cost ≤ (W (e_1 - e_2)))), 0)) some)))
theorem gauge_Proves_ok {N : Nat} {G : Pers} {Lf : List Ent} {w : World} (s_ : gauge_Site) (tolls : List Int) (cost : Int) {s__Points_p : Option Addr} {s__Points_c : Nat} {tolls_p : Option Addr} {tolls_c : Nat} (h_s__Points : Rd G 3 s__Points_p s__Points_c (s_.Points.map enc_gauge_Point)) (h_tolls : Rd G 1 tolls_p tolls_c (tolls.map encI_i64)) (hc : Ctx G (Lf) w) {res : Bool × Int} (hF : gauge_Proves N s_ tolls cost = some res) : Calls Try.prog 44 #[.agg #[.int .i64 s_.Left, .int .i64 s_.Right, .int .i64 s_.Gap, .int .i64 s_.Step_, .slice s__Points_p s_.Points.length s__Points_c], .slice tolls_p tolls.length tolls_c, .int .i64 cost] w (fun e w => e = .returned (.tuple #[.bool res.1, .int .i64 res.2]) ∧ Ctx G (Lf) w) := by
  unfold gauge_Proves at hF
  refine fnIn (args := [.agg #[.int .i64 s_.Left, .int .i64 s_.Right, .int .i64 s_.Gap, .int .i64 s_.Step_, .slice s__Points_p s_.Points.length s__Points_c], .slice tolls_p tolls.length tolls_c, .int .i64 cost]) Try.func44 rfl Try.ntmps44 rfl fun a hf => ?_
  refine wp_seq_k fun K1 h1 => ?_
  refine cReg ?_
  refine stBx (cs := [.int .i64 s_.Left, .int .i64 s_.Right, .int .i64 s_.Gap, .int .i64 s_.Step_, .slice s__Points_p s_.Points.length s__Points_c]) hf hc rfl rfl rfl rfl fun b_1 a w hf hc => ?_
  refine stP hf rfl rfl rfl (pA rfl) fun a hf => ?_
  refine stP hf rfl rfl rfl (pA rfl) fun a hf => ?_
  refine cNil ?_
  refine h1 _ _ ?_
  refine wp_seq_k fun K2 h2 => ?_
  refine cReg ?_
  refine stE hf hc rfl rfl rfl (eLdN (vs := [.int .i64 s_.Left, .int .i64 s_.Right, .int .i64 s_.Gap, .int .i64 s_.Step_, .slice s__Points_p s_.Points.length s__Points_c]) ag_55 rfl rfl (cells_box (n := 5) m0 rfl)) fun a w hf hc => ?_
  obtain ⟨r, hr, hF⟩ := bnd_some hF
  refine stE hf hc rfl rfl rfl (eC (v := .int .i64 r) (vs := [.agg #[.int .i64 s_.Left, .int .i64 s_.Right, .int .i64 s_.Gap, .int .i64 s_.Step_, .slice s__Points_p s_.Points.length s__Points_c]]) (caps := []) en_35 rfl rfl rfl rfl (fun w hc => gauge_CheckSite_ok s_ h_s__Points hc hr)) fun a w hf hc => ?_
  refine stP hf rfl rfl rfl (pA rfl) fun a hf => ?_
  refine cNil ?_
  refine h2 _ _ ?_
  refine wp_seq_k fun K3 h3 => ?_
  refine cReg ?_
  refine stP hf rfl rfl rfl (pFA fa_55_4 rfl) fun a hf => ?_
  refine stE hf hc rfl rfl rfl (eLd1 sc_53 rfl (cell_box m0 rfl)) fun a w hf hc => ?_
  refine stP hf rfl rfl rfl (pLenS Try.underlying53 rfl) fun a hf => ?_
  refine stP hf rfl rfl rfl (pAdd rfl rfl) fun a hf => ?_
  refine stP hf rfl rfl rfl (pA rfl) fun a hf => ?_
  refine cNil ?_
  refine h3 _ _ ?_
  refine wp_seq_k fun K4 h4 => ?_
  refine wp_block ?_
  refine wp_seq_k fun K5 h5 => ?_
  refine cReg ?_
  refine stP hf rfl rfl rfl (pM rfl) fun a hf => ?_
  refine stP hf rfl rfl rfl (pNe rfl rfl) fun a hf => ?_
  refine stP hf rfl rfl rfl (pA rfl) fun a hf => ?_
  refine cNil ?_
  refine h5 _ _ ?_
  refine cCond (b := (r != 0)) hf rfl (fun hb => ?_) (fun hb => ?_)
  · replace hF := condT hb hF
    clear hb
    refine wp_seq_k fun K6 h6 => ?_
    refine cReg ?_
    refine stP hf rfl rfl rfl (pM rfl) fun a hf => ?_
    refine stP hf rfl rfl rfl (pA rfl) fun a hf => ?_
    refine stP hf rfl rfl rfl (pA rfl) fun a hf => ?_
    refine cNil ?_
    refine h6 _ _ ?_
    refine wp_ret ?_
    refine xBlkR ?_
    refine xThenR ?_
    obtain rfl := Option.some.inj hF
    replace hc := hc.drop k0
    exact fnOut2 (by simp) rfl Try.results44 hf hc (show look _ 6 = _ from rfl) (show look _ 7 = _ from rfl) ⟨rfl, hc⟩
  · replace hF := condF hb hF
    clear hb
    refine wp_seq_k fun K7 h7 => ?_
    refine cReg ?_
    refine stP hf rfl rfl rfl (pM rfl) fun a hf => ?_
    refine stP hf rfl rfl rfl (pLenS Try.underlying43 rfl) fun a hf => ?_
    refine stP hf rfl rfl rfl (pM rfl) fun a hf => ?_
    refine stP hf rfl rfl rfl (pAdd rfl rfl) fun a hf => ?_
    refine stP hf rfl rfl rfl (pNe rfl rfl) fun a hf => ?_
    refine stP hf rfl rfl rfl (pA rfl) fun a hf => ?_
    refine cNil ?_
    refine h7 _ _ ?_
    refine cCond (b := (((tolls.length : Nat) : Int) != (W ((W (((s_.Points.length : Nat) : Int) + 1)) + 1)))) hf rfl (fun hb => ?_) (fun hb => ?_)
    · replace hF := condT hb hF
      clear hb
      refine wp_seq_k fun K8 h8 => ?_
      refine cReg ?_
      refine stP hf rfl rfl rfl (pA rfl) fun a hf => ?_
      refine stP hf rfl rfl rfl (pA rfl) fun a hf => ?_
      refine cNil ?_
      refine h8 _ _ ?_
      refine wp_ret ?_
      refine xBlkR ?_
      refine xThenR ?_
      obtain rfl := Option.some.inj hF
      replace hc := hc.drop k0
      exact fnOut2 (by simp) rfl Try.results44 hf hc (show look _ 6 = _ from rfl) (show look _ 7 = _ from rfl) ⟨rfl, hc⟩
    · replace hF := condF hb hF
      clear hb
      refine wp_seq_k fun K9 h9 => ?_
      refine cReg ?_
      refine stP hf rfl rfl rfl (pM rfl) fun a hf => ?_
      obtain ⟨r_1, hr_1, hF⟩ := bnd_some hF
      refine stE hf hc rfl rfl rfl (eC (v := .bool r_1) (vs := [.slice tolls_p tolls.length tolls_c, .func (.func 88) #[] #[]]) (caps := []) en_79 rfl rfl rfl rfl (fun w hc => gauge_every_int_ok tolls h_tolls hc hr_1)) fun a w hf hc => ?_
      refine stP hf rfl rfl rfl (pNot rfl) fun a hf => ?_
      refine stP hf rfl rfl rfl (pM rfl) fun a hf => ?_
      refine stCut 4 (fun a w => Has 82 a [(1, .slice tolls_p tolls.length tolls_c), (2, .int .i64 cost), (3, .pointer (some ⟨b_1, 0, none⟩)), (9, .int .i64 (W (((s_.Points.length : Nat) : Int) + 1))), (30, .slice tolls_p tolls.length tolls_c), (31, .bool r_1), (32, .bool (!r_1)), (33, .bool (!r_1)), (37, .bool ((!r_1) || (!(gauge_in cost 0 1000000000))))] ∧ Ctx G (.box b_1 [.int .i64 s_.Left, .int .i64 s_.Right, .int .i64 s_.Gap, .int .i64 s_.Step_, .slice s__Points_p s_.Points.length s__Points_c] 55 :: Lf) w) ?_ ?_
      · cases hb : (!r_1)
        · rw [hb] at hf
          refine stP hf rfl rfl rfl (pM rfl) fun a hf => ?_
          refine stE hf hc rfl rfl rfl (eC (v := .bool (gauge_in cost 0 1000000000)) (vs := [.int .i64 cost, .int .i64 0, .int .i64 1000000000]) (caps := []) en_55 rfl rfl rfl rfl (fun w hc => gauge_in_ok cost 0 1000000000 hc rfl)) fun a w hf hc => ?_
          refine stP hf rfl rfl rfl (pNot rfl) fun a hf => ?_
          refine stP hf rfl rfl rfl (pPf rfl rfl) fun a hf => ?_
          exact cNil ⟨hf.keep ⟨rfl, rfl, rfl, rfl, rfl, rfl, rfl, rfl, rfl, trivial⟩, hc⟩
        · rw [hb] at hf
          refine stS hf rfl rfl rfl fun a hf => ?_
          refine stS hf rfl rfl rfl fun a hf => ?_
          refine stS hf rfl rfl rfl fun a hf => ?_
          refine stP hf rfl rfl rfl (pPt rfl rfl) fun a hf => ?_
          exact cNil ⟨hf.keep ⟨rfl, rfl, rfl, rfl, rfl, rfl, rfl, rfl, rfl, trivial⟩, hc⟩
      intro a w ⟨hf, hc⟩
      refine stP hf rfl rfl rfl (pA rfl) fun a hf => ?_
      refine cNil ?_
      refine h9 _ _ ?_
      refine cCond (b := ((!r_1) || (!(gauge_in cost 0 1000000000)))) hf rfl (fun hb => ?_) (fun hb => ?_)
      · replace hF := condT hb hF
        clear hb
        refine wp_seq_k fun K10 h10 => ?_
        refine cReg ?_
        refine stP hf rfl rfl rfl (pA rfl) fun a hf => ?_
        refine stP hf rfl rfl rfl (pA rfl) fun a hf => ?_
        refine cNil ?_
        refine h10 _ _ ?_
        refine wp_ret ?_
        refine xBlkR ?_
        refine xThenR ?_
        obtain rfl := Option.some.inj hF
        replace hc := hc.drop k0
        exact fnOut2 (by simp) rfl Try.results44 hf hc (show look _ 6 = _ from rfl) (show look _ 7 = _ from rfl) ⟨rfl, hc⟩
      · replace hF := condF hb hF
        clear hb
        refine wp_skip ?_
        refine h4 _ _ ?_
        refine wp_seq_k fun K11 h11 => ?_
        refine cReg ?_
        refine stE hf hc rfl rfl rfl (eLdN (vs := [.int .i64 s_.Left, .int .i64 s_.Right, .int .i64 s_.Gap, .int .i64 s_.Step_, .slice s__Points_p s_.Points.length s__Points_c]) ag_55 rfl rfl (cells_box (n := 5) m0 rfl)) fun a w hf hc => ?_
        refine stP hf rfl rfl rfl (pBuildS (cells := (catc [.int .i64 s_.Left, .int .i64 s_.Right, .int .i64 s_.Gap, .int .i64 s_.Step_, .slice s__Points_p s_.Points.length s__Points_c] 32 enc_gauge_spent (fun _ => (⟨0, 0⟩ : gauge_spent)) [.map none])) bt_130 rfl rfl) fun a hf => ?_
        refine stBx (cs := (catc [.int .i64 s_.Left, .int .i64 s_.Right, .int .i64 s_.Gap, .int .i64 s_.Step_, .slice s__Points_p s_.Points.length s__Points_c] 32 enc_gauge_spent (fun _ => (⟨0, 0⟩ : gauge_spent)) [.map none])) hf hc rfl rfl rfl rfl fun b_2 a w hf hc => ?_
        refine stP hf rfl rfl rfl (pA rfl) fun a hf => ?_
        refine cNil ?_
        refine h11 _ _ ?_
        refine wp_seq_k fun K12 h12 => ?_
        refine wp_seq_k fun K13 h13 => ?_
        refine cReg ?_
        refine stP hf rfl rfl rfl (pM rfl) fun a hf => ?_
        refine stP hf rfl rfl rfl (pAdd rfl rfl) fun a hf => ?_
        refine stP hf rfl rfl rfl (pM rfl) fun a hf => ?_
        refine cNil ?_
        refine h13 _ _ ?_
        refine wp_block ?_
        obtain ⟨x14, hx14, hF⟩ := bnd_some hF
        let S14 : Int → Act → World → Prop := (fun (zz : Int) a w => Has 82 a [(1, .slice tolls_p tolls.length tolls_c), (2, .int .i64 cost), (9, .int .i64 (W (((s_.Points.length : Nat) : Int) + 1))), (10, .pointer (some ⟨b_2, 0, none⟩)), (42, .int .i64 (W ((W (((s_.Points.length : Nat) : Int) + 1)) + 1))), (43, .int .i64 zz)] ∧ Ctx G (.box b_2 (catc [.int .i64 s_.Left, .int .i64 s_.Right, .int .i64 s_.Gap, .int .i64 s_.Step_, .slice s__Points_p s_.Points.length s__Points_c] 32 enc_gauge_spent (fun _ => (⟨0, 0⟩ : gauge_spent)) [.map none]) 130 :: Lf) w)
        have hr14 : ∀ (zz : Int) a w, x14 = .go zz → S14 zz a w → K12 a w := by
          rintro x a w rfl ⟨hf, hc⟩
          replace hF : _ = some res := hF
          refine h12 _ _ ?_
          refine wp_seq_k fun K15 h15 => ?_
          obtain ⟨e_1, he_1, hF⟩ := bnd_some hF
          obtain ⟨b_3, o, qa, qp⟩ := h_tolls.atm he_1
          obtain ⟨e_2, he_2, hF⟩ := bnd_some hF
          obtain ⟨b_4, o_1, qa_1, qp_1⟩ := h_tolls.atm he_2
          refine cQ hc follows_mx (by kernel_rfl) ?_
          refine qE hf rfl rfl rfl (Pu.ev (pM rfl)) fun a hf => ?_
          refine qE hf rfl rfl rfl (Pu.ev (pM rfl)) fun a hf => ?_
          refine qE hf rfl rfl rfl (Pu.ev (pIA Try.underlying43 sz_3 rfl rfl qa)) fun a hf => ?_
          refine qE hf rfl rfl rfl (eLd1 sc_3 rfl (cell_pc (j := 0) qp rfl)) fun a hf => ?_
          refine qE hf rfl rfl rfl (Pu.ev (pM rfl)) fun a hf => ?_
          refine qE hf rfl rfl rfl (Pu.ev (pIA Try.underlying43 sz_3 rfl rfl qa_1)) fun a hf => ?_
          refine qE hf rfl rfl rfl (eLd1 sc_3 rfl (cell_pc (j := 0) qp_1 rfl)) fun a hf => ?_
          refine qE hf rfl rfl rfl (Pu.ev (pSub rfl rfl)) fun a hf => ?_
          refine qE hf rfl rfl rfl (Pu.ev (pM rfl)) fun a hf => ?_
          refine qE hf rfl rfl rfl (Pu.ev (pGe rfl rfl)) fun a hf => ?_
          refine qE hf rfl rfl rfl (Pu.ev (pA rfl)) fun a hf => ?_
          refine qE hf rfl rfl rfl (Pu.ev (pA rfl)) fun a hf => ?_
          intro w hc
          refine h15 _ _ ?_
          refine wp_ret ?_
          obtain rfl := Option.some.inj hF
          replace hc := hc.drop k0
          exact fnOut2 (by simp) rfl Try.results44 hf hc (show look _ 6 = _ from rfl) (show look _ 7 = _ from rfl) ⟨rfl, hc⟩
        have ho14 : ∀ r, x14 = .out r → r = res := by
          rintro r rfl
          exact Option.some.inj hF
        replace hc := hc.drop k1
        refine cLoop N (loopW (S := S14) (x := x14) ?_ N 0 _ _ ⟨hf.keep ⟨rfl, rfl, rfl, rfl, rfl, rfl, trivial⟩, hc⟩ hx14)
        clear hF hf hc
        rintro x st14 a w KB14 ⟨hf, hc⟩ hF hfin14 hK14
        unfold gauge_Proves_b14 at hF
        refine wp_seq_k fun K16 h16 => ?_
        refine cReg ?_
        refine stP hf rfl rfl rfl (pLt rfl rfl) fun a hf => ?_
        refine cNil ?_
        refine h16 _ _ ?_
        refine wp_seq_k fun K17 h17 => ?_
        refine cCond (b := (decide (x < (W ((W (((s_.Points.length : Nat) : Int) + 1)) + 1))))) hf rfl (fun hb => ?_) (fun hb => ?_)
        · replace hF := condT hb hF
          clear hb
          refine wp_skip ?_
          refine h17 _ _ ?_
          refine wp_seq_k fun K18 h18 => ?_
          refine wp_block ?_
          refine wp_seq_k fun K19 h19 => ?_
          refine cReg ?_
          refine stP hf rfl rfl rfl (pM rfl) fun a hf => ?_
          refine stP hf rfl rfl rfl (pA rfl) fun a hf => ?_
          refine cNil ?_
          refine h19 _ _ ?_
          refine wp_seq_k fun K20 h20 => ?_
          refine cReg ?_
          refine stP hf rfl rfl rfl (pM rfl) fun a hf => ?_
          refine stP hf rfl rfl rfl (pM rfl) fun a hf => ?_
          refine cNil ?_
          refine h20 _ _ ?_
          refine wp_thenK fun K21 h21 => ?_
          refine wp_block ?_
          obtain ⟨x22, hx22, hF⟩ := bnd_some hF
          let S22 : Int → Act → World → Prop := (fun (zz : Int) a w => Has 82 a [(1, .slice tolls_p tolls.length tolls_c), (2, .int .i64 cost), (9, .int .i64 (W (((s_.Points.length : Nat) : Int) + 1))), (10, .pointer (some ⟨b_2, 0, none⟩)), (11, .int .i64 x), (42, .int .i64 (W ((W (((s_.Points.length : Nat) : Int) + 1)) + 1))), (43, .int .i64 x), (46, .int .i64 x), (47, .int .i64 zz)] ∧ Ctx G (.box b_2 (catc [.int .i64 s_.Left, .int .i64 s_.Right, .int .i64 s_.Gap, .int .i64 s_.Step_, .slice s__Points_p s_.Points.length s__Points_c] 32 enc_gauge_spent (fun _ => (⟨0, 0⟩ : gauge_spent)) [.map none]) 130 :: Lf) w)
          have hr22 : ∀ (zz : Int) a w, x22 = .go zz → S22 zz a w → K21 a w := by
            rintro x_1 a w rfl ⟨hf, hc⟩
            replace hF : _ = some st14 := hF
            refine h21 _ _ ?_
            refine h18 _ _ ?_
            refine cReg ?_
            refine stP hf rfl rfl rfl (pAdd rfl rfl) fun a hf => ?_
            refine stP hf rfl rfl rfl (pM rfl) fun a hf => ?_
            refine cNil ?_
            exact hK14 (W (x + 1)) _ _ (Option.some.inj hF).symm ⟨hf.keep ⟨rfl, rfl, rfl, rfl, rfl, rfl, trivial⟩, hc⟩
          have ho22 : ∀ r, x22 = .out r → r = st14 := by
            rintro r rfl
            exact Option.some.inj hF
          refine cLoop N (loopW (S := S22) (x := x22) ?_ N 0 _ _ ⟨hf.keep ⟨rfl, rfl, rfl, rfl, rfl, rfl, rfl, rfl, rfl, trivial⟩, hc⟩ hx22)
          clear hF hf hc
          rintro x_1 st22 a w KB22 ⟨hf, hc⟩ hF hfin22 hK22
          unfold gauge_Proves_b22 at hF
          refine wp_seq_k fun K23 h23 => ?_
          refine cReg ?_
          refine stP hf rfl rfl rfl (pLt rfl rfl) fun a hf => ?_
          refine cNil ?_
          refine h23 _ _ ?_
          refine wp_seq_k fun K24 h24 => ?_
          refine cCond (b := (decide (x_1 < x))) hf rfl (fun hb => ?_) (fun hb => ?_)
          · replace hF := condT hb hF
            clear hb
            refine wp_skip ?_
            refine h24 _ _ ?_
            refine wp_seq_k fun K25 h25 => ?_
            refine wp_block ?_
            refine wp_seq_k fun K26 h26 => ?_
            refine cReg ?_
            refine stP hf rfl rfl rfl (pM rfl) fun a hf => ?_
            refine stP hf rfl rfl rfl (pA rfl) fun a hf => ?_
            refine cNil ?_
            refine h26 _ _ ?_
            refine wp_seq_k fun K27 h27 => ?_
            obtain ⟨r_2, hr_2, hF⟩ := bnd_some hF
            obtain ⟨t_1, ht_1, hF⟩ := bnd_some hF
            refine cQ hc follows_mx (by kernel_rfl) ?_
            refine qE hf rfl rfl rfl (Pu.ev (pM rfl)) fun a hf => ?_
            refine qE hf rfl rfl rfl (Pu.ev (pM rfl)) fun a hf => ?_
            refine qE hf rfl rfl rfl (Pu.ev (pM rfl)) fun a hf => ?_
            refine qE hf rfl rfl rfl (eC (v := .bool r_2) (vs := [.pointer (some ⟨b_2, 0, none⟩), .int .i64 x_1, .int .i64 x]) (caps := []) en_82 rfl rfl rfl rfl (fun w hc => (gauge_work_steps_s2_ok s_.Left s_.Right s_.Gap s_.Step_ s_.Points (fun _ => (⟨0, 0⟩ : gauge_spent)) x_1 x h_s__Points (hc.pick k0) hr_2).mono fun e w h => ⟨h.1, (h.2.unpick k0)⟩)) fun a hf => ?_
            refine qE hf rfl rfl rfl (Pu.ev (pM rfl)) fun a hf => ?_
            refine qCut 15 (fun a => Has 82 a [(1, .slice tolls_p tolls.length tolls_c), (2, .int .i64 cost), (9, .int .i64 (W (((s_.Points.length : Nat) : Int) + 1))), (10, .pointer (some ⟨b_2, 0, none⟩)), (11, .int .i64 x), (42, .int .i64 (W ((W (((s_.Points.length : Nat) : Int) + 1)) + 1))), (43, .int .i64 x), (46, .int .i64 x), (47, .int .i64 x_1), (12, .int .i64 x_1), (50, .pointer (some ⟨b_2, 0, none⟩)), (51, .int .i64 x_1), (52, .int .i64 x), (53, .bool r_2), (54, .bool r_2), (69, .bool t_1)]) ?_ ?_
            · cases hb : r_2
              · rw [hb] at hf
                have hF := condF hb ht_1
                obtain rfl := Option.some.inj hF
                refine qS hf rfl rfl rfl fun a hf => ?_
                refine qS hf rfl rfl rfl fun a hf => ?_
                refine qS hf rfl rfl rfl fun a hf => ?_
                refine qS hf rfl rfl rfl fun a hf => ?_
                refine qS hf rfl rfl rfl fun a hf => ?_
                refine qS hf rfl rfl rfl fun a hf => ?_
                refine qS hf rfl rfl rfl fun a hf => ?_
                refine qS hf rfl rfl rfl fun a hf => ?_
                refine qS hf rfl rfl rfl fun a hf => ?_
                refine qS hf rfl rfl rfl fun a hf => ?_
                refine qS hf rfl rfl rfl fun a hf => ?_
                refine qS hf rfl rfl rfl fun a hf => ?_
                refine qS hf rfl rfl rfl fun a hf => ?_
                refine qS hf rfl rfl rfl fun a hf => ?_
                refine qE hf rfl rfl rfl (Pu.ev (pPf rfl rfl)) fun a hf => ?_
                exact qNil (hf.keep ⟨rfl, rfl, rfl, rfl, rfl, rfl, rfl, rfl, rfl, rfl, rfl, rfl, rfl, rfl, rfl, rfl, trivial⟩)
              · rw [hb] at hf
                have hF := condT hb ht_1
                obtain ⟨e_3, he_3, hF⟩ := bnd_some hF
                obtain ⟨b_5, o_2, qa_2, qp_2⟩ := h_tolls.atm he_3
                obtain ⟨e_4, he_4, hF⟩ := bnd_some hF
                obtain ⟨b_6, o_3, qa_3, qp_3⟩ := h_tolls.atm he_4
                obtain ⟨r_3, hr_3, hF⟩ := bnd_some hF
                refine qE hf rfl rfl rfl (Pu.ev (pM rfl)) fun a hf => ?_
                refine qE hf rfl rfl rfl (Pu.ev (pM rfl)) fun a hf => ?_
                refine qE hf rfl rfl rfl (Pu.ev (pIA Try.underlying43 sz_3 rfl rfl qa_2)) fun a hf => ?_
                refine qE hf rfl rfl rfl (eLd1 sc_3 rfl (cell_pc (j := 0) qp_2 rfl)) fun a hf => ?_
                refine qE hf rfl rfl rfl (Pu.ev (pM rfl)) fun a hf => ?_
                refine qE hf rfl rfl rfl (Pu.ev (pM rfl)) fun a hf => ?_
                refine qE hf rfl rfl rfl (Pu.ev (pIA Try.underlying43 sz_3 rfl rfl qa_3)) fun a hf => ?_
                refine qE hf rfl rfl rfl (eLd1 sc_3 rfl (cell_pc (j := 0) qp_3 rfl)) fun a hf => ?_
                refine qE hf rfl rfl rfl (Pu.ev (pSub rfl rfl)) fun a hf => ?_
                refine qE hf rfl rfl rfl (Pu.ev (pM rfl)) fun a hf => ?_
                refine qE hf rfl rfl rfl (Pu.ev (pM rfl)) fun a hf => ?_
                refine qE hf rfl rfl rfl (eC (v := .agg #[.int .i64 r_3.At, .int .i64 r_3.Depth, .int .i64 r_3.Cost]) (vs := [.pointer (some ⟨b_2, 0, none⟩), .int .i64 x]) (caps := []) en_84 rfl rfl rfl rfl (fun w hc => (gauge_work_station_s2_ok s_.Left s_.Right s_.Gap s_.Step_ s_.Points (fun _ => (⟨0, 0⟩ : gauge_spent)) x h_s__Points (hc.pick k0) hr_3).mono fun e w h => ⟨h.1, (h.2.unpick k0)⟩)) fun a hf => ?_
                refine qE hf rfl rfl rfl (Pu.ev (pField1 Try.underlying64 rfl sc_3 rfl rfl)) fun a hf => ?_
                refine qE hf rfl rfl rfl (Pu.ev (pGt rfl rfl)) fun a hf => ?_
                refine qE hf rfl rfl rfl (Pu.ev (pPt rfl rfl)) fun a hf => ?_
                obtain rfl := Option.some.inj hF
                exact qNil (hf.keep ⟨rfl, rfl, rfl, rfl, rfl, rfl, rfl, rfl, rfl, rfl, rfl, rfl, rfl, rfl, rfl, rfl, trivial⟩)
            intro a hf
            intro w hc
            refine h27 _ _ ?_
            refine cCond (b := t_1) hf rfl (fun hb => ?_) (fun hb => ?_)
            · replace hF := condT hb hF
              clear hb
              refine wp_seq_k fun K28 h28 => ?_
              refine cReg ?_
              refine stP hf rfl rfl rfl (pA rfl) fun a hf => ?_
              refine stP hf rfl rfl rfl (pA rfl) fun a hf => ?_
              refine cNil ?_
              refine h28 _ _ ?_
              refine wp_ret ?_
              refine xBlkR ?_
              refine xThenR ?_
              refine xThenR ?_
              have he := Option.some.inj hF
              rw [← he] at hfin22
              replace hF := ho22 _ hfin22
              refine xBlkR ?_
              refine xThenR ?_
              refine xBlkR ?_
              refine xThenR ?_
              refine xThenR ?_
              have he := hF
              rw [← he] at hfin14
              replace hF := ho14 _ hfin14
              refine xBlkR ?_
              refine xThenR ?_
              obtain rfl := hF
              replace hc := hc.drop k0
              exact fnOut2 (by simp) rfl Try.results44 hf hc (show look _ 6 = _ from rfl) (show look _ 7 = _ from rfl) ⟨rfl, hc⟩
            · replace hF := condF hb hF
              clear hb
              refine wp_skip ?_
              refine h25 _ _ ?_
              refine cReg ?_
              refine stP hf rfl rfl rfl (pAdd rfl rfl) fun a hf => ?_
              refine stP hf rfl rfl rfl (pM rfl) fun a hf => ?_
              refine cNil ?_
              exact hK22 (W (x_1 + 1)) _ _ (Option.some.inj hF).symm ⟨hf.keep ⟨rfl, rfl, rfl, rfl, rfl, rfl, rfl, rfl, rfl, trivial⟩, hc⟩
          · replace hF := condF hb hF
            clear hb
            refine wp_exit ?_
            refine xThen ?_
            refine xThen ?_
            have he := Option.some.inj hF
            rw [← he] at hfin22
            refine cHit ?_
            exact hr22 _ _ _ hfin22 ⟨hf.keep ⟨rfl, rfl, rfl, rfl, rfl, rfl, rfl, rfl, rfl, trivial⟩, hc⟩
        · replace hF := condF hb hF
          clear hb
          refine wp_exit ?_
          refine xThen ?_
          refine xThen ?_
          have he := Option.some.inj hF
          rw [← he] at hfin14
          refine cHit ?_
          exact hr14 _ _ _ hfin14 ⟨hf.keep ⟨rfl, rfl, rfl, rfl, rfl, rfl, trivial⟩, hc⟩

def law03_awake (N : Nat)  : Option (Bool) :=
  Option.bind (law03_Two N) fun r =>
  Option.bind (gauge_Flow N r) fun r_1 =>
  Option.bind (law03_Two N) fun r_2 =>
  Option.bind (gauge_Heavy N r_2 500) fun r_3 =>
  Option.bind (law03_span N 10 10) fun r_4 =>
  Option.bind (law03_span N 100 100) fun r_5 =>
  Option.bind (law03_span N 30 40) fun r_6 =>
  Option.bind (law03_span N 5 9) fun r_7 =>
  Option.bind (gauge_Cross N ([(⟨(⟨0, 0⟩ : api_Span), r_4, r_5, r_6, r_7⟩ : gauge_Leg)] : List gauge_Leg)) fun r_8 =>
  Option.bind (law03_span N 5 5) fun r_9 =>
  Option.bind (law03_span N 1000 1000) fun r_10 =>
  Option.bind (law03_span N 10 11) fun r_11 =>
  Option.bind (law03_span N 0 1) fun r_12 =>
  Option.bind (gauge_Thinned N (⟨r_9, r_10, r_11, r_12⟩ : gauge_Dye)) fun r_13 =>
  Option.bind (cond (!((((r_1.2 != 0) || (r_3.2.2 != 0)) || (r_8.2 != 0)) || (r_13.2 != 0))) (law03_span N 51600 402000) (some (⟨0, 0⟩ : api_Span))) fun r_14 =>
  Option.bind (cond (!(((((r_1.2 != 0) || (r_3.2.2 != 0)) || (r_8.2 != 0)) || (r_13.2 != 0)) || (!(r_1.1.Lo == r_14.Lo && r_1.1.Hi == r_14.Hi)))) (kit_Same_int N r_3.1 ([0, 1] : List Int)) (some false)) fun r_15 =>
  Option.bind (cond (!(((((((r_1.2 != 0) || (r_3.2.2 != 0)) || (r_8.2 != 0)) || (r_13.2 != 0)) || (!(r_1.1.Lo == r_14.Lo && r_1.1.Hi == r_14.Hi))) || (!r_15)) || (((r_3.2.1.length : Nat) : Int) != 0))) (law03_span N 30000 40000) (some (⟨0, 0⟩ : api_Span))) fun r_16 =>
  Option.bind (cond (!((((((((r_1.2 != 0) || (r_3.2.2 != 0)) || (r_8.2 != 0)) || (r_13.2 != 0)) || (!(r_1.1.Lo == r_14.Lo && r_1.1.Hi == r_14.Hi))) || (!r_15)) || (((r_3.2.1.length : Nat) : Int) != 0)) || (!(r_8.1.Lo == r_16.Lo && r_8.1.Hi == r_16.Hi)))) (law03_span N 449 550) (some (⟨0, 0⟩ : api_Span))) fun r_17 =>
  cond (((((((((r_1.2 != 0) || (r_3.2.2 != 0)) || (r_8.2 != 0)) || (r_13.2 != 0)) || (!(r_1.1.Lo == r_14.Lo && r_1.1.Hi == r_14.Hi))) || (!r_15)) || (((r_3.2.1.length : Nat) : Int) != 0)) || (!(r_8.1.Lo == r_16.Lo && r_8.1.Hi == r_16.Hi))) || (!(r_13.1.Lo == r_17.Lo && r_13.1.Hi == r_17.Hi)))
  (some false)
  (Option.bind (gauge_Apart N ([(⟨5, 9⟩ : api_Span), (⟨7, 12⟩ : api_Span), (⟨10, 11⟩ : api_Span)] : List api_Span)) fun r_18 =>
  Option.bind (subO ([(⟨5, 9⟩ : api_Span), (⟨7, 12⟩ : api_Span), (⟨10, 11⟩ : api_Span)] : List api_Span) 0 2) fun sub =>
  Option.bind (gauge_Common N sub) fun r_19 =>
  Option.bind (law03_Three N) fun r_20 =>
  Option.bind (gauge_Plan N r_20) fun r_21 =>
  Option.bind (law03_Three N) fun r_22 =>
  Option.bind (gauge_Proves N r_22 ([0, 2, 3, 6, 6] : List Int) 6) fun r_23 =>
  Option.bind (cond ((((((r_18.2.2 == 0) && (r_19.2 == 0)) && (r_21.2.2 == 0)) && (r_23.2 == 0)) && (r_18.1 == 0)) && (r_18.2.1 == 2)) (law03_span N 7 9) (some (⟨0, 0⟩ : api_Span))) fun r_24 =>
  Option.bind (cond (((((((r_18.2.2 == 0) && (r_19.2 == 0)) && (r_21.2.2 == 0)) && (r_23.2 == 0)) && (r_18.1 == 0)) && (r_18.2.1 == 2)) && (r_19.1.Lo == r_24.Lo && r_19.1.Hi == r_24.Hi)) (kit_Same_int N r_21.1 ([1, 3] : List Int)) (some false)) fun r_25 =>
  some ((((((((((r_18.2.2 == 0) && (r_19.2 == 0)) && (r_21.2.2 == 0)) && (r_23.2 == 0)) && (r_18.1 == 0)) && (r_18.2.1 == 2)) && (r_19.1.Lo == r_24.Lo && r_19.1.Hi == r_24.Hi)) && r_25) && (r_21.2.1 == 6)) && r_23.1))
theorem law03_awake_ok {N : Nat} {G : Pers} {Lf : List Ent} {w : World}    (hc : Ctx G (Lf) w) {res : Bool} (hF : law03_awake N = some res) : Calls Try.prog 15 #[] w (fun e w => e = .returned (.bool res) ∧ Ctx G (Lf) w) := by
  unfold law03_awake at hF
  refine fnIn (args := []) Try.func15 rfl Try.ntmps15 rfl fun a hf => ?_
  refine wp_seq_k fun K1 h1 => ?_
  refine cReg ?_
  refine stP hf rfl rfl rfl (pA rfl) fun a hf => ?_
  refine cNil ?_
  refine h1 _ _ ?_
  refine wp_seq_k fun K2 h2 => ?_
  refine cReg ?_
  obtain ⟨r, hr, hF⟩ := bnd_some hF
  refine stC (vs := []) (caps := []) hf rfl rfl rfl en_53 rfl rfl rfl rfl (law03_Two_ok hc hr) ?_
  rintro _ w ⟨p_1, c_1, rfl, hc⟩
  refine ⟨_, rfl, fun a hf => ?_⟩
  obtain ⟨r_1, hr_1, hF⟩ := bnd_some hF
  refine stE hf hc rfl rfl rfl (eC (v := .tuple #[.agg #[.int .i64 r_1.1.Lo, .int .i64 r_1.1.Hi], .int .i64 r_1.2]) (vs := [.agg #[.int .i64 r.Left, .int .i64 r.Right, .slice p_1 r.Verticals.length c_1]]) (caps := []) en_27 rfl rfl rfl rfl (fun w hc => by obtain ⟨G1, hle1, hrd1, hc, hth1⟩ := lend hc k0; exact (gauge_Flow_ok r hrd1 hc hr_1).mono fun e w h => ⟨h.1, ((hth1 _ _ h.2).unpick k0)⟩)) fun a w hf hc => ?_
  refine stP hf rfl rfl rfl (pM rfl) fun a hf => ?_
  refine stP hf rfl rfl rfl (pX rfl rfl) fun a hf => ?_
  refine stP hf rfl rfl rfl (pX rfl rfl) fun a hf => ?_
  refine stAl (cs := [.int .i64 0, .int .i64 0]) hf hc rfl rfl zr_24 rfl fun b_1 a w hf hc => ?_
  refine stSt (vs := [.int .i64 r_1.1.Lo, .int .i64 r_1.1.Hi]) hf hc rfl rfl rfl rfl sz_24 rfl rfl u0 fun w hc => ?_
  refine stP hf rfl rfl rfl (pA rfl) fun a hf => ?_
  refine cNil ?_
  refine h2 _ _ ?_
  refine wp_seq_k fun K3 h3 => ?_
  refine cReg ?_
  obtain ⟨r_2, hr_2, hF⟩ := bnd_some hF
  refine stC (vs := []) (caps := []) hf rfl rfl rfl en_53 rfl rfl rfl rfl (law03_Two_ok hc hr_2) ?_
  rintro _ w ⟨p_2, c_2, rfl, hc⟩
  refine ⟨_, rfl, fun a hf => ?_⟩
  obtain ⟨r_3, hr_3, hF⟩ := bnd_some hF
  obtain ⟨G1, hle1, hrd1, hc, hth1⟩ := lend hc k0
  refine stC (vs := [.agg #[.int .i64 r_2.Left, .int .i64 r_2.Right, .slice p_2 r_2.Verticals.length c_2], .int .i64 500]) (caps := []) hf rfl rfl rfl en_28 rfl rfl rfl rfl (gauge_Heavy_ok r_2 500 hrd1 hc hr_3) ?_
  rintro _ w ⟨p_3, c_3, p_4, c_4, rfl, hc⟩
  refine ⟨_, rfl, fun a hf => ?_⟩
  replace hc := hth1 _ _ hc
  refine stP hf rfl rfl rfl (pM rfl) fun a hf => ?_
  refine stP hf rfl rfl rfl (pX rfl rfl) fun a hf => ?_
  refine stP hf rfl rfl rfl (pX rfl rfl) fun a hf => ?_
  refine stP hf rfl rfl rfl (pX rfl rfl) fun a hf => ?_
  refine stP hf rfl rfl rfl (pA rfl) fun a hf => ?_
  refine stP hf rfl rfl rfl (pA rfl) fun a hf => ?_
  refine stP hf rfl rfl rfl (pA rfl) fun a hf => ?_
  refine cNil ?_
  refine h3 _ _ ?_
  refine wp_seq_k fun K4 h4 => ?_
  refine cReg ?_
  obtain ⟨r_4, hr_4, hF⟩ := bnd_some hF
  refine stE hf hc rfl rfl rfl (eC (v := .agg #[.int .i64 r_4.Lo, .int .i64 r_4.Hi]) (vs := [.int .i64 10, .int .i64 10]) (caps := []) en_14 rfl rfl rfl rfl (fun w hc => law03_span_ok 10 10 hc hr_4)) fun a w hf hc => ?_
  obtain ⟨r_5, hr_5, hF⟩ := bnd_some hF
  refine stE hf hc rfl rfl rfl (eC (v := .agg #[.int .i64 r_5.Lo, .int .i64 r_5.Hi]) (vs := [.int .i64 100, .int .i64 100]) (caps := []) en_14 rfl rfl rfl rfl (fun w hc => law03_span_ok 100 100 hc hr_5)) fun a w hf hc => ?_
  obtain ⟨r_6, hr_6, hF⟩ := bnd_some hF
  refine stE hf hc rfl rfl rfl (eC (v := .agg #[.int .i64 r_6.Lo, .int .i64 r_6.Hi]) (vs := [.int .i64 30, .int .i64 40]) (caps := []) en_14 rfl rfl rfl rfl (fun w hc => law03_span_ok 30 40 hc hr_6)) fun a w hf hc => ?_
  obtain ⟨r_7, hr_7, hF⟩ := bnd_some hF
  refine stE hf hc rfl rfl rfl (eC (v := .agg #[.int .i64 r_7.Lo, .int .i64 r_7.Hi]) (vs := [.int .i64 5, .int .i64 9]) (caps := []) en_14 rfl rfl rfl rfl (fun w hc => law03_span_ok 5 9 hc hr_7)) fun a w hf hc => ?_
  refine stP hf rfl rfl rfl (pBuildS (cells := [.int .i64 0, .int .i64 0, .int .i64 r_4.Lo, .int .i64 r_4.Hi, .int .i64 r_5.Lo, .int .i64 r_5.Hi, .int .i64 r_6.Lo, .int .i64 r_6.Hi, .int .i64 r_7.Lo, .int .i64 r_7.Hi]) bt_40 rfl rfl) fun a hf => ?_
  refine stAl (cs := [.int .i64 0, .int .i64 0, .int .i64 0, .int .i64 0, .int .i64 0, .int .i64 0, .int .i64 0, .int .i64 0, .int .i64 0, .int .i64 0]) hf hc rfl rfl zr_40 rfl fun b_2 a w hf hc => ?_
  refine stSt (vs := [.int .i64 0, .int .i64 0, .int .i64 r_4.Lo, .int .i64 r_4.Hi, .int .i64 r_5.Lo, .int .i64 r_5.Hi, .int .i64 r_6.Lo, .int .i64 r_6.Hi, .int .i64 r_7.Lo, .int .i64 r_7.Hi]) hf hc rfl rfl rfl rfl sz_40 rfl rfl u0 fun w hc => ?_
  refine cNil ?_
  refine h4 _ _ ?_
  refine wp_seq_k fun K5 h5 => ?_
  refine cReg ?_
  refine stE hf hc rfl rfl rfl (eLdN (vs := [.int .i64 0, .int .i64 0, .int .i64 r_4.Lo, .int .i64 r_4.Hi, .int .i64 r_5.Lo, .int .i64 r_5.Hi, .int .i64 r_6.Lo, .int .i64 r_6.Hi, .int .i64 r_7.Lo, .int .i64 r_7.Hi]) ag_40 rfl rfl (cells_box (n := 10) m0 rfl)) fun a w hf hc => ?_
  refine stBS (rows := ([(⟨(⟨0, 0⟩ : api_Span), r_4, r_5, r_6, r_7⟩ : gauge_Leg)] : List gauge_Leg).map enc_gauge_Leg) (vs := [(0, .agg #[.int .i64 0, .int .i64 0, .int .i64 r_4.Lo, .int .i64 r_4.Hi, .int .i64 r_5.Lo, .int .i64 r_5.Hi, .int .i64 r_6.Lo, .int .i64 r_6.Hi, .int .i64 r_7.Lo, .int .i64 r_7.Hi])]) hf hc rfl rfl sl_38 rfl ⟨rfl, rfl, rfl, trivial⟩ rfl rfl fun b_3 a w hf hc => ?_
  obtain ⟨r_8, hr_8, hF⟩ := bnd_some hF
  refine stE hf hc rfl rfl rfl (eC (v := .tuple #[.agg #[.int .i64 r_8.1.Lo, .int .i64 r_8.1.Hi], .int .i64 r_8.2]) (vs := [.slice (some ⟨b_3, 0, none⟩) 1 1]) (caps := []) en_18 rfl rfl rfl rfl (fun w hc => by obtain ⟨G1, hle1, hrd1, hc, hth1⟩ := lend hc k0; exact (gauge_Cross_ok ([(⟨(⟨0, 0⟩ : api_Span), r_4, r_5, r_6, r_7⟩ : gauge_Leg)] : List gauge_Leg) hrd1 hc hr_8).mono fun e w h => ⟨h.1, ((hth1 _ _ h.2).unpick k0)⟩)) fun a w hf hc => ?_
  refine stP hf rfl rfl rfl (pM rfl) fun a hf => ?_
  refine stP hf rfl rfl rfl (pX rfl rfl) fun a hf => ?_
  refine stP hf rfl rfl rfl (pX rfl rfl) fun a hf => ?_
  refine stAl (cs := [.int .i64 0, .int .i64 0]) hf hc rfl rfl zr_24 rfl fun b_4 a w hf hc => ?_
  refine stSt (vs := [.int .i64 r_8.1.Lo, .int .i64 r_8.1.Hi]) hf hc rfl rfl rfl rfl sz_24 rfl rfl u0 fun w hc => ?_
  refine stP hf rfl rfl rfl (pA rfl) fun a hf => ?_
  refine cNil ?_
  refine h5 _ _ ?_
  refine wp_seq_k fun K6 h6 => ?_
  refine cReg ?_
  obtain ⟨r_9, hr_9, hF⟩ := bnd_some hF
  refine stE hf hc rfl rfl rfl (eC (v := .agg #[.int .i64 r_9.Lo, .int .i64 r_9.Hi]) (vs := [.int .i64 5, .int .i64 5]) (caps := []) en_14 rfl rfl rfl rfl (fun w hc => law03_span_ok 5 5 hc hr_9)) fun a w hf hc => ?_
  obtain ⟨r_10, hr_10, hF⟩ := bnd_some hF
  refine stE hf hc rfl rfl rfl (eC (v := .agg #[.int .i64 r_10.Lo, .int .i64 r_10.Hi]) (vs := [.int .i64 1000, .int .i64 1000]) (caps := []) en_14 rfl rfl rfl rfl (fun w hc => law03_span_ok 1000 1000 hc hr_10)) fun a w hf hc => ?_
  obtain ⟨r_11, hr_11, hF⟩ := bnd_some hF
  refine stE hf hc rfl rfl rfl (eC (v := .agg #[.int .i64 r_11.Lo, .int .i64 r_11.Hi]) (vs := [.int .i64 10, .int .i64 11]) (caps := []) en_14 rfl rfl rfl rfl (fun w hc => law03_span_ok 10 11 hc hr_11)) fun a w hf hc => ?_
  obtain ⟨r_12, hr_12, hF⟩ := bnd_some hF
  refine stE hf hc rfl rfl rfl (eC (v := .agg #[.int .i64 r_12.Lo, .int .i64 r_12.Hi]) (vs := [.int .i64 0, .int .i64 1]) (caps := []) en_14 rfl rfl rfl rfl (fun w hc => law03_span_ok 0 1 hc hr_12)) fun a w hf hc => ?_
  refine stP hf rfl rfl rfl (pBuildS (cells := [.int .i64 r_9.Lo, .int .i64 r_9.Hi, .int .i64 r_10.Lo, .int .i64 r_10.Hi, .int .i64 r_11.Lo, .int .i64 r_11.Hi, .int .i64 r_12.Lo, .int .i64 r_12.Hi]) bt_26 rfl rfl) fun a hf => ?_
  obtain ⟨r_13, hr_13, hF⟩ := bnd_some hF
  refine stE hf hc rfl rfl rfl (eC (v := .tuple #[.agg #[.int .i64 r_13.1.Lo, .int .i64 r_13.1.Hi], .int .i64 r_13.2]) (vs := [.agg #[.int .i64 r_9.Lo, .int .i64 r_9.Hi, .int .i64 r_10.Lo, .int .i64 r_10.Hi, .int .i64 r_11.Lo, .int .i64 r_11.Hi, .int .i64 r_12.Lo, .int .i64 r_12.Hi]]) (caps := []) en_13 rfl rfl rfl rfl (fun w hc => gauge_Thinned_ok (⟨r_9, r_10, r_11, r_12⟩ : gauge_Dye) hc hr_13)) fun a w hf hc => ?_
  refine stP hf rfl rfl rfl (pM rfl) fun a hf => ?_
  refine stP hf rfl rfl rfl (pX rfl rfl) fun a hf => ?_
  refine stP hf rfl rfl rfl (pX rfl rfl) fun a hf => ?_
  refine stAl (cs := [.int .i64 0, .int .i64 0]) hf hc rfl rfl zr_24 rfl fun b_5 a w hf hc => ?_
  refine stSt (vs := [.int .i64 r_13.1.Lo, .int .i64 r_13.1.Hi]) hf hc rfl rfl rfl rfl sz_24 rfl rfl u0 fun w hc => ?_
  refine stP hf rfl rfl rfl (pA rfl) fun a hf => ?_
  refine cNil ?_
  refine h6 _ _ ?_
  refine wp_seq_k fun K7 h7 => ?_
  refine wp_seq_k fun K8 h8 => ?_
  obtain ⟨r_14, hr_14, hF⟩ := bnd_some hF
  obtain ⟨r_15, hr_15, hF⟩ := bnd_some hF
  obtain ⟨r_16, hr_16, hF⟩ := bnd_some hF
  obtain ⟨r_17, hr_17, hF⟩ := bnd_some hF
  replace hc := hc.nilRow 0 0
  refine regionE (fun θ => (⟨none, none, 1, .pointer (some ⟨b_1, 0, none⟩)⟩ :: ⟨none, none, 2, .int .i64 r_1.2⟩ :: ⟨none, none, 3, .slice p_3 r_3.1.length c_3⟩ :: ⟨none, none, 4, .slice p_4 r_3.2.1.length c_4⟩ :: ⟨none, none, 5, .int .i64 r_3.2.2⟩ :: ⟨none, none, 7, .pointer (some ⟨b_4, 0, none⟩)⟩ :: ⟨none, none, 8, .int .i64 r_8.2⟩ :: ⟨none, none, 9, .pointer (some ⟨b_5, 0, none⟩)⟩ :: ⟨none, none, 10, .int .i64 r_13.2⟩ :: ⟨some 0, none, 49, .int .i64 r_1.2⟩ :: ⟨some 1, none, 50, .bool (r_1.2 != 0)⟩ :: ⟨some 2, none, 51, .bool (r_1.2 != 0)⟩ :: ⟨some 3, none, 52, (bif (r_1.2 != 0) then undef else .int .i64 r_3.2.2)⟩ :: ⟨some 4, none, 53, (bif (r_1.2 != 0) then undef else .bool (r_3.2.2 != 0))⟩ :: ⟨some 5, none, 54, .bool ((r_1.2 != 0) || (r_3.2.2 != 0))⟩ :: ⟨some 6, none, 55, .bool ((r_1.2 != 0) || (r_3.2.2 != 0))⟩ :: ⟨some 7, none, 56, (bif ((r_1.2 != 0) || (r_3.2.2 != 0)) then undef else .int .i64 r_8.2)⟩ :: ⟨some 8, none, 57, (bif ((r_1.2 != 0) || (r_3.2.2 != 0)) then undef else .bool (r_8.2 != 0))⟩ :: ⟨some 9, none, 58, .bool (((r_1.2 != 0) || (r_3.2.2 != 0)) || (r_8.2 != 0))⟩ :: ⟨some 10, none, 59, .bool (((r_1.2 != 0) || (r_3.2.2 != 0)) || (r_8.2 != 0))⟩ :: ⟨some 11, none, 60, (bif (((r_1.2 != 0) || (r_3.2.2 != 0)) || (r_8.2 != 0)) then undef else .int .i64 r_13.2)⟩ :: ⟨some 12, none, 61, (bif (((r_1.2 != 0) || (r_3.2.2 != 0)) || (r_8.2 != 0)) then undef else .bool (r_13.2 != 0))⟩ :: ⟨some 13, none, 62, .bool ((((r_1.2 != 0) || (r_3.2.2 != 0)) || (r_8.2 != 0)) || (r_13.2 != 0))⟩ :: ⟨some 14, none, 63, .bool ((((r_1.2 != 0) || (r_3.2.2 != 0)) || (r_8.2 != 0)) || (r_13.2 != 0))⟩ :: ⟨some 15, none, 64, (bif ((((r_1.2 != 0) || (r_3.2.2 != 0)) || (r_8.2 != 0)) || (r_13.2 != 0)) then undef else .agg #[.int .i64 r_1.1.Lo, .int .i64 r_1.1.Hi])⟩ :: ⟨some 16, none, 65, (bif ((((r_1.2 != 0) || (r_3.2.2 != 0)) || (r_8.2 != 0)) || (r_13.2 != 0)) then undef else .agg #[.int .i64 r_14.Lo, .int .i64 r_14.Hi])⟩ :: ⟨some 17, none, 66, (bif ((((r_1.2 != 0) || (r_3.2.2 != 0)) || (r_8.2 != 0)) || (r_13.2 != 0)) then undef else .bool (!(r_1.1.Lo == r_14.Lo && r_1.1.Hi == r_14.Hi)))⟩ :: ⟨some 18, none, 67, .bool (((((r_1.2 != 0) || (r_3.2.2 != 0)) || (r_8.2 != 0)) || (r_13.2 != 0)) || (!(r_1.1.Lo == r_14.Lo && r_1.1.Hi == r_14.Hi)))⟩ :: ⟨some 19, none, 68, .bool (((((r_1.2 != 0) || (r_3.2.2 != 0)) || (r_8.2 != 0)) || (r_13.2 != 0)) || (!(r_1.1.Lo == r_14.Lo && r_1.1.Hi == r_14.Hi)))⟩ :: ⟨some 20, none, 69, (bif (((((r_1.2 != 0) || (r_3.2.2 != 0)) || (r_8.2 != 0)) || (r_13.2 != 0)) || (!(r_1.1.Lo == r_14.Lo && r_1.1.Hi == r_14.Hi))) then undef else .slice p_3 r_3.1.length c_3)⟩ :: ⟨some 21, none, 70, (bif (((((r_1.2 != 0) || (r_3.2.2 != 0)) || (r_8.2 != 0)) || (r_13.2 != 0)) || (!(r_1.1.Lo == r_14.Lo && r_1.1.Hi == r_14.Hi))) then undef else .slice (some ⟨(θ 168).b, 0, none⟩) 2 2)⟩ :: ⟨some 22, none, 71, (bif (((((r_1.2 != 0) || (r_3.2.2 != 0)) || (r_8.2 != 0)) || (r_13.2 != 0)) || (!(r_1.1.Lo == r_14.Lo && r_1.1.Hi == r_14.Hi))) then undef else .bool r_15)⟩ :: ⟨some 23, none, 72, (bif (((((r_1.2 != 0) || (r_3.2.2 != 0)) || (r_8.2 != 0)) || (r_13.2 != 0)) || (!(r_1.1.Lo == r_14.Lo && r_1.1.Hi == r_14.Hi))) then undef else .bool (!r_15))⟩ :: ⟨some 24, none, 73, .bool ((((((r_1.2 != 0) || (r_3.2.2 != 0)) || (r_8.2 != 0)) || (r_13.2 != 0)) || (!(r_1.1.Lo == r_14.Lo && r_1.1.Hi == r_14.Hi))) || (!r_15))⟩ :: ⟨some 25, none, 74, .bool ((((((r_1.2 != 0) || (r_3.2.2 != 0)) || (r_8.2 != 0)) || (r_13.2 != 0)) || (!(r_1.1.Lo == r_14.Lo && r_1.1.Hi == r_14.Hi))) || (!r_15))⟩ :: ⟨some 26, none, 75, (bif ((((((r_1.2 != 0) || (r_3.2.2 != 0)) || (r_8.2 != 0)) || (r_13.2 != 0)) || (!(r_1.1.Lo == r_14.Lo && r_1.1.Hi == r_14.Hi))) || (!r_15)) then undef else .slice p_4 r_3.2.1.length c_4)⟩ :: ⟨some 27, none, 76, (bif ((((((r_1.2 != 0) || (r_3.2.2 != 0)) || (r_8.2 != 0)) || (r_13.2 != 0)) || (!(r_1.1.Lo == r_14.Lo && r_1.1.Hi == r_14.Hi))) || (!r_15)) then undef else .int .i64 ((r_3.2.1.length : Nat) : Int))⟩ :: ⟨some 28, none, 77, (bif ((((((r_1.2 != 0) || (r_3.2.2 != 0)) || (r_8.2 != 0)) || (r_13.2 != 0)) || (!(r_1.1.Lo == r_14.Lo && r_1.1.Hi == r_14.Hi))) || (!r_15)) then undef else .bool (((r_3.2.1.length : Nat) : Int) != 0))⟩ :: ⟨some 29, none, 78, .bool (((((((r_1.2 != 0) || (r_3.2.2 != 0)) || (r_8.2 != 0)) || (r_13.2 != 0)) || (!(r_1.1.Lo == r_14.Lo && r_1.1.Hi == r_14.Hi))) || (!r_15)) || (((r_3.2.1.length : Nat) : Int) != 0))⟩ :: ⟨some 30, none, 79, .bool (((((((r_1.2 != 0) || (r_3.2.2 != 0)) || (r_8.2 != 0)) || (r_13.2 != 0)) || (!(r_1.1.Lo == r_14.Lo && r_1.1.Hi == r_14.Hi))) || (!r_15)) || (((r_3.2.1.length : Nat) : Int) != 0))⟩ :: ⟨some 31, none, 80, (bif (((((((r_1.2 != 0) || (r_3.2.2 != 0)) || (r_8.2 != 0)) || (r_13.2 != 0)) || (!(r_1.1.Lo == r_14.Lo && r_1.1.Hi == r_14.Hi))) || (!r_15)) || (((r_3.2.1.length : Nat) : Int) != 0)) then undef else .agg #[.int .i64 r_8.1.Lo, .int .i64 r_8.1.Hi])⟩ :: ⟨some 32, none, 81, (bif (((((((r_1.2 != 0) || (r_3.2.2 != 0)) || (r_8.2 != 0)) || (r_13.2 != 0)) || (!(r_1.1.Lo == r_14.Lo && r_1.1.Hi == r_14.Hi))) || (!r_15)) || (((r_3.2.1.length : Nat) : Int) != 0)) then undef else .agg #[.int .i64 r_16.Lo, .int .i64 r_16.Hi])⟩ :: ⟨some 33, none, 82, (bif (((((((r_1.2 != 0) || (r_3.2.2 != 0)) || (r_8.2 != 0)) || (r_13.2 != 0)) || (!(r_1.1.Lo == r_14.Lo && r_1.1.Hi == r_14.Hi))) || (!r_15)) || (((r_3.2.1.length : Nat) : Int) != 0)) then undef else .bool (!(r_8.1.Lo == r_16.Lo && r_8.1.Hi == r_16.Hi)))⟩ :: ⟨some 34, none, 83, .bool ((((((((r_1.2 != 0) || (r_3.2.2 != 0)) || (r_8.2 != 0)) || (r_13.2 != 0)) || (!(r_1.1.Lo == r_14.Lo && r_1.1.Hi == r_14.Hi))) || (!r_15)) || (((r_3.2.1.length : Nat) : Int) != 0)) || (!(r_8.1.Lo == r_16.Lo && r_8.1.Hi == r_16.Hi)))⟩ :: ⟨some 35, none, 84, .bool ((((((((r_1.2 != 0) || (r_3.2.2 != 0)) || (r_8.2 != 0)) || (r_13.2 != 0)) || (!(r_1.1.Lo == r_14.Lo && r_1.1.Hi == r_14.Hi))) || (!r_15)) || (((r_3.2.1.length : Nat) : Int) != 0)) || (!(r_8.1.Lo == r_16.Lo && r_8.1.Hi == r_16.Hi)))⟩ :: ⟨some 36, none, 85, (bif ((((((((r_1.2 != 0) || (r_3.2.2 != 0)) || (r_8.2 != 0)) || (r_13.2 != 0)) || (!(r_1.1.Lo == r_14.Lo && r_1.1.Hi == r_14.Hi))) || (!r_15)) || (((r_3.2.1.length : Nat) : Int) != 0)) || (!(r_8.1.Lo == r_16.Lo && r_8.1.Hi == r_16.Hi))) then undef else .agg #[.int .i64 r_13.1.Lo, .int .i64 r_13.1.Hi])⟩ :: ⟨some 37, none, 86, (bif ((((((((r_1.2 != 0) || (r_3.2.2 != 0)) || (r_8.2 != 0)) || (r_13.2 != 0)) || (!(r_1.1.Lo == r_14.Lo && r_1.1.Hi == r_14.Hi))) || (!r_15)) || (((r_3.2.1.length : Nat) : Int) != 0)) || (!(r_8.1.Lo == r_16.Lo && r_8.1.Hi == r_16.Hi))) then undef else .agg #[.int .i64 r_17.Lo, .int .i64 r_17.Hi])⟩ :: ⟨some 38, none, 87, (bif ((((((((r_1.2 != 0) || (r_3.2.2 != 0)) || (r_8.2 != 0)) || (r_13.2 != 0)) || (!(r_1.1.Lo == r_14.Lo && r_1.1.Hi == r_14.Hi))) || (!r_15)) || (((r_3.2.1.length : Nat) : Int) != 0)) || (!(r_8.1.Lo == r_16.Lo && r_8.1.Hi == r_16.Hi))) then undef else .bool (!(r_13.1.Lo == r_17.Lo && r_13.1.Hi == r_17.Hi)))⟩ :: ⟨some 39, none, 88, .bool (((((((((r_1.2 != 0) || (r_3.2.2 != 0)) || (r_8.2 != 0)) || (r_13.2 != 0)) || (!(r_1.1.Lo == r_14.Lo && r_1.1.Hi == r_14.Hi))) || (!r_15)) || (((r_3.2.1.length : Nat) : Int) != 0)) || (!(r_8.1.Lo == r_16.Lo && r_8.1.Hi == r_16.Hi))) || (!(r_13.1.Lo == r_17.Lo && r_13.1.Hi == r_17.Hi)))⟩ :: [])) (fun E θ => (bif E 21 then (gE (!(((((r_1.2 != 0) || (r_3.2.2 != 0)) || (r_8.2 != 0)) || (r_13.2 != 0)) || (!(r_1.1.Lo == r_14.Lo && r_1.1.Hi == r_14.Hi)))) (.row (some ⟨(θ 168).b, 0, none⟩) 2 (([0, 1] : List Int).map encI_i64) 3 1)) else .row none 0 [] 0 0) :: .box b_5 [.int .i64 r_13.1.Lo, .int .i64 r_13.1.Hi] 24 :: .box b_4 [.int .i64 r_8.1.Lo, .int .i64 r_8.1.Hi] 24 :: .row (some ⟨b_3, 0, none⟩) 1 (([(⟨(⟨0, 0⟩ : api_Span), r_4, r_5, r_6, r_7⟩ : gauge_Leg)] : List gauge_Leg).map enc_gauge_Leg) 40 10 :: .box b_2 [.int .i64 0, .int .i64 0, .int .i64 r_4.Lo, .int .i64 r_4.Hi, .int .i64 r_5.Lo, .int .i64 r_5.Hi, .int .i64 r_6.Lo, .int .i64 r_6.Hi, .int .i64 r_7.Lo, .int .i64 r_7.Hi] 40 :: .row p_2 c_2 (r_2.Verticals.map enc_gauge_Vertical) 61 5 :: .row p_3 c_3 (r_3.1.map encI_i64) 3 1 :: .row p_4 c_4 (r_3.2.1.map encI_i64) 3 1 :: .box b_1 [.int .i64 r_1.1.Lo, .int .i64 r_1.1.Hi] 24 :: .row p_1 c_1 (r.Verticals.map enc_gauge_Vertical) 61 5 :: Lf) [] (fun a w => Has 156 a [(88, .bool (((((((((r_1.2 != 0) || (r_3.2.2 != 0)) || (r_8.2 != 0)) || (r_13.2 != 0)) || (!(r_1.1.Lo == r_14.Lo && r_1.1.Hi == r_14.Hi))) || (!r_15)) || (((r_3.2.1.length : Nat) : Int) != 0)) || (!(r_8.1.Lo == r_16.Lo && r_8.1.Hi == r_16.Hi))) || (!(r_13.1.Lo == r_17.Lo && r_13.1.Hi == r_17.Hi))))] ∧ Ctx G (.box b_5 [.int .i64 r_13.1.Lo, .int .i64 r_13.1.Hi] 24 :: .box b_4 [.int .i64 r_8.1.Lo, .int .i64 r_8.1.Hi] 24 :: .row (some ⟨b_3, 0, none⟩) 1 (([(⟨(⟨0, 0⟩ : api_Span), r_4, r_5, r_6, r_7⟩ : gauge_Leg)] : List gauge_Leg).map enc_gauge_Leg) 40 10 :: .box b_2 [.int .i64 0, .int .i64 0, .int .i64 r_4.Lo, .int .i64 r_4.Hi, .int .i64 r_5.Lo, .int .i64 r_5.Hi, .int .i64 r_6.Lo, .int .i64 r_6.Hi, .int .i64 r_7.Lo, .int .i64 r_7.Hi] 40 :: .row p_2 c_2 (r_2.Verticals.map enc_gauge_Vertical) 61 5 :: .row p_3 c_3 (r_3.1.map encI_i64) 3 1 :: .row p_4 c_4 (r_3.2.1.map encI_i64) 3 1 :: .box b_1 [.int .i64 r_1.1.Lo, .int .i64 r_1.1.Hi] 24 :: .row p_1 c_1 (r.Verticals.map enc_gauge_Vertical) 61 5 :: Lf) w) follows_mx (by kernel_rfl) (by kernel_rfl) (HasE.of hf ⟨rfl, rfl, rfl, rfl, rfl, rfl, rfl, rfl, rfl, trivial, trivial, trivial, trivial, trivial, trivial, trivial, trivial, trivial, trivial, trivial, trivial, trivial, trivial, trivial, trivial, trivial, trivial, trivial, trivial, trivial, trivial, trivial, trivial, trivial, trivial, trivial, trivial, trivial, trivial, trivial, trivial, trivial, trivial, trivial, trivial, trivial, trivial, trivial, trivial, trivial⟩) hc ⟨?_, ?_, ?_, ?_, ?_, ?_, ?_, ?_, ?_, ?_, ?_, ?_, ?_, ?_, ?_, ?_, ?_, ?_, ?_, ?_, ?_, ?_, ?_, ?_, ?_, ?_, ?_, ?_, ?_, ?_, ?_, ?_, ?_, ?_, ?_, ?_, ?_, ?_, ?_, ?_, trivial⟩ ?_ ?_
  · intro E θ a w hD hi hp he hc
    have hf := he.h0
    replace hf := hf.more he 1 rfl onT
    refine stP hf rfl rfl rfl (pM rfl) fun a hf => ?_
    refine cNil ?_
    refine xThenN ?_
    intro ds u hau
    refine ⟨θ, he.put0 hi hau hf rfl 9 rfl rfl, ?_⟩
    exact hc
  · intro E θ a w hD hi hp he hc
    have e0 := hp.of (k := 0) rfl
    have hf := he.h0
    replace hf := hf.more he 9 rfl (onP e0)
    refine stP hf rfl rfl rfl (pNe rfl rfl) fun a hf => ?_
    refine cNil ?_
    refine xThenN ?_
    intro ds u hau
    refine ⟨θ, he.put0 hi hau hf rfl 10 rfl rfl, ?_⟩
    exact hc
  · intro E θ a w hD hi hp he hc
    have e1 := hp.of (k := 1) rfl
    have hf := he.h0
    replace hf := hf.more he 10 rfl (onP e1)
    refine stP hf rfl rfl rfl (pM rfl) fun a hf => ?_
    refine cNil ?_
    refine xThenN ?_
    intro ds u hau
    refine ⟨θ, he.put0 hi hau hf rfl 11 rfl rfl, ?_⟩
    exact hc
  · intro E θ a w hD hi hp he hc
    have e2 := hp.of (k := 2) rfl
    rcases boolEq (r_1.2 != 0) with hb | hb
    · have hf := he.h0
      replace hf := hf.more he 4 rfl onT
      replace hf := hf.more he 11 rfl (onP e2)
      replace hf := castB hb hf
      refine stS hf rfl rfl rfl fun a hf => ?_
      replace hf := castI (u := .int .i64 r_3.2.2) hb hf
      refine cNil ?_
      refine xThenN ?_
      intro ds u hau
      refine ⟨θ, he.put0 hi hau hf rfl 12 rfl rfl, ?_⟩
      exact hc
    · have hf := he.h0
      replace hf := hf.more he 4 rfl onT
      replace hf := hf.more he 11 rfl (onP e2)
      replace hf := castB hb hf
      refine stP hf rfl rfl rfl (pM rfl) fun a hf => ?_
      replace hf := castJ (u := undef) hb hf
      refine cNil ?_
      refine xThenN ?_
      intro ds u hau
      refine ⟨θ, he.put0 hi hau hf rfl 12 rfl rfl, ?_⟩
      exact hc
  · intro E θ a w hD hi hp he hc
    have e2 := hp.of (k := 2) rfl
    have e3 := hp.of (k := 3) rfl
    rcases boolEq (r_1.2 != 0) with hb | hb
    · have hf := he.h0
      replace hf := hf.more he 11 rfl (onP e2)
      replace hf := castB hb hf
      replace hf := hf.more he 12 rfl (onP e3)
      replace hf := castCT hb hf
      refine stS hf rfl rfl rfl fun a hf => ?_
      replace hf := castI (u := .bool (r_3.2.2 != 0)) hb hf
      refine cNil ?_
      refine xThenN ?_
      intro ds u hau
      refine ⟨θ, he.put0 hi hau hf rfl 13 rfl rfl, ?_⟩
      exact hc
    · have hf := he.h0
      replace hf := hf.more he 11 rfl (onP e2)
      replace hf := castB hb hf
      replace hf := hf.more he 12 rfl (onP e3)
      replace hf := castCF hb hf
      refine stP hf rfl rfl rfl (pNe rfl rfl) fun a hf => ?_
      replace hf := castJ (u := undef) hb hf
      refine cNil ?_
      refine xThenN ?_
      intro ds u hau
      refine ⟨θ, he.put0 hi hau hf rfl 13 rfl rfl, ?_⟩
      exact hc
  · intro E θ a w hD hi hp he hc
    have e2 := hp.of (k := 2) rfl
    have e4 := hp.of (k := 4) rfl
    rcases boolEq (r_1.2 != 0) with hb | hb
    · have hf := he.h0
      replace hf := hf.more he 11 rfl (onP e2)
      replace hf := castB hb hf
      replace hf := hf.more he 13 rfl (onP e4)
      replace hf := castCT hb hf
      refine stP hf rfl rfl rfl (pPt rfl rfl) fun a hf => ?_
      replace hf := castV (v' := .bool ((r_1.2 != 0) || (r_3.2.2 != 0))) (congrArg Value.bool (orT hb)) hf
      refine cNil ?_
      refine xThenN ?_
      intro ds u hau
      refine ⟨θ, he.put0 hi hau hf rfl 14 rfl rfl, ?_⟩
      exact hc
    · have hf := he.h0
      replace hf := hf.more he 11 rfl (onP e2)
      replace hf := castB hb hf
      replace hf := hf.more he 13 rfl (onP e4)
      replace hf := castCF hb hf
      refine stP hf rfl rfl rfl (pPf rfl rfl) fun a hf => ?_
      replace hf := castV (v' := .bool ((r_1.2 != 0) || (r_3.2.2 != 0))) (congrArg Value.bool (orF hb)) hf
      refine cNil ?_
      refine xThenN ?_
      intro ds u hau
      refine ⟨θ, he.put0 hi hau hf rfl 14 rfl rfl, ?_⟩
      exact hc
  · intro E θ a w hD hi hp he hc
    have e5 := hp.of (k := 5) rfl
    have hf := he.h0
    replace hf := hf.more he 14 rfl (onP e5)
    refine stP hf rfl rfl rfl (pM rfl) fun a hf => ?_
    refine cNil ?_
    refine xThenN ?_
    intro ds u hau
    refine ⟨θ, he.put0 hi hau hf rfl 15 rfl rfl, ?_⟩
    exact hc
  · intro E θ a w hD hi hp he hc
    have e6 := hp.of (k := 6) rfl
    rcases boolEq ((r_1.2 != 0) || (r_3.2.2 != 0)) with hb | hb
    · have hf := he.h0
      replace hf := hf.more he 6 rfl onT
      replace hf := hf.more he 15 rfl (onP e6)
      replace hf := castB hb hf
      refine stS hf rfl rfl rfl fun a hf => ?_
      replace hf := castI (u := .int .i64 r_8.2) hb hf
      refine cNil ?_
      refine xThenN ?_
      intro ds u hau
      refine ⟨θ, he.put0 hi hau hf rfl 16 rfl rfl, ?_⟩
      exact hc
    · have hf := he.h0
      replace hf := hf.more he 6 rfl onT
      replace hf := hf.more he 15 rfl (onP e6)
      replace hf := castB hb hf
      refine stP hf rfl rfl rfl (pM rfl) fun a hf => ?_
      replace hf := castJ (u := undef) hb hf
      refine cNil ?_
      refine xThenN ?_
      intro ds u hau
      refine ⟨θ, he.put0 hi hau hf rfl 16 rfl rfl, ?_⟩
      exact hc
  · intro E θ a w hD hi hp he hc
    have e6 := hp.of (k := 6) rfl
    have e7 := hp.of (k := 7) rfl
    rcases boolEq ((r_1.2 != 0) || (r_3.2.2 != 0)) with hb | hb
    · have hf := he.h0
      replace hf := hf.more he 15 rfl (onP e6)
      replace hf := castB hb hf
      replace hf := hf.more he 16 rfl (onP e7)
      replace hf := castCT hb hf
      refine stS hf rfl rfl rfl fun a hf => ?_
      replace hf := castI (u := .bool (r_8.2 != 0)) hb hf
      refine cNil ?_
      refine xThenN ?_
      intro ds u hau
      refine ⟨θ, he.put0 hi hau hf rfl 17 rfl rfl, ?_⟩
      exact hc
    · have hf := he.h0
      replace hf := hf.more he 15 rfl (onP e6)
      replace hf := castB hb hf
      replace hf := hf.more he 16 rfl (onP e7)
      replace hf := castCF hb hf
      refine stP hf rfl rfl rfl (pNe rfl rfl) fun a hf => ?_
      replace hf := castJ (u := undef) hb hf
      refine cNil ?_
      refine xThenN ?_
      intro ds u hau
      refine ⟨θ, he.put0 hi hau hf rfl 17 rfl rfl, ?_⟩
      exact hc
  · intro E θ a w hD hi hp he hc
    have e6 := hp.of (k := 6) rfl
    have e8 := hp.of (k := 8) rfl
    rcases boolEq ((r_1.2 != 0) || (r_3.2.2 != 0)) with hb | hb
    · have hf := he.h0
      replace hf := hf.more he 15 rfl (onP e6)
      replace hf := castB hb hf
      replace hf := hf.more he 17 rfl (onP e8)
      replace hf := castCT hb hf
      refine stP hf rfl rfl rfl (pPt rfl rfl) fun a hf => ?_
      replace hf := castV (v' := .bool (((r_1.2 != 0) || (r_3.2.2 != 0)) || (r_8.2 != 0))) (congrArg Value.bool (orT hb)) hf
      refine cNil ?_
      refine xThenN ?_
      intro ds u hau
      refine ⟨θ, he.put0 hi hau hf rfl 18 rfl rfl, ?_⟩
      exact hc
    · have hf := he.h0
      replace hf := hf.more he 15 rfl (onP e6)
      replace hf := castB hb hf
      replace hf := hf.more he 17 rfl (onP e8)
      replace hf := castCF hb hf
      refine stP hf rfl rfl rfl (pPf rfl rfl) fun a hf => ?_
      replace hf := castV (v' := .bool (((r_1.2 != 0) || (r_3.2.2 != 0)) || (r_8.2 != 0))) (congrArg Value.bool (orF hb)) hf
      refine cNil ?_
      refine xThenN ?_
      intro ds u hau
      refine ⟨θ, he.put0 hi hau hf rfl 18 rfl rfl, ?_⟩
      exact hc
  · intro E θ a w hD hi hp he hc
    have e9 := hp.of (k := 9) rfl
    have hf := he.h0
    replace hf := hf.more he 18 rfl (onP e9)
    refine stP hf rfl rfl rfl (pM rfl) fun a hf => ?_
    refine cNil ?_
    refine xThenN ?_
    intro ds u hau
    refine ⟨θ, he.put0 hi hau hf rfl 19 rfl rfl, ?_⟩
    exact hc
  · intro E θ a w hD hi hp he hc
    have e10 := hp.of (k := 10) rfl
    rcases boolEq (((r_1.2 != 0) || (r_3.2.2 != 0)) || (r_8.2 != 0)) with hb | hb
    · have hf := he.h0
      replace hf := hf.more he 8 rfl onT
      replace hf := hf.more he 19 rfl (onP e10)
      replace hf := castB hb hf
      refine stS hf rfl rfl rfl fun a hf => ?_
      replace hf := castI (u := .int .i64 r_13.2) hb hf
      refine cNil ?_
      refine xThenN ?_
      intro ds u hau
      refine ⟨θ, he.put0 hi hau hf rfl 20 rfl rfl, ?_⟩
      exact hc
    · have hf := he.h0
      replace hf := hf.more he 8 rfl onT
      replace hf := hf.more he 19 rfl (onP e10)
      replace hf := castB hb hf
      refine stP hf rfl rfl rfl (pM rfl) fun a hf => ?_
      replace hf := castJ (u := undef) hb hf
      refine cNil ?_
      refine xThenN ?_
      intro ds u hau
      refine ⟨θ, he.put0 hi hau hf rfl 20 rfl rfl, ?_⟩
      exact hc
  · intro E θ a w hD hi hp he hc
    have e10 := hp.of (k := 10) rfl
    have e11 := hp.of (k := 11) rfl
    rcases boolEq (((r_1.2 != 0) || (r_3.2.2 != 0)) || (r_8.2 != 0)) with hb | hb
    · have hf := he.h0
      replace hf := hf.more he 19 rfl (onP e10)
      replace hf := castB hb hf
      replace hf := hf.more he 20 rfl (onP e11)
      replace hf := castCT hb hf
      refine stS hf rfl rfl rfl fun a hf => ?_
      replace hf := castI (u := .bool (r_13.2 != 0)) hb hf
      refine cNil ?_
      refine xThenN ?_
      intro ds u hau
      refine ⟨θ, he.put0 hi hau hf rfl 21 rfl rfl, ?_⟩
      exact hc
    · have hf := he.h0
      replace hf := hf.more he 19 rfl (onP e10)
      replace hf := castB hb hf
      replace hf := hf.more he 20 rfl (onP e11)
      replace hf := castCF hb hf
      refine stP hf rfl rfl rfl (pNe rfl rfl) fun a hf => ?_
      replace hf := castJ (u := undef) hb hf
      refine cNil ?_
      refine xThenN ?_
      intro ds u hau
      refine ⟨θ, he.put0 hi hau hf rfl 21 rfl rfl, ?_⟩
      exact hc
  · intro E θ a w hD hi hp he hc
    have e10 := hp.of (k := 10) rfl
    have e12 := hp.of (k := 12) rfl
    rcases boolEq (((r_1.2 != 0) || (r_3.2.2 != 0)) || (r_8.2 != 0)) with hb | hb
    · have hf := he.h0
      replace hf := hf.more he 19 rfl (onP e10)
      replace hf := castB hb hf
      replace hf := hf.more he 21 rfl (onP e12)
      replace hf := castCT hb hf
      refine stP hf rfl rfl rfl (pPt rfl rfl) fun a hf => ?_
      replace hf := castV (v' := .bool ((((r_1.2 != 0) || (r_3.2.2 != 0)) || (r_8.2 != 0)) || (r_13.2 != 0))) (congrArg Value.bool (orT hb)) hf
      refine cNil ?_
      refine xThenN ?_
      intro ds u hau
      refine ⟨θ, he.put0 hi hau hf rfl 22 rfl rfl, ?_⟩
      exact hc
    · have hf := he.h0
      replace hf := hf.more he 19 rfl (onP e10)
      replace hf := castB hb hf
      replace hf := hf.more he 21 rfl (onP e12)
      replace hf := castCF hb hf
      refine stP hf rfl rfl rfl (pPf rfl rfl) fun a hf => ?_
      replace hf := castV (v' := .bool ((((r_1.2 != 0) || (r_3.2.2 != 0)) || (r_8.2 != 0)) || (r_13.2 != 0))) (congrArg Value.bool (orF hb)) hf
      refine cNil ?_
      refine xThenN ?_
      intro ds u hau
      refine ⟨θ, he.put0 hi hau hf rfl 22 rfl rfl, ?_⟩
      exact hc
  · intro E θ a w hD hi hp he hc
    have e13 := hp.of (k := 13) rfl
    have hf := he.h0
    replace hf := hf.more he 22 rfl (onP e13)
    refine stP hf rfl rfl rfl (pM rfl) fun a hf => ?_
    refine cNil ?_
    refine xThenN ?_
    intro ds u hau
    refine ⟨θ, he.put0 hi hau hf rfl 23 rfl rfl, ?_⟩
    exact hc
  · intro E θ a w hD hi hp he hc
    have e14 := hp.of (k := 14) rfl
    rcases boolEq ((((r_1.2 != 0) || (r_3.2.2 != 0)) || (r_8.2 != 0)) || (r_13.2 != 0)) with hb | hb
    · have hf := he.h0
      replace hf := hf.more he 0 rfl onT
      replace hf := hf.more he 23 rfl (onP e14)
      replace hf := castB hb hf
      refine stS hf rfl rfl rfl fun a hf => ?_
      replace hf := castI (u := .agg #[.int .i64 r_1.1.Lo, .int .i64 r_1.1.Hi]) hb hf
      refine cNil ?_
      refine xThenN ?_
      intro ds u hau
      refine ⟨θ, he.put0 hi hau hf rfl 24 rfl rfl, ?_⟩
      exact hc
    · have hf := he.h0
      replace hf := hf.more he 0 rfl onT
      replace hf := hf.more he 23 rfl (onP e14)
      replace hf := castB hb hf
      refine stE hf hc rfl rfl rfl (eLdN (vs := [.int .i64 r_1.1.Lo, .int .i64 r_1.1.Hi]) ag_24 rfl rfl (cells_box (n := 2) m8 rfl)) fun a w hf hc => ?_
      replace hf := castJ (u := undef) hb hf
      refine cNil ?_
      refine xThenN ?_
      intro ds u hau
      refine ⟨θ, he.put0 hi hau hf rfl 24 rfl rfl, ?_⟩
      exact hc
  · intro E θ a w hD hi hp he hc
    have e14 := hp.of (k := 14) rfl
    rcases boolEq ((((r_1.2 != 0) || (r_3.2.2 != 0)) || (r_8.2 != 0)) || (r_13.2 != 0)) with hb | hb
    · have hf := he.h0
      replace hf := hf.more he 23 rfl (onP e14)
      replace hf := castB hb hf
      refine stS hf rfl rfl rfl fun a hf => ?_
      replace hf := castI (u := .agg #[.int .i64 r_14.Lo, .int .i64 r_14.Hi]) hb hf
      refine cNil ?_
      refine xThenN ?_
      intro ds u hau
      refine ⟨θ, he.put0 hi hau hf rfl 25 rfl rfl, ?_⟩
      exact hc
    · have hf := he.h0
      replace hf := hf.more he 23 rfl (onP e14)
      replace hf := castB hb hf
      refine stE hf hc rfl rfl rfl (eC (v := .agg #[.int .i64 r_14.Lo, .int .i64 r_14.Hi]) (vs := [.int .i64 51600, .int .i64 402000]) (caps := []) en_14 rfl rfl rfl rfl (fun w hc => law03_span_ok 51600 402000 hc (condT (notT hb) hr_14))) fun a w hf hc => ?_
      replace hf := castJ (u := undef) hb hf
      refine cNil ?_
      refine xThenN ?_
      intro ds u hau
      refine ⟨θ, he.put0 hi hau hf rfl 25 rfl rfl, ?_⟩
      exact hc
  · intro E θ a w hD hi hp he hc
    have e14 := hp.of (k := 14) rfl
    have e15 := hp.of (k := 15) rfl
    have e16 := hp.of (k := 16) rfl
    rcases boolEq ((((r_1.2 != 0) || (r_3.2.2 != 0)) || (r_8.2 != 0)) || (r_13.2 != 0)) with hb | hb
    · have hf := he.h0
      replace hf := hf.more he 23 rfl (onP e14)
      replace hf := castB hb hf
      replace hf := hf.more he 24 rfl (onP e15)
      replace hf := castCT hb hf
      replace hf := hf.more he 25 rfl (onP e16)
      replace hf := castCT hb hf
      refine stS hf rfl rfl rfl fun a hf => ?_
      replace hf := castI (u := .bool (!(r_1.1.Lo == r_14.Lo && r_1.1.Hi == r_14.Hi))) hb hf
      refine cNil ?_
      refine xThenN ?_
      intro ds u hau
      refine ⟨θ, he.put0 hi hau hf rfl 26 rfl rfl, ?_⟩
      exact hc
    · have hf := he.h0
      replace hf := hf.more he 23 rfl (onP e14)
      replace hf := castB hb hf
      replace hf := hf.more he 24 rfl (onP e15)
      replace hf := castCF hb hf
      replace hf := hf.more he 25 rfl (onP e16)
      replace hf := castCF hb hf
      refine stP hf rfl rfl rfl (pNeA ge_24 rfl rfl (eqs_24 _ _ _ _)) fun a hf => ?_
      replace hf := castJ (u := undef) hb hf
      refine cNil ?_
      refine xThenN ?_
      intro ds u hau
      refine ⟨θ, he.put0 hi hau hf rfl 26 rfl rfl, ?_⟩
      exact hc
  · intro E θ a w hD hi hp he hc
    have e14 := hp.of (k := 14) rfl
    have e17 := hp.of (k := 17) rfl
    rcases boolEq ((((r_1.2 != 0) || (r_3.2.2 != 0)) || (r_8.2 != 0)) || (r_13.2 != 0)) with hb | hb
    · have hf := he.h0
      replace hf := hf.more he 23 rfl (onP e14)
      replace hf := castB hb hf
      replace hf := hf.more he 26 rfl (onP e17)
      replace hf := castCT hb hf
      refine stP hf rfl rfl rfl (pPt rfl rfl) fun a hf => ?_
      replace hf := castV (v' := .bool (((((r_1.2 != 0) || (r_3.2.2 != 0)) || (r_8.2 != 0)) || (r_13.2 != 0)) || (!(r_1.1.Lo == r_14.Lo && r_1.1.Hi == r_14.Hi)))) (congrArg Value.bool (orT hb)) hf
      refine cNil ?_
      refine xThenN ?_
      intro ds u hau
      refine ⟨θ, he.put0 hi hau hf rfl 27 rfl rfl, ?_⟩
      exact hc
    · have hf := he.h0
      replace hf := hf.more he 23 rfl (onP e14)
      replace hf := castB hb hf
      replace hf := hf.more he 26 rfl (onP e17)
      replace hf := castCF hb hf
      refine stP hf rfl rfl rfl (pPf rfl rfl) fun a hf => ?_
      replace hf := castV (v' := .bool (((((r_1.2 != 0) || (r_3.2.2 != 0)) || (r_8.2 != 0)) || (r_13.2 != 0)) || (!(r_1.1.Lo == r_14.Lo && r_1.1.Hi == r_14.Hi)))) (congrArg Value.bool (orF hb)) hf
      refine cNil ?_
      refine xThenN ?_
      intro ds u hau
      refine ⟨θ, he.put0 hi hau hf rfl 27 rfl rfl, ?_⟩
      exact hc
  · intro E θ a w hD hi hp he hc
    have e18 := hp.of (k := 18) rfl
    have hf := he.h0
    replace hf := hf.more he 27 rfl (onP e18)
    refine stP hf rfl rfl rfl (pM rfl) fun a hf => ?_
    refine cNil ?_
    refine xThenN ?_
    intro ds u hau
    refine ⟨θ, he.put0 hi hau hf rfl 28 rfl rfl, ?_⟩
    exact hc
  · intro E θ a w hD hi hp he hc
    have e19 := hp.of (k := 19) rfl
    rcases boolEq (((((r_1.2 != 0) || (r_3.2.2 != 0)) || (r_8.2 != 0)) || (r_13.2 != 0)) || (!(r_1.1.Lo == r_14.Lo && r_1.1.Hi == r_14.Hi))) with hb | hb
    · have hf := he.h0
      replace hf := hf.more he 2 rfl onT
      replace hf := hf.more he 28 rfl (onP e19)
      replace hf := castB hb hf
      refine stS hf rfl rfl rfl fun a hf => ?_
      replace hf := castI (u := .slice p_3 r_3.1.length c_3) hb hf
      refine cNil ?_
      refine xThenN ?_
      intro ds u hau
      refine ⟨θ, he.put0 hi hau hf rfl 29 rfl rfl, ?_⟩
      exact hc
    · have hf := he.h0
      replace hf := hf.more he 2 rfl onT
      replace hf := hf.more he 28 rfl (onP e19)
      replace hf := castB hb hf
      refine stP hf rfl rfl rfl (pM rfl) fun a hf => ?_
      replace hf := castJ (u := undef) hb hf
      refine cNil ?_
      refine xThenN ?_
      intro ds u hau
      refine ⟨θ, he.put0 hi hau hf rfl 29 rfl rfl, ?_⟩
      exact hc
  · intro E θ a w hD hi hp he hc
    have e19 := hp.of (k := 19) rfl
    try dsimp only at hc
    rw [hi] at hc
    rcases boolEq (((((r_1.2 != 0) || (r_3.2.2 != 0)) || (r_8.2 != 0)) || (r_13.2 != 0)) || (!(r_1.1.Lo == r_14.Lo && r_1.1.Hi == r_14.Hi))) with hb | hb
    · have hf := he.h0
      replace hf := hf.more he 28 rfl (onP e19)
      replace hf := castB hb hf
      refine stS hf rfl rfl rfl fun a hf => ?_
      replace hf := castI (u := .slice (some ⟨(θ 168).b, 0, none⟩) 2 2) hb hf
      refine cNil ?_
      refine xThenN ?_
      intro ds u hau
      refine ⟨θ, he.put0 hi hau hf rfl 30 rfl rfl, ?_⟩
      try dsimp only
      rw [updE_self E 21]
      rw [gE_F (notF hb)]
      exact hc
    · have hf := he.h0
      replace hf := hf.more he 28 rfl (onP e19)
      replace hf := castB hb hf
      refine stBS (rows := ([0, 1] : List Int).map encI_i64) (vs := [(0, .int .i64 0), (1, .int .i64 1)]) hf hc rfl rfl sl_43 rfl ⟨rfl, rfl, rfl, rfl, rfl, rfl, trivial⟩ rfl rfl fun b_6 a w hf hc => ?_
      replace hf := castJ (u := undef) hb hf
      refine cNil ?_
      refine xThenN ?_
      intro ds u hau
      replace hc := hc.drop k1
      refine ⟨(setT θ 168 ⟨b_6, none, 0⟩), he.put hi hau hf rfl [] trivial ⟨qq, qq, qq, qq, qq, qq, qq, qq, qq, qq, qq, qq, qq, qq, qq, qq, qq, qq, qq, qq, qq, qq, qq, qq, qq, qq, qq, qq, qq, qq, qq, qq, qq, qq, qq, qq, qq, qq, qq, qq, qq, qq, qq, qq, qq, qq, qq, qq, qq, trivial⟩, ?_⟩
      try dsimp only
      rw [updE_self E 21]
      rw [gE_T (notT hb)]
      exact hc
  · intro E θ a w hD hi hp he hc
    have e19 := hp.of (k := 19) rfl
    have e20 := hp.of (k := 20) rfl
    have e21 := hp.of (k := 21) rfl
    try dsimp only at hc
    rw [e21] at hc
    rcases boolEq (((((r_1.2 != 0) || (r_3.2.2 != 0)) || (r_8.2 != 0)) || (r_13.2 != 0)) || (!(r_1.1.Lo == r_14.Lo && r_1.1.Hi == r_14.Hi))) with hb | hb
    · have hf := he.h0
      replace hf := hf.more he 28 rfl (onP e19)
      replace hf := castB hb hf
      replace hf := hf.more he 29 rfl (onP e20)
      replace hf := castCT hb hf
      replace hf := hf.more he 30 rfl (onP e21)
      replace hf := castCT hb hf
      rw [gE_F (notF hb)] at hc
      refine stS hf rfl rfl rfl fun a hf => ?_
      replace hf := castI (u := .bool r_15) hb hf
      refine cNil ?_
      refine xThenN ?_
      intro ds u hau
      refine ⟨θ, he.put0 hi hau hf rfl 31 rfl rfl, ?_⟩
      try dsimp only
      rw [updE_tru 22 e21]
      rw [gE_F (notF hb)]
      exact hc
    · have hf := he.h0
      replace hf := hf.more he 28 rfl (onP e19)
      replace hf := castB hb hf
      replace hf := hf.more he 29 rfl (onP e20)
      replace hf := castCF hb hf
      replace hf := hf.more he 30 rfl (onP e21)
      replace hf := castCF hb hf
      rw [gE_T (notT hb)] at hc
      refine stE hf hc rfl rfl rfl (eC (v := .bool r_15) (vs := [.slice p_3 r_3.1.length c_3, .slice (some ⟨(θ 168).b, 0, none⟩) 2 2]) (caps := []) en_41 rfl rfl rfl rfl (fun w hc => by obtain ⟨G1, hle1, hrd1, hc, hth1⟩ := lend hc k6; obtain ⟨G2, hle2, hrd2, hc, hth2⟩ := lend hc k0; exact (kit_Same_int_ok r_3.1 ([0, 1] : List Int) (hrd1.mono hle2) hrd2 hc (condT (notT hb) hr_15)).mono fun e w h => ⟨h.1, ((hth1 _ _ ((hth2 _ _ h.2).unpick k0)).unpick k6)⟩)) fun a w hf hc => ?_
      replace hf := castJ (u := undef) hb hf
      refine cNil ?_
      refine xThenN ?_
      intro ds u hau
      refine ⟨θ, he.put0 hi hau hf rfl 31 rfl rfl, ?_⟩
      try dsimp only
      rw [updE_tru 22 e21]
      rw [gE_T (notT hb)]
      exact hc
  · intro E θ a w hD hi hp he hc
    have e19 := hp.of (k := 19) rfl
    have e22 := hp.of (k := 22) rfl
    rcases boolEq (((((r_1.2 != 0) || (r_3.2.2 != 0)) || (r_8.2 != 0)) || (r_13.2 != 0)) || (!(r_1.1.Lo == r_14.Lo && r_1.1.Hi == r_14.Hi))) with hb | hb
    · have hf := he.h0
      replace hf := hf.more he 28 rfl (onP e19)
      replace hf := castB hb hf
      replace hf := hf.more he 31 rfl (onP e22)
      replace hf := castCT hb hf
      refine stS hf rfl rfl rfl fun a hf => ?_
      replace hf := castI (u := .bool (!r_15)) hb hf
      refine cNil ?_
      refine xThenN ?_
      intro ds u hau
      refine ⟨θ, he.put0 hi hau hf rfl 32 rfl rfl, ?_⟩
      exact hc
    · have hf := he.h0
      replace hf := hf.more he 28 rfl (onP e19)
      replace hf := castB hb hf
      replace hf := hf.more he 31 rfl (onP e22)
      replace hf := castCF hb hf
      refine stP hf rfl rfl rfl (pNot rfl) fun a hf => ?_
      replace hf := castJ (u := undef) hb hf
      refine cNil ?_
      refine xThenN ?_
      intro ds u hau
      refine ⟨θ, he.put0 hi hau hf rfl 32 rfl rfl, ?_⟩
      exact hc
  · intro E θ a w hD hi hp he hc
    have e19 := hp.of (k := 19) rfl
    have e23 := hp.of (k := 23) rfl
    rcases boolEq (((((r_1.2 != 0) || (r_3.2.2 != 0)) || (r_8.2 != 0)) || (r_13.2 != 0)) || (!(r_1.1.Lo == r_14.Lo && r_1.1.Hi == r_14.Hi))) with hb | hb
    · have hf := he.h0
      replace hf := hf.more he 28 rfl (onP e19)
      replace hf := castB hb hf
      replace hf := hf.more he 32 rfl (onP e23)
      replace hf := castCT hb hf
      refine stP hf rfl rfl rfl (pPt rfl rfl) fun a hf => ?_
      replace hf := castV (v' := .bool ((((((r_1.2 != 0) || (r_3.2.2 != 0)) || (r_8.2 != 0)) || (r_13.2 != 0)) || (!(r_1.1.Lo == r_14.Lo && r_1.1.Hi == r_14.Hi))) || (!r_15))) (congrArg Value.bool (orT hb)) hf
      refine cNil ?_
      refine xThenN ?_
      intro ds u hau
      refine ⟨θ, he.put0 hi hau hf rfl 33 rfl rfl, ?_⟩
      exact hc
    · have hf := he.h0
      replace hf := hf.more he 28 rfl (onP e19)
      replace hf := castB hb hf
      replace hf := hf.more he 32 rfl (onP e23)
      replace hf := castCF hb hf
      refine stP hf rfl rfl rfl (pPf rfl rfl) fun a hf => ?_
      replace hf := castV (v' := .bool ((((((r_1.2 != 0) || (r_3.2.2 != 0)) || (r_8.2 != 0)) || (r_13.2 != 0)) || (!(r_1.1.Lo == r_14.Lo && r_1.1.Hi == r_14.Hi))) || (!r_15))) (congrArg Value.bool (orF hb)) hf
      refine cNil ?_
      refine xThenN ?_
      intro ds u hau
      refine ⟨θ, he.put0 hi hau hf rfl 33 rfl rfl, ?_⟩
      exact hc
  · intro E θ a w hD hi hp he hc
    have e24 := hp.of (k := 24) rfl
    have hf := he.h0
    replace hf := hf.more he 33 rfl (onP e24)
    refine stP hf rfl rfl rfl (pM rfl) fun a hf => ?_
    refine cNil ?_
    refine xThenN ?_
    intro ds u hau
    refine ⟨θ, he.put0 hi hau hf rfl 34 rfl rfl, ?_⟩
    exact hc
  · intro E θ a w hD hi hp he hc
    have e25 := hp.of (k := 25) rfl
    rcases boolEq ((((((r_1.2 != 0) || (r_3.2.2 != 0)) || (r_8.2 != 0)) || (r_13.2 != 0)) || (!(r_1.1.Lo == r_14.Lo && r_1.1.Hi == r_14.Hi))) || (!r_15)) with hb | hb
    · have hf := he.h0
      replace hf := hf.more he 3 rfl onT
      replace hf := hf.more he 34 rfl (onP e25)
      replace hf := castB hb hf
      refine stS hf rfl rfl rfl fun a hf => ?_
      replace hf := castI (u := .slice p_4 r_3.2.1.length c_4) hb hf
      refine cNil ?_
      refine xThenN ?_
      intro ds u hau
      refine ⟨θ, he.put0 hi hau hf rfl 35 rfl rfl, ?_⟩
      exact hc
    · have hf := he.h0
      replace hf := hf.more he 3 rfl onT
      replace hf := hf.more he 34 rfl (onP e25)
      replace hf := castB hb hf
      refine stP hf rfl rfl rfl (pM rfl) fun a hf => ?_
      replace hf := castJ (u := undef) hb hf
      refine cNil ?_
      refine xThenN ?_
      intro ds u hau
      refine ⟨θ, he.put0 hi hau hf rfl 35 rfl rfl, ?_⟩
      exact hc
  · intro E θ a w hD hi hp he hc
    have e25 := hp.of (k := 25) rfl
    have e26 := hp.of (k := 26) rfl
    rcases boolEq ((((((r_1.2 != 0) || (r_3.2.2 != 0)) || (r_8.2 != 0)) || (r_13.2 != 0)) || (!(r_1.1.Lo == r_14.Lo && r_1.1.Hi == r_14.Hi))) || (!r_15)) with hb | hb
    · have hf := he.h0
      replace hf := hf.more he 34 rfl (onP e25)
      replace hf := castB hb hf
      replace hf := hf.more he 35 rfl (onP e26)
      replace hf := castCT hb hf
      refine stS hf rfl rfl rfl fun a hf => ?_
      replace hf := castI (u := .int .i64 ((r_3.2.1.length : Nat) : Int)) hb hf
      refine cNil ?_
      refine xThenN ?_
      intro ds u hau
      refine ⟨θ, he.put0 hi hau hf rfl 36 rfl rfl, ?_⟩
      exact hc
    · have hf := he.h0
      replace hf := hf.more he 34 rfl (onP e25)
      replace hf := castB hb hf
      replace hf := hf.more he 35 rfl (onP e26)
      replace hf := castCF hb hf
      refine stP hf rfl rfl rfl (pLenS Try.underlying43 rfl) fun a hf => ?_
      replace hf := castJ (u := undef) hb hf
      refine cNil ?_
      refine xThenN ?_
      intro ds u hau
      refine ⟨θ, he.put0 hi hau hf rfl 36 rfl rfl, ?_⟩
      exact hc
  · intro E θ a w hD hi hp he hc
    have e25 := hp.of (k := 25) rfl
    have e27 := hp.of (k := 27) rfl
    rcases boolEq ((((((r_1.2 != 0) || (r_3.2.2 != 0)) || (r_8.2 != 0)) || (r_13.2 != 0)) || (!(r_1.1.Lo == r_14.Lo && r_1.1.Hi == r_14.Hi))) || (!r_15)) with hb | hb
    · have hf := he.h0
      replace hf := hf.more he 34 rfl (onP e25)
      replace hf := castB hb hf
      replace hf := hf.more he 36 rfl (onP e27)
      replace hf := castCT hb hf
      refine stS hf rfl rfl rfl fun a hf => ?_
      replace hf := castI (u := .bool (((r_3.2.1.length : Nat) : Int) != 0)) hb hf
      refine cNil ?_
      refine xThenN ?_
      intro ds u hau
      refine ⟨θ, he.put0 hi hau hf rfl 37 rfl rfl, ?_⟩
      exact hc
    · have hf := he.h0
      replace hf := hf.more he 34 rfl (onP e25)
      replace hf := castB hb hf
      replace hf := hf.more he 36 rfl (onP e27)
      replace hf := castCF hb hf
      refine stP hf rfl rfl rfl (pNe rfl rfl) fun a hf => ?_
      replace hf := castJ (u := undef) hb hf
      refine cNil ?_
      refine xThenN ?_
      intro ds u hau
      refine ⟨θ, he.put0 hi hau hf rfl 37 rfl rfl, ?_⟩
      exact hc
  · intro E θ a w hD hi hp he hc
    have e25 := hp.of (k := 25) rfl
    have e28 := hp.of (k := 28) rfl
    rcases boolEq ((((((r_1.2 != 0) || (r_3.2.2 != 0)) || (r_8.2 != 0)) || (r_13.2 != 0)) || (!(r_1.1.Lo == r_14.Lo && r_1.1.Hi == r_14.Hi))) || (!r_15)) with hb | hb
    · have hf := he.h0
      replace hf := hf.more he 34 rfl (onP e25)
      replace hf := castB hb hf
      replace hf := hf.more he 37 rfl (onP e28)
      replace hf := castCT hb hf
      refine stP hf rfl rfl rfl (pPt rfl rfl) fun a hf => ?_
      replace hf := castV (v' := .bool (((((((r_1.2 != 0) || (r_3.2.2 != 0)) || (r_8.2 != 0)) || (r_13.2 != 0)) || (!(r_1.1.Lo == r_14.Lo && r_1.1.Hi == r_14.Hi))) || (!r_15)) || (((r_3.2.1.length : Nat) : Int) != 0))) (congrArg Value.bool (orT hb)) hf
      refine cNil ?_
      refine xThenN ?_
      intro ds u hau
      refine ⟨θ, he.put0 hi hau hf rfl 38 rfl rfl, ?_⟩
      exact hc
    · have hf := he.h0
      replace hf := hf.more he 34 rfl (onP e25)
      replace hf := castB hb hf
      replace hf := hf.more he 37 rfl (onP e28)
      replace hf := castCF hb hf
      refine stP hf rfl rfl rfl (pPf rfl rfl) fun a hf => ?_
      replace hf := castV (v' := .bool (((((((r_1.2 != 0) || (r_3.2.2 != 0)) || (r_8.2 != 0)) || (r_13.2 != 0)) || (!(r_1.1.Lo == r_14.Lo && r_1.1.Hi == r_14.Hi))) || (!r_15)) || (((r_3.2.1.length : Nat) : Int) != 0))) (congrArg Value.bool (orF hb)) hf
      refine cNil ?_
      refine xThenN ?_
      intro ds u hau
      refine ⟨θ, he.put0 hi hau hf rfl 38 rfl rfl, ?_⟩
      exact hc
  · intro E θ a w hD hi hp he hc
    have e29 := hp.of (k := 29) rfl
    have hf := he.h0
    replace hf := hf.more he 38 rfl (onP e29)
    refine stP hf rfl rfl rfl (pM rfl) fun a hf => ?_
    refine cNil ?_
    refine xThenN ?_
    intro ds u hau
    refine ⟨θ, he.put0 hi hau hf rfl 39 rfl rfl, ?_⟩
    exact hc
  · intro E θ a w hD hi hp he hc
    have e30 := hp.of (k := 30) rfl
    rcases boolEq (((((((r_1.2 != 0) || (r_3.2.2 != 0)) || (r_8.2 != 0)) || (r_13.2 != 0)) || (!(r_1.1.Lo == r_14.Lo && r_1.1.Hi == r_14.Hi))) || (!r_15)) || (((r_3.2.1.length : Nat) : Int) != 0)) with hb | hb
    · have hf := he.h0
      replace hf := hf.more he 5 rfl onT
      replace hf := hf.more he 39 rfl (onP e30)
      replace hf := castB hb hf
      refine stS hf rfl rfl rfl fun a hf => ?_
      replace hf := castI (u := .agg #[.int .i64 r_8.1.Lo, .int .i64 r_8.1.Hi]) hb hf
      refine cNil ?_
      refine xThenN ?_
      intro ds u hau
      refine ⟨θ, he.put0 hi hau hf rfl 40 rfl rfl, ?_⟩
      exact hc
    · have hf := he.h0
      replace hf := hf.more he 5 rfl onT
      replace hf := hf.more he 39 rfl (onP e30)
      replace hf := castB hb hf
      refine stE hf hc rfl rfl rfl (eLdN (vs := [.int .i64 r_8.1.Lo, .int .i64 r_8.1.Hi]) ag_24 rfl rfl (cells_box (n := 2) m2 rfl)) fun a w hf hc => ?_
      replace hf := castJ (u := undef) hb hf
      refine cNil ?_
      refine xThenN ?_
      intro ds u hau
      refine ⟨θ, he.put0 hi hau hf rfl 40 rfl rfl, ?_⟩
      exact hc
  · intro E θ a w hD hi hp he hc
    have e30 := hp.of (k := 30) rfl
    rcases boolEq (((((((r_1.2 != 0) || (r_3.2.2 != 0)) || (r_8.2 != 0)) || (r_13.2 != 0)) || (!(r_1.1.Lo == r_14.Lo && r_1.1.Hi == r_14.Hi))) || (!r_15)) || (((r_3.2.1.length : Nat) : Int) != 0)) with hb | hb
    · have hf := he.h0
      replace hf := hf.more he 39 rfl (onP e30)
      replace hf := castB hb hf
      refine stS hf rfl rfl rfl fun a hf => ?_
      replace hf := castI (u := .agg #[.int .i64 r_16.Lo, .int .i64 r_16.Hi]) hb hf
      refine cNil ?_
      refine xThenN ?_
      intro ds u hau
      refine ⟨θ, he.put0 hi hau hf rfl 41 rfl rfl, ?_⟩
      exact hc
    · have hf := he.h0
      replace hf := hf.more he 39 rfl (onP e30)
      replace hf := castB hb hf
      refine stE hf hc rfl rfl rfl (eC (v := .agg #[.int .i64 r_16.Lo, .int .i64 r_16.Hi]) (vs := [.int .i64 30000, .int .i64 40000]) (caps := []) en_14 rfl rfl rfl rfl (fun w hc => law03_span_ok 30000 40000 hc (condT (notT hb) hr_16))) fun a w hf hc => ?_
      replace hf := castJ (u := undef) hb hf
      refine cNil ?_
      refine xThenN ?_
      intro ds u hau
      refine ⟨θ, he.put0 hi hau hf rfl 41 rfl rfl, ?_⟩
      exact hc
  · intro E θ a w hD hi hp he hc
    have e30 := hp.of (k := 30) rfl
    have e31 := hp.of (k := 31) rfl
    have e32 := hp.of (k := 32) rfl
    rcases boolEq (((((((r_1.2 != 0) || (r_3.2.2 != 0)) || (r_8.2 != 0)) || (r_13.2 != 0)) || (!(r_1.1.Lo == r_14.Lo && r_1.1.Hi == r_14.Hi))) || (!r_15)) || (((r_3.2.1.length : Nat) : Int) != 0)) with hb | hb
    · have hf := he.h0
      replace hf := hf.more he 39 rfl (onP e30)
      replace hf := castB hb hf
      replace hf := hf.more he 40 rfl (onP e31)
      replace hf := castCT hb hf
      replace hf := hf.more he 41 rfl (onP e32)
      replace hf := castCT hb hf
      refine stS hf rfl rfl rfl fun a hf => ?_
      replace hf := castI (u := .bool (!(r_8.1.Lo == r_16.Lo && r_8.1.Hi == r_16.Hi))) hb hf
      refine cNil ?_
      refine xThenN ?_
      intro ds u hau
      refine ⟨θ, he.put0 hi hau hf rfl 42 rfl rfl, ?_⟩
      exact hc
    · have hf := he.h0
      replace hf := hf.more he 39 rfl (onP e30)
      replace hf := castB hb hf
      replace hf := hf.more he 40 rfl (onP e31)
      replace hf := castCF hb hf
      replace hf := hf.more he 41 rfl (onP e32)
      replace hf := castCF hb hf
      refine stP hf rfl rfl rfl (pNeA ge_24 rfl rfl (eqs_24 _ _ _ _)) fun a hf => ?_
      replace hf := castJ (u := undef) hb hf
      refine cNil ?_
      refine xThenN ?_
      intro ds u hau
      refine ⟨θ, he.put0 hi hau hf rfl 42 rfl rfl, ?_⟩
      exact hc
  · intro E θ a w hD hi hp he hc
    have e30 := hp.of (k := 30) rfl
    have e33 := hp.of (k := 33) rfl
    rcases boolEq (((((((r_1.2 != 0) || (r_3.2.2 != 0)) || (r_8.2 != 0)) || (r_13.2 != 0)) || (!(r_1.1.Lo == r_14.Lo && r_1.1.Hi == r_14.Hi))) || (!r_15)) || (((r_3.2.1.length : Nat) : Int) != 0)) with hb | hb
    · have hf := he.h0
      replace hf := hf.more he 39 rfl (onP e30)
      replace hf := castB hb hf
      replace hf := hf.more he 42 rfl (onP e33)
      replace hf := castCT hb hf
      refine stP hf rfl rfl rfl (pPt rfl rfl) fun a hf => ?_
      replace hf := castV (v' := .bool ((((((((r_1.2 != 0) || (r_3.2.2 != 0)) || (r_8.2 != 0)) || (r_13.2 != 0)) || (!(r_1.1.Lo == r_14.Lo && r_1.1.Hi == r_14.Hi))) || (!r_15)) || (((r_3.2.1.length : Nat) : Int) != 0)) || (!(r_8.1.Lo == r_16.Lo && r_8.1.Hi == r_16.Hi)))) (congrArg Value.bool (orT hb)) hf
      refine cNil ?_
      refine xThenN ?_
      intro ds u hau
      refine ⟨θ, he.put0 hi hau hf rfl 43 rfl rfl, ?_⟩
      exact hc
    · have hf := he.h0
      replace hf := hf.more he 39 rfl (onP e30)
      replace hf := castB hb hf
      replace hf := hf.more he 42 rfl (onP e33)
      replace hf := castCF hb hf
      refine stP hf rfl rfl rfl (pPf rfl rfl) fun a hf => ?_
      replace hf := castV (v' := .bool ((((((((r_1.2 != 0) || (r_3.2.2 != 0)) || (r_8.2 != 0)) || (r_13.2 != 0)) || (!(r_1.1.Lo == r_14.Lo && r_1.1.Hi == r_14.Hi))) || (!r_15)) || (((r_3.2.1.length : Nat) : Int) != 0)) || (!(r_8.1.Lo == r_16.Lo && r_8.1.Hi == r_16.Hi)))) (congrArg Value.bool (orF hb)) hf
      refine cNil ?_
      refine xThenN ?_
      intro ds u hau
      refine ⟨θ, he.put0 hi hau hf rfl 43 rfl rfl, ?_⟩
      exact hc
  · intro E θ a w hD hi hp he hc
    have e34 := hp.of (k := 34) rfl
    have hf := he.h0
    replace hf := hf.more he 43 rfl (onP e34)
    refine stP hf rfl rfl rfl (pM rfl) fun a hf => ?_
    refine cNil ?_
    refine xThenN ?_
    intro ds u hau
    refine ⟨θ, he.put0 hi hau hf rfl 44 rfl rfl, ?_⟩
    exact hc
  · intro E θ a w hD hi hp he hc
    have e35 := hp.of (k := 35) rfl
    rcases boolEq ((((((((r_1.2 != 0) || (r_3.2.2 != 0)) || (r_8.2 != 0)) || (r_13.2 != 0)) || (!(r_1.1.Lo == r_14.Lo && r_1.1.Hi == r_14.Hi))) || (!r_15)) || (((r_3.2.1.length : Nat) : Int) != 0)) || (!(r_8.1.Lo == r_16.Lo && r_8.1.Hi == r_16.Hi))) with hb | hb
    · have hf := he.h0
      replace hf := hf.more he 7 rfl onT
      replace hf := hf.more he 44 rfl (onP e35)
      replace hf := castB hb hf
      refine stS hf rfl rfl rfl fun a hf => ?_
      replace hf := castI (u := .agg #[.int .i64 r_13.1.Lo, .int .i64 r_13.1.Hi]) hb hf
      refine cNil ?_
      refine xThenN ?_
      intro ds u hau
      refine ⟨θ, he.put0 hi hau hf rfl 45 rfl rfl, ?_⟩
      exact hc
    · have hf := he.h0
      replace hf := hf.more he 7 rfl onT
      replace hf := hf.more he 44 rfl (onP e35)
      replace hf := castB hb hf
      refine stE hf hc rfl rfl rfl (eLdN (vs := [.int .i64 r_13.1.Lo, .int .i64 r_13.1.Hi]) ag_24 rfl rfl (cells_box (n := 2) m1 rfl)) fun a w hf hc => ?_
      replace hf := castJ (u := undef) hb hf
      refine cNil ?_
      refine xThenN ?_
      intro ds u hau
      refine ⟨θ, he.put0 hi hau hf rfl 45 rfl rfl, ?_⟩
      exact hc
  · intro E θ a w hD hi hp he hc
    have e35 := hp.of (k := 35) rfl
    rcases boolEq ((((((((r_1.2 != 0) || (r_3.2.2 != 0)) || (r_8.2 != 0)) || (r_13.2 != 0)) || (!(r_1.1.Lo == r_14.Lo && r_1.1.Hi == r_14.Hi))) || (!r_15)) || (((r_3.2.1.length : Nat) : Int) != 0)) || (!(r_8.1.Lo == r_16.Lo && r_8.1.Hi == r_16.Hi))) with hb | hb
    · have hf := he.h0
      replace hf := hf.more he 44 rfl (onP e35)
      replace hf := castB hb hf
      refine stS hf rfl rfl rfl fun a hf => ?_
      replace hf := castI (u := .agg #[.int .i64 r_17.Lo, .int .i64 r_17.Hi]) hb hf
      refine cNil ?_
      refine xThenN ?_
      intro ds u hau
      refine ⟨θ, he.put0 hi hau hf rfl 46 rfl rfl, ?_⟩
      exact hc
    · have hf := he.h0
      replace hf := hf.more he 44 rfl (onP e35)
      replace hf := castB hb hf
      refine stE hf hc rfl rfl rfl (eC (v := .agg #[.int .i64 r_17.Lo, .int .i64 r_17.Hi]) (vs := [.int .i64 449, .int .i64 550]) (caps := []) en_14 rfl rfl rfl rfl (fun w hc => law03_span_ok 449 550 hc (condT (notT hb) hr_17))) fun a w hf hc => ?_
      replace hf := castJ (u := undef) hb hf
      refine cNil ?_
      refine xThenN ?_
      intro ds u hau
      refine ⟨θ, he.put0 hi hau hf rfl 46 rfl rfl, ?_⟩
      exact hc
  · intro E θ a w hD hi hp he hc
    have e35 := hp.of (k := 35) rfl
    have e36 := hp.of (k := 36) rfl
    have e37 := hp.of (k := 37) rfl
    rcases boolEq ((((((((r_1.2 != 0) || (r_3.2.2 != 0)) || (r_8.2 != 0)) || (r_13.2 != 0)) || (!(r_1.1.Lo == r_14.Lo && r_1.1.Hi == r_14.Hi))) || (!r_15)) || (((r_3.2.1.length : Nat) : Int) != 0)) || (!(r_8.1.Lo == r_16.Lo && r_8.1.Hi == r_16.Hi))) with hb | hb
    · have hf := he.h0
      replace hf := hf.more he 44 rfl (onP e35)
      replace hf := castB hb hf
      replace hf := hf.more he 45 rfl (onP e36)
      replace hf := castCT hb hf
      replace hf := hf.more he 46 rfl (onP e37)
      replace hf := castCT hb hf
      refine stS hf rfl rfl rfl fun a hf => ?_
      replace hf := castI (u := .bool (!(r_13.1.Lo == r_17.Lo && r_13.1.Hi == r_17.Hi))) hb hf
      refine cNil ?_
      refine xThenN ?_
      intro ds u hau
      refine ⟨θ, he.put0 hi hau hf rfl 47 rfl rfl, ?_⟩
      exact hc
    · have hf := he.h0
      replace hf := hf.more he 44 rfl (onP e35)
      replace hf := castB hb hf
      replace hf := hf.more he 45 rfl (onP e36)
      replace hf := castCF hb hf
      replace hf := hf.more he 46 rfl (onP e37)
      replace hf := castCF hb hf
      refine stP hf rfl rfl rfl (pNeA ge_24 rfl rfl (eqs_24 _ _ _ _)) fun a hf => ?_
      replace hf := castJ (u := undef) hb hf
      refine cNil ?_
      refine xThenN ?_
      intro ds u hau
      refine ⟨θ, he.put0 hi hau hf rfl 47 rfl rfl, ?_⟩
      exact hc
  · intro E θ a w hD hi hp he hc
    have e35 := hp.of (k := 35) rfl
    have e38 := hp.of (k := 38) rfl
    rcases boolEq ((((((((r_1.2 != 0) || (r_3.2.2 != 0)) || (r_8.2 != 0)) || (r_13.2 != 0)) || (!(r_1.1.Lo == r_14.Lo && r_1.1.Hi == r_14.Hi))) || (!r_15)) || (((r_3.2.1.length : Nat) : Int) != 0)) || (!(r_8.1.Lo == r_16.Lo && r_8.1.Hi == r_16.Hi))) with hb | hb
    · have hf := he.h0
      replace hf := hf.more he 44 rfl (onP e35)
      replace hf := castB hb hf
      replace hf := hf.more he 47 rfl (onP e38)
      replace hf := castCT hb hf
      refine stP hf rfl rfl rfl (pPt rfl rfl) fun a hf => ?_
      replace hf := castV (v' := .bool (((((((((r_1.2 != 0) || (r_3.2.2 != 0)) || (r_8.2 != 0)) || (r_13.2 != 0)) || (!(r_1.1.Lo == r_14.Lo && r_1.1.Hi == r_14.Hi))) || (!r_15)) || (((r_3.2.1.length : Nat) : Int) != 0)) || (!(r_8.1.Lo == r_16.Lo && r_8.1.Hi == r_16.Hi))) || (!(r_13.1.Lo == r_17.Lo && r_13.1.Hi == r_17.Hi)))) (congrArg Value.bool (orT hb)) hf
      refine cNil ?_
      refine xThenN ?_
      intro ds u hau
      refine ⟨θ, he.put0 hi hau hf rfl 48 rfl rfl, ?_⟩
      exact hc
    · have hf := he.h0
      replace hf := hf.more he 44 rfl (onP e35)
      replace hf := castB hb hf
      replace hf := hf.more he 47 rfl (onP e38)
      replace hf := castCF hb hf
      refine stP hf rfl rfl rfl (pPf rfl rfl) fun a hf => ?_
      replace hf := castV (v' := .bool (((((((((r_1.2 != 0) || (r_3.2.2 != 0)) || (r_8.2 != 0)) || (r_13.2 != 0)) || (!(r_1.1.Lo == r_14.Lo && r_1.1.Hi == r_14.Hi))) || (!r_15)) || (((r_3.2.1.length : Nat) : Int) != 0)) || (!(r_8.1.Lo == r_16.Lo && r_8.1.Hi == r_16.Hi))) || (!(r_13.1.Lo == r_17.Lo && r_13.1.Hi == r_17.Hi)))) (congrArg Value.bool (orF hb)) hf
      refine cNil ?_
      refine xThenN ?_
      intro ds u hau
      refine ⟨θ, he.put0 hi hau hf rfl 48 rfl rfl, ?_⟩
      exact hc
  · intro E θ a w hall he hc
    have hf := he.h0
    have e21 := hall 21 rfl
    have e39 := hall 39 rfl
    replace hf := hf.more he 48 rfl (onP e39)
    try dsimp only at hc
    rw [e21] at hc
    replace hc := hc.drop k0
    exact ⟨hf.keep ⟨rfl, trivial⟩, hc⟩
  rintro a w ⟨hf, hc⟩
  refine h8 _ _ ?_
  refine cCond (b := (((((((((r_1.2 != 0) || (r_3.2.2 != 0)) || (r_8.2 != 0)) || (r_13.2 != 0)) || (!(r_1.1.Lo == r_14.Lo && r_1.1.Hi == r_14.Hi))) || (!r_15)) || (((r_3.2.1.length : Nat) : Int) != 0)) || (!(r_8.1.Lo == r_16.Lo && r_8.1.Hi == r_16.Hi))) || (!(r_13.1.Lo == r_17.Lo && r_13.1.Hi == r_17.Hi)))) hf rfl (fun hb => ?_) (fun hb => ?_)
  · replace hF := condT hb hF
    clear hb
    refine wp_seq_k fun K9 h9 => ?_
    refine cReg ?_
    refine stP hf rfl rfl rfl (pA rfl) fun a hf => ?_
    refine cNil ?_
    refine h9 _ _ ?_
    refine wp_ret ?_
    refine xThenR ?_
    obtain rfl := Option.some.inj hF
    replace hc := hc.drop k8
    replace hc := hc.drop k7
    replace hc := hc.drop k6
    replace hc := hc.drop k5
    replace hc := hc.drop k4
    replace hc := hc.drop k3
    replace hc := hc.drop k2
    replace hc := hc.drop k1
    replace hc := hc.drop k0
    exact fnOut1 (by simp) rfl Try.results15 hf hc (show look _ 0 = _ from rfl) ⟨rfl, hc⟩
  · replace hF := condF hb hF
    clear hb
    refine wp_skip ?_
    refine h7 _ _ ?_
    refine wp_seq_k fun K10 h10 => ?_
    refine cReg ?_
    refine stP hf rfl rfl rfl (pBuildS (cells := [.int .i64 5, .int .i64 9]) bt_24 rfl rfl) fun a hf => ?_
    refine stP hf rfl rfl rfl (pBuildS (cells := [.int .i64 7, .int .i64 12]) bt_24 rfl rfl) fun a hf => ?_
    refine stP hf rfl rfl rfl (pBuildS (cells := [.int .i64 10, .int .i64 11]) bt_24 rfl rfl) fun a hf => ?_
    refine stBS (rows := ([(⟨5, 9⟩ : api_Span), (⟨7, 12⟩ : api_Span), (⟨10, 11⟩ : api_Span)] : List api_Span).map enc_api_Span) (vs := [(0, .agg #[.int .i64 5, .int .i64 9]), (1, .agg #[.int .i64 7, .int .i64 12]), (2, .agg #[.int .i64 10, .int .i64 11])]) hf hc rfl rfl sl_72 rfl ⟨rfl, rfl, rfl, rfl, rfl, rfl, rfl, rfl, rfl, trivial⟩ rfl rfl fun b_7 a w hf hc => ?_
    refine stP hf rfl rfl rfl (pA rfl) fun a hf => ?_
    refine cNil ?_
    refine h10 _ _ ?_
    refine wp_seq_k fun K11 h11 => ?_
    refine cReg ?_
    refine stP hf rfl rfl rfl (pM rfl) fun a hf => ?_
    obtain ⟨r_18, hr_18, hF⟩ := bnd_some hF
    refine stE hf hc rfl rfl rfl (eC (v := .tuple #[.int .i64 r_18.1, .int .i64 r_18.2.1, .int .i64 r_18.2.2]) (vs := [.slice (some ⟨b_7, 0, none⟩) 3 3]) (caps := []) en_47 rfl rfl rfl rfl (fun w hc => by obtain ⟨G1, hle1, hrd1, hc, hth1⟩ := lend hc k0; exact (gauge_Apart_ok ([(⟨5, 9⟩ : api_Span), (⟨7, 12⟩ : api_Span), (⟨10, 11⟩ : api_Span)] : List api_Span) hrd1 hc hr_18).mono fun e w h => ⟨h.1, ((hth1 _ _ h.2).unpick k0)⟩)) fun a w hf hc => ?_
    refine stP hf rfl rfl rfl (pM rfl) fun a hf => ?_
    refine stP hf rfl rfl rfl (pX rfl rfl) fun a hf => ?_
    refine stP hf rfl rfl rfl (pX rfl rfl) fun a hf => ?_
    refine stP hf rfl rfl rfl (pX rfl rfl) fun a hf => ?_
    refine stP hf rfl rfl rfl (pA rfl) fun a hf => ?_
    refine stP hf rfl rfl rfl (pA rfl) fun a hf => ?_
    refine stP hf rfl rfl rfl (pA rfl) fun a hf => ?_
    refine cNil ?_
    refine h11 _ _ ?_
    refine wp_seq_k fun K12 h12 => ?_
    refine cReg ?_
    refine stP hf rfl rfl rfl (pM rfl) fun a hf => ?_
    have qc := row_cap hc m0
    obtain ⟨sub, hsub, hF⟩ := bnd_some hF
    refine stP hf rfl rfl rfl (pSl Try.underlying72 sz_24 rfl rfl qc rfl rfl hsub) fun a hf => ?_
    obtain ⟨r_19, hr_19, hF⟩ := bnd_some hF
    refine stE hf hc rfl rfl rfl (eC (v := .tuple #[.agg #[.int .i64 r_19.1.Lo, .int .i64 r_19.1.Hi], .int .i64 r_19.2]) (vs := [.slice (subP (some ⟨b_7, 0, none⟩) 3 (0 : Int).toNat 2) sub.length (3 - (0 : Int).toNat)]) (caps := []) en_46 rfl rfl rfl rfl (fun w hc => by obtain ⟨G1, hle1, hrd1, hc, hth1⟩ := lend hc k0; exact (gauge_Common_ok sub (Rd.sub hrd1 hsub) hc hr_19).mono fun e w h => ⟨h.1, ((hth1 _ _ h.2).unpick k0)⟩)) fun a w hf hc => ?_
    refine stP hf rfl rfl rfl (pM rfl) fun a hf => ?_
    refine stP hf rfl rfl rfl (pX rfl rfl) fun a hf => ?_
    refine stP hf rfl rfl rfl (pX rfl rfl) fun a hf => ?_
    refine stAl (cs := [.int .i64 0, .int .i64 0]) hf hc rfl rfl zr_24 rfl fun b_8 a w hf hc => ?_
    refine stSt (vs := [.int .i64 r_19.1.Lo, .int .i64 r_19.1.Hi]) hf hc rfl rfl rfl rfl sz_24 rfl rfl u0 fun w hc => ?_
    refine stP hf rfl rfl rfl (pA rfl) fun a hf => ?_
    refine cNil ?_
    refine h12 _ _ ?_
    refine wp_seq_k fun K13 h13 => ?_
    refine cReg ?_
    obtain ⟨r_20, hr_20, hF⟩ := bnd_some hF
    refine stC (vs := []) (caps := []) hf rfl rfl rfl en_54 rfl rfl rfl rfl (law03_Three_ok hc hr_20) ?_
    rintro _ w ⟨p_5, c_5, rfl, hc⟩
    refine ⟨_, rfl, fun a hf => ?_⟩
    obtain ⟨r_21, hr_21, hF⟩ := bnd_some hF
    obtain ⟨G1, hle1, hrd1, hc, hth1⟩ := lend hc k0
    refine stC (vs := [.agg #[.int .i64 r_20.Left, .int .i64 r_20.Right, .int .i64 r_20.Gap, .int .i64 r_20.Step_, .slice p_5 r_20.Points.length c_5]]) (caps := []) hf rfl rfl rfl en_29 rfl rfl rfl rfl (gauge_Plan_ok r_20 hrd1 hc hr_21) ?_
    rintro _ w ⟨p_6, c_6, rfl, hc⟩
    refine ⟨_, rfl, fun a hf => ?_⟩
    replace hc := hth1 _ _ hc
    refine stP hf rfl rfl rfl (pM rfl) fun a hf => ?_
    refine stP hf rfl rfl rfl (pX rfl rfl) fun a hf => ?_
    refine stP hf rfl rfl rfl (pX rfl rfl) fun a hf => ?_
    refine stP hf rfl rfl rfl (pX rfl rfl) fun a hf => ?_
    refine stP hf rfl rfl rfl (pA rfl) fun a hf => ?_
    refine stP hf rfl rfl rfl (pA rfl) fun a hf => ?_
    refine stP hf rfl rfl rfl (pA rfl) fun a hf => ?_
    refine cNil ?_
    refine h13 _ _ ?_
    refine wp_seq_k fun K14 h14 => ?_
    refine cReg ?_
    obtain ⟨r_22, hr_22, hF⟩ := bnd_some hF
    refine stC (vs := []) (caps := []) hf rfl rfl rfl en_54 rfl rfl rfl rfl (law03_Three_ok hc hr_22) ?_
    rintro _ w ⟨p_7, c_7, rfl, hc⟩
    refine ⟨_, rfl, fun a hf => ?_⟩
    refine stBS (rows := ([0, 2, 3, 6, 6] : List Int).map encI_i64) (vs := [(0, .int .i64 0), (1, .int .i64 2), (2, .int .i64 3), (3, .int .i64 6), (4, .int .i64 6)]) hf hc rfl rfl sl_43 rfl ⟨rfl, rfl, rfl, rfl, rfl, rfl, rfl, rfl, rfl, rfl, rfl, rfl, rfl, rfl, rfl, trivial⟩ rfl rfl fun b_9 a w hf hc => ?_
    obtain ⟨r_23, hr_23, hF⟩ := bnd_some hF
    refine stE hf hc rfl rfl rfl (eC (v := .tuple #[.bool r_23.1, .int .i64 r_23.2]) (vs := [.agg #[.int .i64 r_22.Left, .int .i64 r_22.Right, .int .i64 r_22.Gap, .int .i64 r_22.Step_, .slice p_7 r_22.Points.length c_7], .slice (some ⟨b_9, 0, none⟩) 5 5, .int .i64 6]) (caps := []) en_44 rfl rfl rfl rfl (fun w hc => by obtain ⟨G1, hle1, hrd1, hc, hth1⟩ := lend hc k1; obtain ⟨G2, hle2, hrd2, hc, hth2⟩ := lend hc k0; exact (gauge_Proves_ok r_22 ([0, 2, 3, 6, 6] : List Int) 6 (hrd1.mono hle2) hrd2 hc hr_23).mono fun e w h => ⟨h.1, ((hth1 _ _ ((hth2 _ _ h.2).unpick k0)).unpick k1)⟩)) fun a w hf hc => ?_
    refine stP hf rfl rfl rfl (pM rfl) fun a hf => ?_
    refine stP hf rfl rfl rfl (pX rfl rfl) fun a hf => ?_
    refine stP hf rfl rfl rfl (pX rfl rfl) fun a hf => ?_
    refine stP hf rfl rfl rfl (pA rfl) fun a hf => ?_
    refine stP hf rfl rfl rfl (pA rfl) fun a hf => ?_
    refine cNil ?_
    refine h14 _ _ ?_
    refine wp_seq_k fun K15 h15 => ?_
    obtain ⟨r_24, hr_24, hF⟩ := bnd_some hF
    obtain ⟨r_25, hr_25, hF⟩ := bnd_some hF
    replace hc := hc.nilRow 0 0
    refine regionE (fun θ => (⟨none, none, 2, .int .i64 r_18.2.2⟩ :: ⟨none, none, 5, .int .i64 r_19.2⟩ :: ⟨none, none, 8, .int .i64 r_21.2.2⟩ :: ⟨none, none, 10, .int .i64 r_23.2⟩ :: ⟨none, none, 12, .int .i64 r_18.1⟩ :: ⟨none, none, 13, .int .i64 r_18.2.1⟩ :: ⟨none, none, 14, .pointer (some ⟨b_8, 0, none⟩)⟩ :: ⟨none, none, 15, .slice p_6 r_21.1.length c_6⟩ :: ⟨none, none, 16, .int .i64 r_21.2.1⟩ :: ⟨none, none, 17, .bool r_23.1⟩ :: ⟨some 0, none, 117, .int .i64 r_18.2.2⟩ :: ⟨some 1, none, 118, .bool (r_18.2.2 == 0)⟩ :: ⟨some 2, none, 119, .bool (r_18.2.2 == 0)⟩ :: ⟨some 3, none, 120, (bif (r_18.2.2 == 0) then .int .i64 r_19.2 else undef)⟩ :: ⟨some 4, none, 121, (bif (r_18.2.2 == 0) then .bool (r_19.2 == 0) else undef)⟩ :: ⟨some 5, none, 122, .bool ((r_18.2.2 == 0) && (r_19.2 == 0))⟩ :: ⟨some 6, none, 123, .bool ((r_18.2.2 == 0) && (r_19.2 == 0))⟩ :: ⟨some 7, none, 124, (bif ((r_18.2.2 == 0) && (r_19.2 == 0)) then .int .i64 r_21.2.2 else undef)⟩ :: ⟨some 8, none, 125, (bif ((r_18.2.2 == 0) && (r_19.2 == 0)) then .bool (r_21.2.2 == 0) else undef)⟩ :: ⟨some 9, none, 126, .bool (((r_18.2.2 == 0) && (r_19.2 == 0)) && (r_21.2.2 == 0))⟩ :: ⟨some 10, none, 127, .bool (((r_18.2.2 == 0) && (r_19.2 == 0)) && (r_21.2.2 == 0))⟩ :: ⟨some 11, none, 128, (bif (((r_18.2.2 == 0) && (r_19.2 == 0)) && (r_21.2.2 == 0)) then .int .i64 r_23.2 else undef)⟩ :: ⟨some 12, none, 129, (bif (((r_18.2.2 == 0) && (r_19.2 == 0)) && (r_21.2.2 == 0)) then .bool (r_23.2 == 0) else undef)⟩ :: ⟨some 13, none, 130, .bool ((((r_18.2.2 == 0) && (r_19.2 == 0)) && (r_21.2.2 == 0)) && (r_23.2 == 0))⟩ :: ⟨some 14, none, 131, .bool ((((r_18.2.2 == 0) && (r_19.2 == 0)) && (r_21.2.2 == 0)) && (r_23.2 == 0))⟩ :: ⟨some 15, none, 132, (bif ((((r_18.2.2 == 0) && (r_19.2 == 0)) && (r_21.2.2 == 0)) && (r_23.2 == 0)) then .int .i64 r_18.1 else undef)⟩ :: ⟨some 16, none, 133, (bif ((((r_18.2.2 == 0) && (r_19.2 == 0)) && (r_21.2.2 == 0)) && (r_23.2 == 0)) then .bool (r_18.1 == 0) else undef)⟩ :: ⟨some 17, none, 134, .bool (((((r_18.2.2 == 0) && (r_19.2 == 0)) && (r_21.2.2 == 0)) && (r_23.2 == 0)) && (r_18.1 == 0))⟩ :: ⟨some 18, none, 135, .bool (((((r_18.2.2 == 0) && (r_19.2 == 0)) && (r_21.2.2 == 0)) && (r_23.2 == 0)) && (r_18.1 == 0))⟩ :: ⟨some 19, none, 136, (bif (((((r_18.2.2 == 0) && (r_19.2 == 0)) && (r_21.2.2 == 0)) && (r_23.2 == 0)) && (r_18.1 == 0)) then .int .i64 r_18.2.1 else undef)⟩ :: ⟨some 20, none, 137, (bif (((((r_18.2.2 == 0) && (r_19.2 == 0)) && (r_21.2.2 == 0)) && (r_23.2 == 0)) && (r_18.1 == 0)) then .bool (r_18.2.1 == 2) else undef)⟩ :: ⟨some 21, none, 138, .bool ((((((r_18.2.2 == 0) && (r_19.2 == 0)) && (r_21.2.2 == 0)) && (r_23.2 == 0)) && (r_18.1 == 0)) && (r_18.2.1 == 2))⟩ :: ⟨some 22, none, 139, .bool ((((((r_18.2.2 == 0) && (r_19.2 == 0)) && (r_21.2.2 == 0)) && (r_23.2 == 0)) && (r_18.1 == 0)) && (r_18.2.1 == 2))⟩ :: ⟨some 23, none, 140, (bif ((((((r_18.2.2 == 0) && (r_19.2 == 0)) && (r_21.2.2 == 0)) && (r_23.2 == 0)) && (r_18.1 == 0)) && (r_18.2.1 == 2)) then .agg #[.int .i64 r_19.1.Lo, .int .i64 r_19.1.Hi] else undef)⟩ :: ⟨some 24, none, 141, (bif ((((((r_18.2.2 == 0) && (r_19.2 == 0)) && (r_21.2.2 == 0)) && (r_23.2 == 0)) && (r_18.1 == 0)) && (r_18.2.1 == 2)) then .agg #[.int .i64 r_24.Lo, .int .i64 r_24.Hi] else undef)⟩ :: ⟨some 25, none, 142, (bif ((((((r_18.2.2 == 0) && (r_19.2 == 0)) && (r_21.2.2 == 0)) && (r_23.2 == 0)) && (r_18.1 == 0)) && (r_18.2.1 == 2)) then .bool (r_19.1.Lo == r_24.Lo && r_19.1.Hi == r_24.Hi) else undef)⟩ :: ⟨some 26, none, 143, .bool (((((((r_18.2.2 == 0) && (r_19.2 == 0)) && (r_21.2.2 == 0)) && (r_23.2 == 0)) && (r_18.1 == 0)) && (r_18.2.1 == 2)) && (r_19.1.Lo == r_24.Lo && r_19.1.Hi == r_24.Hi))⟩ :: ⟨some 27, none, 144, .bool (((((((r_18.2.2 == 0) && (r_19.2 == 0)) && (r_21.2.2 == 0)) && (r_23.2 == 0)) && (r_18.1 == 0)) && (r_18.2.1 == 2)) && (r_19.1.Lo == r_24.Lo && r_19.1.Hi == r_24.Hi))⟩ :: ⟨some 28, none, 145, (bif (((((((r_18.2.2 == 0) && (r_19.2 == 0)) && (r_21.2.2 == 0)) && (r_23.2 == 0)) && (r_18.1 == 0)) && (r_18.2.1 == 2)) && (r_19.1.Lo == r_24.Lo && r_19.1.Hi == r_24.Hi)) then .slice p_6 r_21.1.length c_6 else undef)⟩ :: ⟨some 29, none, 146, (bif (((((((r_18.2.2 == 0) && (r_19.2 == 0)) && (r_21.2.2 == 0)) && (r_23.2 == 0)) && (r_18.1 == 0)) && (r_18.2.1 == 2)) && (r_19.1.Lo == r_24.Lo && r_19.1.Hi == r_24.Hi)) then .slice (some ⟨(θ 232).b, 0, none⟩) 2 2 else undef)⟩ :: ⟨some 30, none, 147, (bif (((((((r_18.2.2 == 0) && (r_19.2 == 0)) && (r_21.2.2 == 0)) && (r_23.2 == 0)) && (r_18.1 == 0)) && (r_18.2.1 == 2)) && (r_19.1.Lo == r_24.Lo && r_19.1.Hi == r_24.Hi)) then .bool r_25 else undef)⟩ :: ⟨some 31, none, 148, .bool ((((((((r_18.2.2 == 0) && (r_19.2 == 0)) && (r_21.2.2 == 0)) && (r_23.2 == 0)) && (r_18.1 == 0)) && (r_18.2.1 == 2)) && (r_19.1.Lo == r_24.Lo && r_19.1.Hi == r_24.Hi)) && r_25)⟩ :: ⟨some 32, none, 149, .bool ((((((((r_18.2.2 == 0) && (r_19.2 == 0)) && (r_21.2.2 == 0)) && (r_23.2 == 0)) && (r_18.1 == 0)) && (r_18.2.1 == 2)) && (r_19.1.Lo == r_24.Lo && r_19.1.Hi == r_24.Hi)) && r_25)⟩ :: ⟨some 33, none, 150, (bif ((((((((r_18.2.2 == 0) && (r_19.2 == 0)) && (r_21.2.2 == 0)) && (r_23.2 == 0)) && (r_18.1 == 0)) && (r_18.2.1 == 2)) && (r_19.1.Lo == r_24.Lo && r_19.1.Hi == r_24.Hi)) && r_25) then .int .i64 r_21.2.1 else undef)⟩ :: ⟨some 34, none, 151, (bif ((((((((r_18.2.2 == 0) && (r_19.2 == 0)) && (r_21.2.2 == 0)) && (r_23.2 == 0)) && (r_18.1 == 0)) && (r_18.2.1 == 2)) && (r_19.1.Lo == r_24.Lo && r_19.1.Hi == r_24.Hi)) && r_25) then .bool (r_21.2.1 == 6) else undef)⟩ :: ⟨some 35, none, 152, .bool (((((((((r_18.2.2 == 0) && (r_19.2 == 0)) && (r_21.2.2 == 0)) && (r_23.2 == 0)) && (r_18.1 == 0)) && (r_18.2.1 == 2)) && (r_19.1.Lo == r_24.Lo && r_19.1.Hi == r_24.Hi)) && r_25) && (r_21.2.1 == 6))⟩ :: ⟨some 36, none, 153, .bool (((((((((r_18.2.2 == 0) && (r_19.2 == 0)) && (r_21.2.2 == 0)) && (r_23.2 == 0)) && (r_18.1 == 0)) && (r_18.2.1 == 2)) && (r_19.1.Lo == r_24.Lo && r_19.1.Hi == r_24.Hi)) && r_25) && (r_21.2.1 == 6))⟩ :: ⟨some 37, none, 154, (bif (((((((((r_18.2.2 == 0) && (r_19.2 == 0)) && (r_21.2.2 == 0)) && (r_23.2 == 0)) && (r_18.1 == 0)) && (r_18.2.1 == 2)) && (r_19.1.Lo == r_24.Lo && r_19.1.Hi == r_24.Hi)) && r_25) && (r_21.2.1 == 6)) then .bool r_23.1 else undef)⟩ :: ⟨some 38, none, 155, .bool ((((((((((r_18.2.2 == 0) && (r_19.2 == 0)) && (r_21.2.2 == 0)) && (r_23.2 == 0)) && (r_18.1 == 0)) && (r_18.2.1 == 2)) && (r_19.1.Lo == r_24.Lo && r_19.1.Hi == r_24.Hi)) && r_25) && (r_21.2.1 == 6)) && r_23.1)⟩ :: ⟨some 39, none, 0, .bool ((((((((((r_18.2.2 == 0) && (r_19.2 == 0)) && (r_21.2.2 == 0)) && (r_23.2 == 0)) && (r_18.1 == 0)) && (r_18.2.1 == 2)) && (r_19.1.Lo == r_24.Lo && r_19.1.Hi == r_24.Hi)) && r_25) && (r_21.2.1 == 6)) && r_23.1)⟩ :: [])) (fun E θ => (bif E 29 then (gE (((((((r_18.2.2 == 0) && (r_19.2 == 0)) && (r_21.2.2 == 0)) && (r_23.2 == 0)) && (r_18.1 == 0)) && (r_18.2.1 == 2)) && (r_19.1.Lo == r_24.Lo && r_19.1.Hi == r_24.Hi)) (.row (some ⟨(θ 232).b, 0, none⟩) 2 (([1, 3] : List Int).map encI_i64) 3 1)) else .row none 0 [] 0 0) :: .row (some ⟨b_9, 0, none⟩) 5 (([0, 2, 3, 6, 6] : List Int).map encI_i64) 3 1 :: .row p_7 c_7 (r_22.Points.map enc_gauge_Point) 64 3 :: .row p_5 c_5 (r_20.Points.map enc_gauge_Point) 64 3 :: .row p_6 c_6 (r_21.1.map encI_i64) 3 1 :: .box b_8 [.int .i64 r_19.1.Lo, .int .i64 r_19.1.Hi] 24 :: .row (some ⟨b_7, 0, none⟩) 3 (([(⟨5, 9⟩ : api_Span), (⟨7, 12⟩ : api_Span), (⟨10, 11⟩ : api_Span)] : List api_Span).map enc_api_Span) 24 2 :: .box b_5 [.int .i64 r_13.1.Lo, .int .i64 r_13.1.Hi] 24 :: .box b_4 [.int .i64 r_8.1.Lo, .int .i64 r_8.1.Hi] 24 :: .row (some ⟨b_3, 0, none⟩) 1 (([(⟨(⟨0, 0⟩ : api_Span), r_4, r_5, r_6, r_7⟩ : gauge_Leg)] : List gauge_Leg).map enc_gauge_Leg) 40 10 :: .box b_2 [.int .i64 0, .int .i64 0, .int .i64 r_4.Lo, .int .i64 r_4.Hi, .int .i64 r_5.Lo, .int .i64 r_5.Hi, .int .i64 r_6.Lo, .int .i64 r_6.Hi, .int .i64 r_7.Lo, .int .i64 r_7.Hi] 40 :: .row p_2 c_2 (r_2.Verticals.map enc_gauge_Vertical) 61 5 :: .row p_3 c_3 (r_3.1.map encI_i64) 3 1 :: .row p_4 c_4 (r_3.2.1.map encI_i64) 3 1 :: .box b_1 [.int .i64 r_1.1.Lo, .int .i64 r_1.1.Hi] 24 :: .row p_1 c_1 (r.Verticals.map enc_gauge_Vertical) 61 5 :: Lf) [] (fun a w => Has 156 a [(0, .bool ((((((((((r_18.2.2 == 0) && (r_19.2 == 0)) && (r_21.2.2 == 0)) && (r_23.2 == 0)) && (r_18.1 == 0)) && (r_18.2.1 == 2)) && (r_19.1.Lo == r_24.Lo && r_19.1.Hi == r_24.Hi)) && r_25) && (r_21.2.1 == 6)) && r_23.1))] ∧ Ctx G (.row (some ⟨b_9, 0, none⟩) 5 (([0, 2, 3, 6, 6] : List Int).map encI_i64) 3 1 :: .row p_7 c_7 (r_22.Points.map enc_gauge_Point) 64 3 :: .row p_5 c_5 (r_20.Points.map enc_gauge_Point) 64 3 :: .row p_6 c_6 (r_21.1.map encI_i64) 3 1 :: .box b_8 [.int .i64 r_19.1.Lo, .int .i64 r_19.1.Hi] 24 :: .row (some ⟨b_7, 0, none⟩) 3 (([(⟨5, 9⟩ : api_Span), (⟨7, 12⟩ : api_Span), (⟨10, 11⟩ : api_Span)] : List api_Span).map enc_api_Span) 24 2 :: .box b_5 [.int .i64 r_13.1.Lo, .int .i64 r_13.1.Hi] 24 :: .box b_4 [.int .i64 r_8.1.Lo, .int .i64 r_8.1.Hi] 24 :: .row (some ⟨b_3, 0, none⟩) 1 (([(⟨(⟨0, 0⟩ : api_Span), r_4, r_5, r_6, r_7⟩ : gauge_Leg)] : List gauge_Leg).map enc_gauge_Leg) 40 10 :: .box b_2 [.int .i64 0, .int .i64 0, .int .i64 r_4.Lo, .int .i64 r_4.Hi, .int .i64 r_5.Lo, .int .i64 r_5.Hi, .int .i64 r_6.Lo, .int .i64 r_6.Hi, .int .i64 r_7.Lo, .int .i64 r_7.Hi] 40 :: .row p_2 c_2 (r_2.Verticals.map enc_gauge_Vertical) 61 5 :: .row p_3 c_3 (r_3.1.map encI_i64) 3 1 :: .row p_4 c_4 (r_3.2.1.map encI_i64) 3 1 :: .box b_1 [.int .i64 r_1.1.Lo, .int .i64 r_1.1.Hi] 24 :: .row p_1 c_1 (r.Verticals.map enc_gauge_Vertical) 61 5 :: Lf) w) follows_mx (by kernel_rfl) (by kernel_rfl) (HasE.of hf ⟨rfl, rfl, rfl, rfl, rfl, rfl, rfl, rfl, rfl, rfl, trivial, trivial, trivial, trivial, trivial, trivial, trivial, trivial, trivial, trivial, trivial, trivial, trivial, trivial, trivial, trivial, trivial, trivial, trivial, trivial, trivial, trivial, trivial, trivial, trivial, trivial, trivial, trivial, trivial, trivial, trivial, trivial, trivial, trivial, trivial, trivial, trivial, trivial, trivial, trivial, trivial⟩) hc ⟨?_, ?_, ?_, ?_, ?_, ?_, ?_, ?_, ?_, ?_, ?_, ?_, ?_, ?_, ?_, ?_, ?_, ?_, ?_, ?_, ?_, ?_, ?_, ?_, ?_, ?_, ?_, ?_, ?_, ?_, ?_, ?_, ?_, ?_, ?_, ?_, ?_, ?_, ?_, ?_, trivial⟩ ?_ ?_
    · intro E θ a w hD hi hp he hc
      have hf := he.h0
      replace hf := hf.more he 0 rfl onT
      refine stP hf rfl rfl rfl (pM rfl) fun a hf => ?_
      refine cNil ?_
      refine xThenN ?_
      intro ds u hau
      refine ⟨θ, he.put0 hi hau hf rfl 10 rfl rfl, ?_⟩
      exact hc
    · intro E θ a w hD hi hp he hc
      have e0 := hp.of (k := 0) rfl
      have hf := he.h0
      replace hf := hf.more he 10 rfl (onP e0)
      refine stP hf rfl rfl rfl (pEq rfl rfl) fun a hf => ?_
      refine cNil ?_
      refine xThenN ?_
      intro ds u hau
      refine ⟨θ, he.put0 hi hau hf rfl 11 rfl rfl, ?_⟩
      exact hc
    · intro E θ a w hD hi hp he hc
      have e1 := hp.of (k := 1) rfl
      have hf := he.h0
      replace hf := hf.more he 11 rfl (onP e1)
      refine stP hf rfl rfl rfl (pM rfl) fun a hf => ?_
      refine cNil ?_
      refine xThenN ?_
      intro ds u hau
      refine ⟨θ, he.put0 hi hau hf rfl 12 rfl rfl, ?_⟩
      exact hc
    · intro E θ a w hD hi hp he hc
      have e2 := hp.of (k := 2) rfl
      rcases boolEq (r_18.2.2 == 0) with hb | hb
      · have hf := he.h0
        replace hf := hf.more he 1 rfl onT
        replace hf := hf.more he 12 rfl (onP e2)
        replace hf := castB hb hf
        refine stP hf rfl rfl rfl (pM rfl) fun a hf => ?_
        replace hf := castI (u := undef) hb hf
        refine cNil ?_
        refine xThenN ?_
        intro ds u hau
        refine ⟨θ, he.put0 hi hau hf rfl 13 rfl rfl, ?_⟩
        exact hc
      · have hf := he.h0
        replace hf := hf.more he 1 rfl onT
        replace hf := hf.more he 12 rfl (onP e2)
        replace hf := castB hb hf
        refine stS hf rfl rfl rfl fun a hf => ?_
        replace hf := castJ (u := .int .i64 r_19.2) hb hf
        refine cNil ?_
        refine xThenN ?_
        intro ds u hau
        refine ⟨θ, he.put0 hi hau hf rfl 13 rfl rfl, ?_⟩
        exact hc
    · intro E θ a w hD hi hp he hc
      have e2 := hp.of (k := 2) rfl
      have e3 := hp.of (k := 3) rfl
      rcases boolEq (r_18.2.2 == 0) with hb | hb
      · have hf := he.h0
        replace hf := hf.more he 12 rfl (onP e2)
        replace hf := castB hb hf
        replace hf := hf.more he 13 rfl (onP e3)
        replace hf := castCT hb hf
        refine stP hf rfl rfl rfl (pEq rfl rfl) fun a hf => ?_
        replace hf := castI (u := undef) hb hf
        refine cNil ?_
        refine xThenN ?_
        intro ds u hau
        refine ⟨θ, he.put0 hi hau hf rfl 14 rfl rfl, ?_⟩
        exact hc
      · have hf := he.h0
        replace hf := hf.more he 12 rfl (onP e2)
        replace hf := castB hb hf
        replace hf := hf.more he 13 rfl (onP e3)
        replace hf := castCF hb hf
        refine stS hf rfl rfl rfl fun a hf => ?_
        replace hf := castJ (u := .bool (r_19.2 == 0)) hb hf
        refine cNil ?_
        refine xThenN ?_
        intro ds u hau
        refine ⟨θ, he.put0 hi hau hf rfl 14 rfl rfl, ?_⟩
        exact hc
    · intro E θ a w hD hi hp he hc
      have e2 := hp.of (k := 2) rfl
      have e4 := hp.of (k := 4) rfl
      rcases boolEq (r_18.2.2 == 0) with hb | hb
      · have hf := he.h0
        replace hf := hf.more he 12 rfl (onP e2)
        replace hf := castB hb hf
        replace hf := hf.more he 14 rfl (onP e4)
        replace hf := castCT hb hf
        refine stP hf rfl rfl rfl (pPt rfl rfl) fun a hf => ?_
        replace hf := castV (v' := .bool ((r_18.2.2 == 0) && (r_19.2 == 0))) (congrArg Value.bool (andT hb)) hf
        refine cNil ?_
        refine xThenN ?_
        intro ds u hau
        refine ⟨θ, he.put0 hi hau hf rfl 15 rfl rfl, ?_⟩
        exact hc
      · have hf := he.h0
        replace hf := hf.more he 12 rfl (onP e2)
        replace hf := castB hb hf
        replace hf := hf.more he 14 rfl (onP e4)
        replace hf := castCF hb hf
        refine stP hf rfl rfl rfl (pPf rfl rfl) fun a hf => ?_
        replace hf := castV (v' := .bool ((r_18.2.2 == 0) && (r_19.2 == 0))) (congrArg Value.bool (andF hb)) hf
        refine cNil ?_
        refine xThenN ?_
        intro ds u hau
        refine ⟨θ, he.put0 hi hau hf rfl 15 rfl rfl, ?_⟩
        exact hc
    · intro E θ a w hD hi hp he hc
      have e5 := hp.of (k := 5) rfl
      have hf := he.h0
      replace hf := hf.more he 15 rfl (onP e5)
      refine stP hf rfl rfl rfl (pM rfl) fun a hf => ?_
      refine cNil ?_
      refine xThenN ?_
      intro ds u hau
      refine ⟨θ, he.put0 hi hau hf rfl 16 rfl rfl, ?_⟩
      exact hc
    · intro E θ a w hD hi hp he hc
      have e6 := hp.of (k := 6) rfl
      rcases boolEq ((r_18.2.2 == 0) && (r_19.2 == 0)) with hb | hb
      · have hf := he.h0
        replace hf := hf.more he 2 rfl onT
        replace hf := hf.more he 16 rfl (onP e6)
        replace hf := castB hb hf
        refine stP hf rfl rfl rfl (pM rfl) fun a hf => ?_
        replace hf := castI (u := undef) hb hf
        refine cNil ?_
        refine xThenN ?_
        intro ds u hau
        refine ⟨θ, he.put0 hi hau hf rfl 17 rfl rfl, ?_⟩
        exact hc
      · have hf := he.h0
        replace hf := hf.more he 2 rfl onT
        replace hf := hf.more he 16 rfl (onP e6)
        replace hf := castB hb hf
        refine stS hf rfl rfl rfl fun a hf => ?_
        replace hf := castJ (u := .int .i64 r_21.2.2) hb hf
        refine cNil ?_
        refine xThenN ?_
        intro ds u hau
        refine ⟨θ, he.put0 hi hau hf rfl 17 rfl rfl, ?_⟩
        exact hc
    · intro E θ a w hD hi hp he hc
      have e6 := hp.of (k := 6) rfl
      have e7 := hp.of (k := 7) rfl
      rcases boolEq ((r_18.2.2 == 0) && (r_19.2 == 0)) with hb | hb
      · have hf := he.h0
        replace hf := hf.more he 16 rfl (onP e6)
        replace hf := castB hb hf
        replace hf := hf.more he 17 rfl (onP e7)
        replace hf := castCT hb hf
        refine stP hf rfl rfl rfl (pEq rfl rfl) fun a hf => ?_
        replace hf := castI (u := undef) hb hf
        refine cNil ?_
        refine xThenN ?_
        intro ds u hau
        refine ⟨θ, he.put0 hi hau hf rfl 18 rfl rfl, ?_⟩
        exact hc
      · have hf := he.h0
        replace hf := hf.more he 16 rfl (onP e6)
        replace hf := castB hb hf
        replace hf := hf.more he 17 rfl (onP e7)
        replace hf := castCF hb hf
        refine stS hf rfl rfl rfl fun a hf => ?_
        replace hf := castJ (u := .bool (r_21.2.2 == 0)) hb hf
        refine cNil ?_
        refine xThenN ?_
        intro ds u hau
        refine ⟨θ, he.put0 hi hau hf rfl 18 rfl rfl, ?_⟩
        exact hc
    · intro E θ a w hD hi hp he hc
      have e6 := hp.of (k := 6) rfl
      have e8 := hp.of (k := 8) rfl
      rcases boolEq ((r_18.2.2 == 0) && (r_19.2 == 0)) with hb | hb
      · have hf := he.h0
        replace hf := hf.more he 16 rfl (onP e6)
        replace hf := castB hb hf
        replace hf := hf.more he 18 rfl (onP e8)
        replace hf := castCT hb hf
        refine stP hf rfl rfl rfl (pPt rfl rfl) fun a hf => ?_
        replace hf := castV (v' := .bool (((r_18.2.2 == 0) && (r_19.2 == 0)) && (r_21.2.2 == 0))) (congrArg Value.bool (andT hb)) hf
        refine cNil ?_
        refine xThenN ?_
        intro ds u hau
        refine ⟨θ, he.put0 hi hau hf rfl 19 rfl rfl, ?_⟩
        exact hc
      · have hf := he.h0
        replace hf := hf.more he 16 rfl (onP e6)
        replace hf := castB hb hf
        replace hf := hf.more he 18 rfl (onP e8)
        replace hf := castCF hb hf
        refine stP hf rfl rfl rfl (pPf rfl rfl) fun a hf => ?_
        replace hf := castV (v' := .bool (((r_18.2.2 == 0) && (r_19.2 == 0)) && (r_21.2.2 == 0))) (congrArg Value.bool (andF hb)) hf
        refine cNil ?_
        refine xThenN ?_
        intro ds u hau
        refine ⟨θ, he.put0 hi hau hf rfl 19 rfl rfl, ?_⟩
        exact hc
    · intro E θ a w hD hi hp he hc
      have e9 := hp.of (k := 9) rfl
      have hf := he.h0
      replace hf := hf.more he 19 rfl (onP e9)
      refine stP hf rfl rfl rfl (pM rfl) fun a hf => ?_
      refine cNil ?_
      refine xThenN ?_
      intro ds u hau
      refine ⟨θ, he.put0 hi hau hf rfl 20 rfl rfl, ?_⟩
      exact hc
    · intro E θ a w hD hi hp he hc
      have e10 := hp.of (k := 10) rfl
      rcases boolEq (((r_18.2.2 == 0) && (r_19.2 == 0)) && (r_21.2.2 == 0)) with hb | hb
      · have hf := he.h0
        replace hf := hf.more he 3 rfl onT
        replace hf := hf.more he 20 rfl (onP e10)
        replace hf := castB hb hf
        refine stP hf rfl rfl rfl (pM rfl) fun a hf => ?_
        replace hf := castI (u := undef) hb hf
        refine cNil ?_
        refine xThenN ?_
        intro ds u hau
        refine ⟨θ, he.put0 hi hau hf rfl 21 rfl rfl, ?_⟩
        exact hc
      · have hf := he.h0
        replace hf := hf.more he 3 rfl onT
        replace hf := hf.more he 20 rfl (onP e10)
        replace hf := castB hb hf
        refine stS hf rfl rfl rfl fun a hf => ?_
        replace hf := castJ (u := .int .i64 r_23.2) hb hf
        refine cNil ?_
        refine xThenN ?_
        intro ds u hau
        refine ⟨θ, he.put0 hi hau hf rfl 21 rfl rfl, ?_⟩
        exact hc
    · intro E θ a w hD hi hp he hc
      have e10 := hp.of (k := 10) rfl
      have e11 := hp.of (k := 11) rfl
      rcases boolEq (((r_18.2.2 == 0) && (r_19.2 == 0)) && (r_21.2.2 == 0)) with hb | hb
      · have hf := he.h0
        replace hf := hf.more he 20 rfl (onP e10)
        replace hf := castB hb hf
        replace hf := hf.more he 21 rfl (onP e11)
        replace hf := castCT hb hf
        refine stP hf rfl rfl rfl (pEq rfl rfl) fun a hf => ?_
        replace hf := castI (u := undef) hb hf
        refine cNil ?_
        refine xThenN ?_
        intro ds u hau
        refine ⟨θ, he.put0 hi hau hf rfl 22 rfl rfl, ?_⟩
        exact hc
      · have hf := he.h0
        replace hf := hf.more he 20 rfl (onP e10)
        replace hf := castB hb hf
        replace hf := hf.more he 21 rfl (onP e11)
        replace hf := castCF hb hf
        refine stS hf rfl rfl rfl fun a hf => ?_
        replace hf := castJ (u := .bool (r_23.2 == 0)) hb hf
        refine cNil ?_
        refine xThenN ?_
        intro ds u hau
        refine ⟨θ, he.put0 hi hau hf rfl 22 rfl rfl, ?_⟩
        exact hc
    · intro E θ a w hD hi hp he hc
      have e10 := hp.of (k := 10) rfl
      have e12 := hp.of (k := 12) rfl
      rcases boolEq (((r_18.2.2 == 0) && (r_19.2 == 0)) && (r_21.2.2 == 0)) with hb | hb
      · have hf := he.h0
        replace hf := hf.more he 20 rfl (onP e10)
        replace hf := castB hb hf
        replace hf := hf.more he 22 rfl (onP e12)
        replace hf := castCT hb hf
        refine stP hf rfl rfl rfl (pPt rfl rfl) fun a hf => ?_
        replace hf := castV (v' := .bool ((((r_18.2.2 == 0) && (r_19.2 == 0)) && (r_21.2.2 == 0)) && (r_23.2 == 0))) (congrArg Value.bool (andT hb)) hf
        refine cNil ?_
        refine xThenN ?_
        intro ds u hau
        refine ⟨θ, he.put0 hi hau hf rfl 23 rfl rfl, ?_⟩
        exact hc
      · have hf := he.h0
        replace hf := hf.more he 20 rfl (onP e10)
        replace hf := castB hb hf
        replace hf := hf.more he 22 rfl (onP e12)
        replace hf := castCF hb hf
        refine stP hf rfl rfl rfl (pPf rfl rfl) fun a hf => ?_
        replace hf := castV (v' := .bool ((((r_18.2.2 == 0) && (r_19.2 == 0)) && (r_21.2.2 == 0)) && (r_23.2 == 0))) (congrArg Value.bool (andF hb)) hf
        refine cNil ?_
        refine xThenN ?_
        intro ds u hau
        refine ⟨θ, he.put0 hi hau hf rfl 23 rfl rfl, ?_⟩
        exact hc
    · intro E θ a w hD hi hp he hc
      have e13 := hp.of (k := 13) rfl
      have hf := he.h0
      replace hf := hf.more he 23 rfl (onP e13)
      refine stP hf rfl rfl rfl (pM rfl) fun a hf => ?_
      refine cNil ?_
      refine xThenN ?_
      intro ds u hau
      refine ⟨θ, he.put0 hi hau hf rfl 24 rfl rfl, ?_⟩
      exact hc
    · intro E θ a w hD hi hp he hc
      have e14 := hp.of (k := 14) rfl
      rcases boolEq ((((r_18.2.2 == 0) && (r_19.2 == 0)) && (r_21.2.2 == 0)) && (r_23.2 == 0)) with hb | hb
      · have hf := he.h0
        replace hf := hf.more he 4 rfl onT
        replace hf := hf.more he 24 rfl (onP e14)
        replace hf := castB hb hf
        refine stP hf rfl rfl rfl (pM rfl) fun a hf => ?_
        replace hf := castI (u := undef) hb hf
        refine cNil ?_
        refine xThenN ?_
        intro ds u hau
        refine ⟨θ, he.put0 hi hau hf rfl 25 rfl rfl, ?_⟩
        exact hc
      · have hf := he.h0
        replace hf := hf.more he 4 rfl onT
        replace hf := hf.more he 24 rfl (onP e14)
        replace hf := castB hb hf
        refine stS hf rfl rfl rfl fun a hf => ?_
        replace hf := castJ (u := .int .i64 r_18.1) hb hf
        refine cNil ?_
        refine xThenN ?_
        intro ds u hau
        refine ⟨θ, he.put0 hi hau hf rfl 25 rfl rfl, ?_⟩
        exact hc
    · intro E θ a w hD hi hp he hc
      have e14 := hp.of (k := 14) rfl
      have e15 := hp.of (k := 15) rfl
      rcases boolEq ((((r_18.2.2 == 0) && (r_19.2 == 0)) && (r_21.2.2 == 0)) && (r_23.2 == 0)) with hb | hb
      · have hf := he.h0
        replace hf := hf.more he 24 rfl (onP e14)
        replace hf := castB hb hf
        replace hf := hf.more he 25 rfl (onP e15)
        replace hf := castCT hb hf
        refine stP hf rfl rfl rfl (pEq rfl rfl) fun a hf => ?_
        replace hf := castI (u := undef) hb hf
        refine cNil ?_
        refine xThenN ?_
        intro ds u hau
        refine ⟨θ, he.put0 hi hau hf rfl 26 rfl rfl, ?_⟩
        exact hc
      · have hf := he.h0
        replace hf := hf.more he 24 rfl (onP e14)
        replace hf := castB hb hf
        replace hf := hf.more he 25 rfl (onP e15)
        replace hf := castCF hb hf
        refine stS hf rfl rfl rfl fun a hf => ?_
        replace hf := castJ (u := .bool (r_18.1 == 0)) hb hf
        refine cNil ?_
        refine xThenN ?_
        intro ds u hau
        refine ⟨θ, he.put0 hi hau hf rfl 26 rfl rfl, ?_⟩
        exact hc
    · intro E θ a w hD hi hp he hc
      have e14 := hp.of (k := 14) rfl
      have e16 := hp.of (k := 16) rfl
      rcases boolEq ((((r_18.2.2 == 0) && (r_19.2 == 0)) && (r_21.2.2 == 0)) && (r_23.2 == 0)) with hb | hb
      · have hf := he.h0
        replace hf := hf.more he 24 rfl (onP e14)
        replace hf := castB hb hf
        replace hf := hf.more he 26 rfl (onP e16)
        replace hf := castCT hb hf
        refine stP hf rfl rfl rfl (pPt rfl rfl) fun a hf => ?_
        replace hf := castV (v' := .bool (((((r_18.2.2 == 0) && (r_19.2 == 0)) && (r_21.2.2 == 0)) && (r_23.2 == 0)) && (r_18.1 == 0))) (congrArg Value.bool (andT hb)) hf
        refine cNil ?_
        refine xThenN ?_
        intro ds u hau
        refine ⟨θ, he.put0 hi hau hf rfl 27 rfl rfl, ?_⟩
        exact hc
      · have hf := he.h0
        replace hf := hf.more he 24 rfl (onP e14)
        replace hf := castB hb hf
        replace hf := hf.more he 26 rfl (onP e16)
        replace hf := castCF hb hf
        refine stP hf rfl rfl rfl (pPf rfl rfl) fun a hf => ?_
        replace hf := castV (v' := .bool (((((r_18.2.2 == 0) && (r_19.2 == 0)) && (r_21.2.2 == 0)) && (r_23.2 == 0)) && (r_18.1 == 0))) (congrArg Value.bool (andF hb)) hf
        refine cNil ?_
        refine xThenN ?_
        intro ds u hau
        refine ⟨θ, he.put0 hi hau hf rfl 27 rfl rfl, ?_⟩
        exact hc
    · intro E θ a w hD hi hp he hc
      have e17 := hp.of (k := 17) rfl
      have hf := he.h0
      replace hf := hf.more he 27 rfl (onP e17)
      refine stP hf rfl rfl rfl (pM rfl) fun a hf => ?_
      refine cNil ?_
      refine xThenN ?_
      intro ds u hau
      refine ⟨θ, he.put0 hi hau hf rfl 28 rfl rfl, ?_⟩
      exact hc
    · intro E θ a w hD hi hp he hc
      have e18 := hp.of (k := 18) rfl
      rcases boolEq (((((r_18.2.2 == 0) && (r_19.2 == 0)) && (r_21.2.2 == 0)) && (r_23.2 == 0)) && (r_18.1 == 0)) with hb | hb
      · have hf := he.h0
        replace hf := hf.more he 5 rfl onT
        replace hf := hf.more he 28 rfl (onP e18)
        replace hf := castB hb hf
        refine stP hf rfl rfl rfl (pM rfl) fun a hf => ?_
        replace hf := castI (u := undef) hb hf
        refine cNil ?_
        refine xThenN ?_
        intro ds u hau
        refine ⟨θ, he.put0 hi hau hf rfl 29 rfl rfl, ?_⟩
        exact hc
      · have hf := he.h0
        replace hf := hf.more he 5 rfl onT
        replace hf := hf.more he 28 rfl (onP e18)
        replace hf := castB hb hf
        refine stS hf rfl rfl rfl fun a hf => ?_
        replace hf := castJ (u := .int .i64 r_18.2.1) hb hf
        refine cNil ?_
        refine xThenN ?_
        intro ds u hau
        refine ⟨θ, he.put0 hi hau hf rfl 29 rfl rfl, ?_⟩
        exact hc
    · intro E θ a w hD hi hp he hc
      have e18 := hp.of (k := 18) rfl
      have e19 := hp.of (k := 19) rfl
      rcases boolEq (((((r_18.2.2 == 0) && (r_19.2 == 0)) && (r_21.2.2 == 0)) && (r_23.2 == 0)) && (r_18.1 == 0)) with hb | hb
      · have hf := he.h0
        replace hf := hf.more he 28 rfl (onP e18)
        replace hf := castB hb hf
        replace hf := hf.more he 29 rfl (onP e19)
        replace hf := castCT hb hf
        refine stP hf rfl rfl rfl (pEq rfl rfl) fun a hf => ?_
        replace hf := castI (u := undef) hb hf
        refine cNil ?_
        refine xThenN ?_
        intro ds u hau
        refine ⟨θ, he.put0 hi hau hf rfl 30 rfl rfl, ?_⟩
        exact hc
      · have hf := he.h0
        replace hf := hf.more he 28 rfl (onP e18)
        replace hf := castB hb hf
        replace hf := hf.more he 29 rfl (onP e19)
        replace hf := castCF hb hf
        refine stS hf rfl rfl rfl fun a hf => ?_
        replace hf := castJ (u := .bool (r_18.2.1 == 2)) hb hf
        refine cNil ?_
        refine xThenN ?_
        intro ds u hau
        refine ⟨θ, he.put0 hi hau hf rfl 30 rfl rfl, ?_⟩
        exact hc
    · intro E θ a w hD hi hp he hc
      have e18 := hp.of (k := 18) rfl
      have e20 := hp.of (k := 20) rfl
      rcases boolEq (((((r_18.2.2 == 0) && (r_19.2 == 0)) && (r_21.2.2 == 0)) && (r_23.2 == 0)) && (r_18.1 == 0)) with hb | hb
      · have hf := he.h0
        replace hf := hf.more he 28 rfl (onP e18)
        replace hf := castB hb hf
        replace hf := hf.more he 30 rfl (onP e20)
        replace hf := castCT hb hf
        refine stP hf rfl rfl rfl (pPt rfl rfl) fun a hf => ?_
        replace hf := castV (v' := .bool ((((((r_18.2.2 == 0) && (r_19.2 == 0)) && (r_21.2.2 == 0)) && (r_23.2 == 0)) && (r_18.1 == 0)) && (r_18.2.1 == 2))) (congrArg Value.bool (andT hb)) hf
        refine cNil ?_
        refine xThenN ?_
        intro ds u hau
        refine ⟨θ, he.put0 hi hau hf rfl 31 rfl rfl, ?_⟩
        exact hc
      · have hf := he.h0
        replace hf := hf.more he 28 rfl (onP e18)
        replace hf := castB hb hf
        replace hf := hf.more he 30 rfl (onP e20)
        replace hf := castCF hb hf
        refine stP hf rfl rfl rfl (pPf rfl rfl) fun a hf => ?_
        replace hf := castV (v' := .bool ((((((r_18.2.2 == 0) && (r_19.2 == 0)) && (r_21.2.2 == 0)) && (r_23.2 == 0)) && (r_18.1 == 0)) && (r_18.2.1 == 2))) (congrArg Value.bool (andF hb)) hf
        refine cNil ?_
        refine xThenN ?_
        intro ds u hau
        refine ⟨θ, he.put0 hi hau hf rfl 31 rfl rfl, ?_⟩
        exact hc
    · intro E θ a w hD hi hp he hc
      have e21 := hp.of (k := 21) rfl
      have hf := he.h0
      replace hf := hf.more he 31 rfl (onP e21)
      refine stP hf rfl rfl rfl (pM rfl) fun a hf => ?_
      refine cNil ?_
      refine xThenN ?_
      intro ds u hau
      refine ⟨θ, he.put0 hi hau hf rfl 32 rfl rfl, ?_⟩
      exact hc
    · intro E θ a w hD hi hp he hc
      have e22 := hp.of (k := 22) rfl
      rcases boolEq ((((((r_18.2.2 == 0) && (r_19.2 == 0)) && (r_21.2.2 == 0)) && (r_23.2 == 0)) && (r_18.1 == 0)) && (r_18.2.1 == 2)) with hb | hb
      · have hf := he.h0
        replace hf := hf.more he 6 rfl onT
        replace hf := hf.more he 32 rfl (onP e22)
        replace hf := castB hb hf
        refine stE hf hc rfl rfl rfl (eLdN (vs := [.int .i64 r_19.1.Lo, .int .i64 r_19.1.Hi]) ag_24 rfl rfl (cells_box (n := 2) m5 rfl)) fun a w hf hc => ?_
        replace hf := castI (u := undef) hb hf
        refine cNil ?_
        refine xThenN ?_
        intro ds u hau
        refine ⟨θ, he.put0 hi hau hf rfl 33 rfl rfl, ?_⟩
        exact hc
      · have hf := he.h0
        replace hf := hf.more he 6 rfl onT
        replace hf := hf.more he 32 rfl (onP e22)
        replace hf := castB hb hf
        refine stS hf rfl rfl rfl fun a hf => ?_
        replace hf := castJ (u := .agg #[.int .i64 r_19.1.Lo, .int .i64 r_19.1.Hi]) hb hf
        refine cNil ?_
        refine xThenN ?_
        intro ds u hau
        refine ⟨θ, he.put0 hi hau hf rfl 33 rfl rfl, ?_⟩
        exact hc
    · intro E θ a w hD hi hp he hc
      have e22 := hp.of (k := 22) rfl
      rcases boolEq ((((((r_18.2.2 == 0) && (r_19.2 == 0)) && (r_21.2.2 == 0)) && (r_23.2 == 0)) && (r_18.1 == 0)) && (r_18.2.1 == 2)) with hb | hb
      · have hf := he.h0
        replace hf := hf.more he 32 rfl (onP e22)
        replace hf := castB hb hf
        refine stE hf hc rfl rfl rfl (eC (v := .agg #[.int .i64 r_24.Lo, .int .i64 r_24.Hi]) (vs := [.int .i64 7, .int .i64 9]) (caps := []) en_14 rfl rfl rfl rfl (fun w hc => law03_span_ok 7 9 hc (condT hb hr_24))) fun a w hf hc => ?_
        replace hf := castI (u := undef) hb hf
        refine cNil ?_
        refine xThenN ?_
        intro ds u hau
        refine ⟨θ, he.put0 hi hau hf rfl 34 rfl rfl, ?_⟩
        exact hc
      · have hf := he.h0
        replace hf := hf.more he 32 rfl (onP e22)
        replace hf := castB hb hf
        refine stS hf rfl rfl rfl fun a hf => ?_
        replace hf := castJ (u := .agg #[.int .i64 r_24.Lo, .int .i64 r_24.Hi]) hb hf
        refine cNil ?_
        refine xThenN ?_
        intro ds u hau
        refine ⟨θ, he.put0 hi hau hf rfl 34 rfl rfl, ?_⟩
        exact hc
    · intro E θ a w hD hi hp he hc
      have e22 := hp.of (k := 22) rfl
      have e23 := hp.of (k := 23) rfl
      have e24 := hp.of (k := 24) rfl
      rcases boolEq ((((((r_18.2.2 == 0) && (r_19.2 == 0)) && (r_21.2.2 == 0)) && (r_23.2 == 0)) && (r_18.1 == 0)) && (r_18.2.1 == 2)) with hb | hb
      · have hf := he.h0
        replace hf := hf.more he 32 rfl (onP e22)
        replace hf := castB hb hf
        replace hf := hf.more he 33 rfl (onP e23)
        replace hf := castCT hb hf
        replace hf := hf.more he 34 rfl (onP e24)
        replace hf := castCT hb hf
        refine stP hf rfl rfl rfl (pEqA ge_24 rfl rfl (eqs_24 _ _ _ _)) fun a hf => ?_
        replace hf := castI (u := undef) hb hf
        refine cNil ?_
        refine xThenN ?_
        intro ds u hau
        refine ⟨θ, he.put0 hi hau hf rfl 35 rfl rfl, ?_⟩
        exact hc
      · have hf := he.h0
        replace hf := hf.more he 32 rfl (onP e22)
        replace hf := castB hb hf
        replace hf := hf.more he 33 rfl (onP e23)
        replace hf := castCF hb hf
        replace hf := hf.more he 34 rfl (onP e24)
        replace hf := castCF hb hf
        refine stS hf rfl rfl rfl fun a hf => ?_
        replace hf := castJ (u := .bool (r_19.1.Lo == r_24.Lo && r_19.1.Hi == r_24.Hi)) hb hf
        refine cNil ?_
        refine xThenN ?_
        intro ds u hau
        refine ⟨θ, he.put0 hi hau hf rfl 35 rfl rfl, ?_⟩
        exact hc
    · intro E θ a w hD hi hp he hc
      have e22 := hp.of (k := 22) rfl
      have e25 := hp.of (k := 25) rfl
      rcases boolEq ((((((r_18.2.2 == 0) && (r_19.2 == 0)) && (r_21.2.2 == 0)) && (r_23.2 == 0)) && (r_18.1 == 0)) && (r_18.2.1 == 2)) with hb | hb
      · have hf := he.h0
        replace hf := hf.more he 32 rfl (onP e22)
        replace hf := castB hb hf
        replace hf := hf.more he 35 rfl (onP e25)
        replace hf := castCT hb hf
        refine stP hf rfl rfl rfl (pPt rfl rfl) fun a hf => ?_
        replace hf := castV (v' := .bool (((((((r_18.2.2 == 0) && (r_19.2 == 0)) && (r_21.2.2 == 0)) && (r_23.2 == 0)) && (r_18.1 == 0)) && (r_18.2.1 == 2)) && (r_19.1.Lo == r_24.Lo && r_19.1.Hi == r_24.Hi))) (congrArg Value.bool (andT hb)) hf
        refine cNil ?_
        refine xThenN ?_
        intro ds u hau
        refine ⟨θ, he.put0 hi hau hf rfl 36 rfl rfl, ?_⟩
        exact hc
      · have hf := he.h0
        replace hf := hf.more he 32 rfl (onP e22)
        replace hf := castB hb hf
        replace hf := hf.more he 35 rfl (onP e25)
        replace hf := castCF hb hf
        refine stP hf rfl rfl rfl (pPf rfl rfl) fun a hf => ?_
        replace hf := castV (v' := .bool (((((((r_18.2.2 == 0) && (r_19.2 == 0)) && (r_21.2.2 == 0)) && (r_23.2 == 0)) && (r_18.1 == 0)) && (r_18.2.1 == 2)) && (r_19.1.Lo == r_24.Lo && r_19.1.Hi == r_24.Hi))) (congrArg Value.bool (andF hb)) hf
        refine cNil ?_
        refine xThenN ?_
        intro ds u hau
        refine ⟨θ, he.put0 hi hau hf rfl 36 rfl rfl, ?_⟩
        exact hc
    · intro E θ a w hD hi hp he hc
      have e26 := hp.of (k := 26) rfl
      have hf := he.h0
      replace hf := hf.more he 36 rfl (onP e26)
      refine stP hf rfl rfl rfl (pM rfl) fun a hf => ?_
      refine cNil ?_
      refine xThenN ?_
      intro ds u hau
      refine ⟨θ, he.put0 hi hau hf rfl 37 rfl rfl, ?_⟩
      exact hc
    · intro E θ a w hD hi hp he hc
      have e27 := hp.of (k := 27) rfl
      rcases boolEq (((((((r_18.2.2 == 0) && (r_19.2 == 0)) && (r_21.2.2 == 0)) && (r_23.2 == 0)) && (r_18.1 == 0)) && (r_18.2.1 == 2)) && (r_19.1.Lo == r_24.Lo && r_19.1.Hi == r_24.Hi)) with hb | hb
      · have hf := he.h0
        replace hf := hf.more he 7 rfl onT
        replace hf := hf.more he 37 rfl (onP e27)
        replace hf := castB hb hf
        refine stP hf rfl rfl rfl (pM rfl) fun a hf => ?_
        replace hf := castI (u := undef) hb hf
        refine cNil ?_
        refine xThenN ?_
        intro ds u hau
        refine ⟨θ, he.put0 hi hau hf rfl 38 rfl rfl, ?_⟩
        exact hc
      · have hf := he.h0
        replace hf := hf.more he 7 rfl onT
        replace hf := hf.more he 37 rfl (onP e27)
        replace hf := castB hb hf
        refine stS hf rfl rfl rfl fun a hf => ?_
        replace hf := castJ (u := .slice p_6 r_21.1.length c_6) hb hf
        refine cNil ?_
        refine xThenN ?_
        intro ds u hau
        refine ⟨θ, he.put0 hi hau hf rfl 38 rfl rfl, ?_⟩
        exact hc
    · intro E θ a w hD hi hp he hc
      have e27 := hp.of (k := 27) rfl
      try dsimp only at hc
      rw [hi] at hc
      rcases boolEq (((((((r_18.2.2 == 0) && (r_19.2 == 0)) && (r_21.2.2 == 0)) && (r_23.2 == 0)) && (r_18.1 == 0)) && (r_18.2.1 == 2)) && (r_19.1.Lo == r_24.Lo && r_19.1.Hi == r_24.Hi)) with hb | hb
      · have hf := he.h0
        replace hf := hf.more he 37 rfl (onP e27)
        replace hf := castB hb hf
        refine stBS (rows := ([1, 3] : List Int).map encI_i64) (vs := [(0, .int .i64 1), (1, .int .i64 3)]) hf hc rfl rfl sl_43 rfl ⟨rfl, rfl, rfl, rfl, rfl, rfl, trivial⟩ rfl rfl fun b_10 a w hf hc => ?_
        replace hf := castI (u := undef) hb hf
        refine cNil ?_
        refine xThenN ?_
        intro ds u hau
        replace hc := hc.drop k1
        refine ⟨(setT θ 232 ⟨b_10, none, 0⟩), he.put hi hau hf rfl [] trivial ⟨qq, qq, qq, qq, qq, qq, qq, qq, qq, qq, qq, qq, qq, qq, qq, qq, qq, qq, qq, qq, qq, qq, qq, qq, qq, qq, qq, qq, qq, qq, qq, qq, qq, qq, qq, qq, qq, qq, qq, qq, qq, qq, qq, qq, qq, qq, qq, qq, qq, qq, trivial⟩, ?_⟩
        try dsimp only
        rw [updE_self E 29]
        rw [gE_T hb]
        exact hc
      · have hf := he.h0
        replace hf := hf.more he 37 rfl (onP e27)
        replace hf := castB hb hf
        refine stS hf rfl rfl rfl fun a hf => ?_
        replace hf := castJ (u := .slice (some ⟨(θ 232).b, 0, none⟩) 2 2) hb hf
        refine cNil ?_
        refine xThenN ?_
        intro ds u hau
        refine ⟨θ, he.put0 hi hau hf rfl 39 rfl rfl, ?_⟩
        try dsimp only
        rw [updE_self E 29]
        rw [gE_F hb]
        exact hc
    · intro E θ a w hD hi hp he hc
      have e27 := hp.of (k := 27) rfl
      have e28 := hp.of (k := 28) rfl
      have e29 := hp.of (k := 29) rfl
      try dsimp only at hc
      rw [e29] at hc
      rcases boolEq (((((((r_18.2.2 == 0) && (r_19.2 == 0)) && (r_21.2.2 == 0)) && (r_23.2 == 0)) && (r_18.1 == 0)) && (r_18.2.1 == 2)) && (r_19.1.Lo == r_24.Lo && r_19.1.Hi == r_24.Hi)) with hb | hb
      · have hf := he.h0
        replace hf := hf.more he 37 rfl (onP e27)
        replace hf := castB hb hf
        replace hf := hf.more he 38 rfl (onP e28)
        replace hf := castCT hb hf
        replace hf := hf.more he 39 rfl (onP e29)
        replace hf := castCT hb hf
        rw [gE_T hb] at hc
        refine stE hf hc rfl rfl rfl (eC (v := .bool r_25) (vs := [.slice p_6 r_21.1.length c_6, .slice (some ⟨(θ 232).b, 0, none⟩) 2 2]) (caps := []) en_41 rfl rfl rfl rfl (fun w hc => by obtain ⟨G1, hle1, hrd1, hc, hth1⟩ := lend hc k4; obtain ⟨G2, hle2, hrd2, hc, hth2⟩ := lend hc k0; exact (kit_Same_int_ok r_21.1 ([1, 3] : List Int) (hrd1.mono hle2) hrd2 hc (condT hb hr_25)).mono fun e w h => ⟨h.1, ((hth1 _ _ ((hth2 _ _ h.2).unpick k0)).unpick k4)⟩)) fun a w hf hc => ?_
        replace hf := castI (u := undef) hb hf
        refine cNil ?_
        refine xThenN ?_
        intro ds u hau
        refine ⟨θ, he.put0 hi hau hf rfl 40 rfl rfl, ?_⟩
        try dsimp only
        rw [updE_tru 30 e29]
        rw [gE_T hb]
        exact hc
      · have hf := he.h0
        replace hf := hf.more he 37 rfl (onP e27)
        replace hf := castB hb hf
        replace hf := hf.more he 38 rfl (onP e28)
        replace hf := castCF hb hf
        replace hf := hf.more he 39 rfl (onP e29)
        replace hf := castCF hb hf
        rw [gE_F hb] at hc
        refine stS hf rfl rfl rfl fun a hf => ?_
        replace hf := castJ (u := .bool r_25) hb hf
        refine cNil ?_
        refine xThenN ?_
        intro ds u hau
        refine ⟨θ, he.put0 hi hau hf rfl 40 rfl rfl, ?_⟩
        try dsimp only
        rw [updE_tru 30 e29]
        rw [gE_F hb]
        exact hc
    · intro E θ a w hD hi hp he hc
      have e27 := hp.of (k := 27) rfl
      have e30 := hp.of (k := 30) rfl
      rcases boolEq (((((((r_18.2.2 == 0) && (r_19.2 == 0)) && (r_21.2.2 == 0)) && (r_23.2 == 0)) && (r_18.1 == 0)) && (r_18.2.1 == 2)) && (r_19.1.Lo == r_24.Lo && r_19.1.Hi == r_24.Hi)) with hb | hb
      · have hf := he.h0
        replace hf := hf.more he 37 rfl (onP e27)
        replace hf := castB hb hf
        replace hf := hf.more he 40 rfl (onP e30)
        replace hf := castCT hb hf
        refine stP hf rfl rfl rfl (pPt rfl rfl) fun a hf => ?_
        replace hf := castV (v' := .bool ((((((((r_18.2.2 == 0) && (r_19.2 == 0)) && (r_21.2.2 == 0)) && (r_23.2 == 0)) && (r_18.1 == 0)) && (r_18.2.1 == 2)) && (r_19.1.Lo == r_24.Lo && r_19.1.Hi == r_24.Hi)) && r_25)) (congrArg Value.bool (andT hb)) hf
        refine cNil ?_
        refine xThenN ?_
        intro ds u hau
        refine ⟨θ, he.put0 hi hau hf rfl 41 rfl rfl, ?_⟩
        exact hc
      · have hf := he.h0
        replace hf := hf.more he 37 rfl (onP e27)
        replace hf := castB hb hf
        replace hf := hf.more he 40 rfl (onP e30)
        replace hf := castCF hb hf
        refine stP hf rfl rfl rfl (pPf rfl rfl) fun a hf => ?_
        replace hf := castV (v' := .bool ((((((((r_18.2.2 == 0) && (r_19.2 == 0)) && (r_21.2.2 == 0)) && (r_23.2 == 0)) && (r_18.1 == 0)) && (r_18.2.1 == 2)) && (r_19.1.Lo == r_24.Lo && r_19.1.Hi == r_24.Hi)) && r_25)) (congrArg Value.bool (andF hb)) hf
        refine cNil ?_
        refine xThenN ?_
        intro ds u hau
        refine ⟨θ, he.put0 hi hau hf rfl 41 rfl rfl, ?_⟩
        exact hc
    · intro E θ a w hD hi hp he hc
      have e31 := hp.of (k := 31) rfl
      have hf := he.h0
      replace hf := hf.more he 41 rfl (onP e31)
      refine stP hf rfl rfl rfl (pM rfl) fun a hf => ?_
      refine cNil ?_
      refine xThenN ?_
      intro ds u hau
      refine ⟨θ, he.put0 hi hau hf rfl 42 rfl rfl, ?_⟩
      exact hc
    · intro E θ a w hD hi hp he hc
      have e32 := hp.of (k := 32) rfl
      rcases boolEq ((((((((r_18.2.2 == 0) && (r_19.2 == 0)) && (r_21.2.2 == 0)) && (r_23.2 == 0)) && (r_18.1 == 0)) && (r_18.2.1 == 2)) && (r_19.1.Lo == r_24.Lo && r_19.1.Hi == r_24.Hi)) && r_25) with hb | hb
      · have hf := he.h0
        replace hf := hf.more he 8 rfl onT
        replace hf := hf.more he 42 rfl (onP e32)
        replace hf := castB hb hf
        refine stP hf rfl rfl rfl (pM rfl) fun a hf => ?_
        replace hf := castI (u := undef) hb hf
        refine cNil ?_
        refine xThenN ?_
        intro ds u hau
        refine ⟨θ, he.put0 hi hau hf rfl 43 rfl rfl, ?_⟩
        exact hc
      · have hf := he.h0
        replace hf := hf.more he 8 rfl onT
        replace hf := hf.more he 42 rfl (onP e32)
        replace hf := castB hb hf
        refine stS hf rfl rfl rfl fun a hf => ?_
        replace hf := castJ (u := .int .i64 r_21.2.1) hb hf
        refine cNil ?_
        refine xThenN ?_
        intro ds u hau
        refine ⟨θ, he.put0 hi hau hf rfl 43 rfl rfl, ?_⟩
        exact hc
    · intro E θ a w hD hi hp he hc
      have e32 := hp.of (k := 32) rfl
      have e33 := hp.of (k := 33) rfl
      rcases boolEq ((((((((r_18.2.2 == 0) && (r_19.2 == 0)) && (r_21.2.2 == 0)) && (r_23.2 == 0)) && (r_18.1 == 0)) && (r_18.2.1 == 2)) && (r_19.1.Lo == r_24.Lo && r_19.1.Hi == r_24.Hi)) && r_25) with hb | hb
      · have hf := he.h0
        replace hf := hf.more he 42 rfl (onP e32)
        replace hf := castB hb hf
        replace hf := hf.more he 43 rfl (onP e33)
        replace hf := castCT hb hf
        refine stP hf rfl rfl rfl (pEq rfl rfl) fun a hf => ?_
        replace hf := castI (u := undef) hb hf
        refine cNil ?_
        refine xThenN ?_
        intro ds u hau
        refine ⟨θ, he.put0 hi hau hf rfl 44 rfl rfl, ?_⟩
        exact hc
      · have hf := he.h0
        replace hf := hf.more he 42 rfl (onP e32)
        replace hf := castB hb hf
        replace hf := hf.more he 43 rfl (onP e33)
        replace hf := castCF hb hf
        refine stS hf rfl rfl rfl fun a hf => ?_
        replace hf := castJ (u := .bool (r_21.2.1 == 6)) hb hf
        refine cNil ?_
        refine xThenN ?_
        intro ds u hau
        refine ⟨θ, he.put0 hi hau hf rfl 44 rfl rfl, ?_⟩
        exact hc
    · intro E θ a w hD hi hp he hc
      have e32 := hp.of (k := 32) rfl
      have e34 := hp.of (k := 34) rfl
      rcases boolEq ((((((((r_18.2.2 == 0) && (r_19.2 == 0)) && (r_21.2.2 == 0)) && (r_23.2 == 0)) && (r_18.1 == 0)) && (r_18.2.1 == 2)) && (r_19.1.Lo == r_24.Lo && r_19.1.Hi == r_24.Hi)) && r_25) with hb | hb
      · have hf := he.h0
        replace hf := hf.more he 42 rfl (onP e32)
        replace hf := castB hb hf
        replace hf := hf.more he 44 rfl (onP e34)
        replace hf := castCT hb hf
        refine stP hf rfl rfl rfl (pPt rfl rfl) fun a hf => ?_
        replace hf := castV (v' := .bool (((((((((r_18.2.2 == 0) && (r_19.2 == 0)) && (r_21.2.2 == 0)) && (r_23.2 == 0)) && (r_18.1 == 0)) && (r_18.2.1 == 2)) && (r_19.1.Lo == r_24.Lo && r_19.1.Hi == r_24.Hi)) && r_25) && (r_21.2.1 == 6))) (congrArg Value.bool (andT hb)) hf
        refine cNil ?_
        refine xThenN ?_
        intro ds u hau
        refine ⟨θ, he.put0 hi hau hf rfl 45 rfl rfl, ?_⟩
        exact hc
      · have hf := he.h0
        replace hf := hf.more he 42 rfl (onP e32)
        replace hf := castB hb hf
        replace hf := hf.more he 44 rfl (onP e34)
        replace hf := castCF hb hf
        refine stP hf rfl rfl rfl (pPf rfl rfl) fun a hf => ?_
        replace hf := castV (v' := .bool (((((((((r_18.2.2 == 0) && (r_19.2 == 0)) && (r_21.2.2 == 0)) && (r_23.2 == 0)) && (r_18.1 == 0)) && (r_18.2.1 == 2)) && (r_19.1.Lo == r_24.Lo && r_19.1.Hi == r_24.Hi)) && r_25) && (r_21.2.1 == 6))) (congrArg Value.bool (andF hb)) hf
        refine cNil ?_
        refine xThenN ?_
        intro ds u hau
        refine ⟨θ, he.put0 hi hau hf rfl 45 rfl rfl, ?_⟩
        exact hc
    · intro E θ a w hD hi hp he hc
      have e35 := hp.of (k := 35) rfl
      have hf := he.h0
      replace hf := hf.more he 45 rfl (onP e35)
      refine stP hf rfl rfl rfl (pM rfl) fun a hf => ?_
      refine cNil ?_
      refine xThenN ?_
      intro ds u hau
      refine ⟨θ, he.put0 hi hau hf rfl 46 rfl rfl, ?_⟩
      exact hc
    · intro E θ a w hD hi hp he hc
      have e36 := hp.of (k := 36) rfl
      rcases boolEq (((((((((r_18.2.2 == 0) && (r_19.2 == 0)) && (r_21.2.2 == 0)) && (r_23.2 == 0)) && (r_18.1 == 0)) && (r_18.2.1 == 2)) && (r_19.1.Lo == r_24.Lo && r_19.1.Hi == r_24.Hi)) && r_25) && (r_21.2.1 == 6)) with hb | hb
      · have hf := he.h0
        replace hf := hf.more he 9 rfl onT
        replace hf := hf.more he 46 rfl (onP e36)
        replace hf := castB hb hf
        refine stP hf rfl rfl rfl (pM rfl) fun a hf => ?_
        replace hf := castI (u := undef) hb hf
        refine cNil ?_
        refine xThenN ?_
        intro ds u hau
        refine ⟨θ, he.put0 hi hau hf rfl 47 rfl rfl, ?_⟩
        exact hc
      · have hf := he.h0
        replace hf := hf.more he 9 rfl onT
        replace hf := hf.more he 46 rfl (onP e36)
        replace hf := castB hb hf
        refine stS hf rfl rfl rfl fun a hf => ?_
        replace hf := castJ (u := .bool r_23.1) hb hf
        refine cNil ?_
        refine xThenN ?_
        intro ds u hau
        refine ⟨θ, he.put0 hi hau hf rfl 47 rfl rfl, ?_⟩
        exact hc
    · intro E θ a w hD hi hp he hc
      have e36 := hp.of (k := 36) rfl
      have e37 := hp.of (k := 37) rfl
      rcases boolEq (((((((((r_18.2.2 == 0) && (r_19.2 == 0)) && (r_21.2.2 == 0)) && (r_23.2 == 0)) && (r_18.1 == 0)) && (r_18.2.1 == 2)) && (r_19.1.Lo == r_24.Lo && r_19.1.Hi == r_24.Hi)) && r_25) && (r_21.2.1 == 6)) with hb | hb
      · have hf := he.h0
        replace hf := hf.more he 46 rfl (onP e36)
        replace hf := castB hb hf
        replace hf := hf.more he 47 rfl (onP e37)
        replace hf := castCT hb hf
        refine stP hf rfl rfl rfl (pPt rfl rfl) fun a hf => ?_
        replace hf := castV (v' := .bool ((((((((((r_18.2.2 == 0) && (r_19.2 == 0)) && (r_21.2.2 == 0)) && (r_23.2 == 0)) && (r_18.1 == 0)) && (r_18.2.1 == 2)) && (r_19.1.Lo == r_24.Lo && r_19.1.Hi == r_24.Hi)) && r_25) && (r_21.2.1 == 6)) && r_23.1)) (congrArg Value.bool (andT hb)) hf
        refine cNil ?_
        refine xThenN ?_
        intro ds u hau
        refine ⟨θ, he.put0 hi hau hf rfl 48 rfl rfl, ?_⟩
        exact hc
      · have hf := he.h0
        replace hf := hf.more he 46 rfl (onP e36)
        replace hf := castB hb hf
        replace hf := hf.more he 47 rfl (onP e37)
        replace hf := castCF hb hf
        refine stP hf rfl rfl rfl (pPf rfl rfl) fun a hf => ?_
        replace hf := castV (v' := .bool ((((((((((r_18.2.2 == 0) && (r_19.2 == 0)) && (r_21.2.2 == 0)) && (r_23.2 == 0)) && (r_18.1 == 0)) && (r_18.2.1 == 2)) && (r_19.1.Lo == r_24.Lo && r_19.1.Hi == r_24.Hi)) && r_25) && (r_21.2.1 == 6)) && r_23.1)) (congrArg Value.bool (andF hb)) hf
        refine cNil ?_
        refine xThenN ?_
        intro ds u hau
        refine ⟨θ, he.put0 hi hau hf rfl 48 rfl rfl, ?_⟩
        exact hc
    · intro E θ a w hD hi hp he hc
      have e38 := hp.of (k := 38) rfl
      have hf := he.h0
      replace hf := hf.more he 48 rfl (onP e38)
      refine stP hf rfl rfl rfl (pA rfl) fun a hf => ?_
      refine cNil ?_
      refine xThenN ?_
      intro ds u hau
      refine ⟨θ, he.put0 hi hau hf rfl 49 rfl rfl, ?_⟩
      exact hc
    · intro E θ a w hall he hc
      have hf := he.h0
      have e29 := hall 29 rfl
      have e39 := hall 39 rfl
      replace hf := hf.more he 49 rfl (onP e39)
      try dsimp only at hc
      rw [e29] at hc
      replace hc := hc.drop k0
      exact ⟨hf.keep ⟨rfl, trivial⟩, hc⟩
    rintro a w ⟨hf, hc⟩
    refine h15 _ _ ?_
    refine wp_ret ?_
    obtain rfl := Option.some.inj hF
    replace hc := hc.drop k14
    replace hc := hc.drop k13
    replace hc := hc.drop k12
    replace hc := hc.drop k11
    replace hc := hc.drop k10
    replace hc := hc.drop k9
    replace hc := hc.drop k8
    replace hc := hc.drop k7
    replace hc := hc.drop k6
    replace hc := hc.drop k5
    replace hc := hc.drop k4
    replace hc := hc.drop k3
    replace hc := hc.drop k2
    replace hc := hc.drop k1
    replace hc := hc.drop k0
    exact fnOut1 (by simp) rfl Try.results15 hf hc (show look _ 0 = _ from rfl) ⟨rfl, hc⟩

end Go.Nilo
