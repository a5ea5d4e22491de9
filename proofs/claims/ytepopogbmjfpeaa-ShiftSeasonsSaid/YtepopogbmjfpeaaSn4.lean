/-
 What functions of the Go text compute, as plain functions, and that they do, part 4 of 4. Conditions: what each theorem names.
-/
import Derived.Test.YtepopogbmjfpeaaSn3
import Derived.Test.YtepopogbmjfpeaaProg
set_option linter.unusedVariables false
set_option linter.unusedSimpArgs false
set_option maxRecDepth 100000
set_option maxHeartbeats 4000000
namespace Go.Nilo
open Go.Proofs


def law05_awake (N : Nat)  : Option (Bool) :=
 Option.bind (law05_Three N) fun r =>
 Option.bind (shift_Means N r.Rating 13 8) fun r_1 =>
 Option.bind (shift_Means N r.Rating 25 6) fun r_2 =>
 Option.bind (shift_Rising N r.Rating 10 0 4 25) fun r_3 =>
 Option.bind (shift_Rising N r.Rating 10 0 (-50) 25) fun r_4 =>
 cond ((((((((r_1.2 != 0) || (r_2.2 != 0)) || (r_3.2 != 0)) || (r_4.2 != 0)) || (!(r_1.1.N == 50 && r_1.1.D == 1))) || (!(r_2.1.N == 370 && r_2.1.D == 1))) || (!(r_3.1.N == 110 && r_3.1.D == 1))) || (!(r_4.1.N == 0 && r_4.1.D == 1)))
 (some false)
 (Option.bind (shift_Passes N r) fun r_5 =>
 Option.bind (shift_Least N r) fun r_6 =>
 Option.bind (shift_Proves N r ([(⟨0,false⟩ : shift_Turn),(⟨1,true⟩ : shift_Turn),(⟨2,false⟩ : shift_Turn)] : List shift_Turn)) fun r_7 =>
 Option.bind (shift_Can N r 6) fun r_8 =>
 Option.bind (shift_Between N r 6 3 13) fun r_9 =>
 Option.bind (cond (((((r_5.2 == 0) && (r_6.2.2 == 0)) && (r_7.2 == 0)) && (r_8.2 == 0)) && (r_9.2 == 0)) (kit_Same_api_Span N r_5.1 ([(⟨2,4⟩ : api_Span),(⟨0,0⟩ : api_Span),(⟨3,8⟩ : api_Span)] : List api_Span)) (some false)) fun r_10 =>
 Option.bind (cond ((((((r_5.2 == 0) && (r_6.2.2 == 0)) && (r_7.2 == 0)) && (r_8.2 == 0)) && (r_9.2 == 0)) && r_10) (kit_Same_int N r_6.1 ([2,0,3] : List Int)) (some false)) fun r_11 =>
 Option.bind (cond (((((((((r_5.2 == 0) && (r_6.2.2 == 0)) && (r_7.2 == 0)) && (r_8.2 == 0)) && (r_9.2 == 0)) && r_10) && r_11) && (r_6.2.1 == 5)) && (r_7.1 == 5)) (kit_Same_api_Span N r_8.1 ([(⟨2,3⟩ : api_Span),(⟨0,0⟩ : api_Span),(⟨3,4⟩ : api_Span)] : List api_Span)) (some false)) fun r_12 =>
 Option.bind (cond ((((((((((r_5.2 == 0) && (r_6.2.2 == 0)) && (r_7.2 == 0)) && (r_8.2 == 0)) && (r_9.2 == 0)) && r_10) && r_11) && (r_6.2.1 == 5)) && (r_7.1 == 5)) && r_12) (law05_span N 100 190) (some (⟨0,0⟩ : api_Span))) fun r_13 =>
 some (((((((((((r_5.2 == 0) && (r_6.2.2 == 0)) && (r_7.2 == 0)) && (r_8.2 == 0)) && (r_9.2 == 0)) && r_10) && r_11) && (r_6.2.1 == 5)) && (r_7.1 == 5)) && r_12) && (r_9.1.Lo == r_13.Lo && r_9.1.Hi == r_13.Hi)))
theorem law05_awake_ok {N : Nat} {G : Pers} {Lf : List Ent} {w : World}    (hc : Ctx G (Lf) w) {res : Bool} (hF : law05_awake N = some res) : Calls Try.prog 12 #[] w (fun e w => e = .returned (.bool res) ∧ Ctx G (Lf) w) := by
 unfold law05_awake at hF
 refine fnIn (args := []) Try.func12 rfl Try.ntmps12 rfl fun a hf => wp_seq_k fun K1 h1 => cReg ?_
 refine stP hf rfl rfl rfl (pA rfl) fun a hf => cNil ?_
 refine h1 _ _ ?_
 refine wp_seq_k fun K2 h2 => cReg ?_
 obtain ⟨r,hr,hF⟩ := bnd_some hF
 refine stC (vs := []) (caps := []) hf rfl rfl rfl en_55 rfl rfl rfl rfl (law05_Three_ok hc hr) ?_
 rintro _ w ⟨p_1,c_1,p_2,c_2,rfl,hc⟩
 refine ⟨_,rfl,fun a hf => ?_⟩
 refine stAl (cs := [.slice none 0 0,.slice none 0 0]) hf hc rfl rfl zr_25 rfl fun b_1 a w hf hc => stSt (vs := [.slice p_1 r.Rating.length c_1,.slice p_2 r.Gaugings.length c_2]) hf hc rfl rfl rfl rfl sz_25 rfl rfl u0 fun w hc => cNil ?_
 refine h2 _ _ ?_
 refine wp_seq_k fun K3 h3 => cReg ?_
 refine stP hf rfl rfl rfl (pFA fa_25_0 rfl) fun a hf => stE hf hc rfl rfl rfl (eLd1 sc_22 rfl (cell_box m0 rfl)) fun a w hf hc => ?_
 obtain ⟨r_1,hr_1,hF⟩ := bnd_some hF
 refine stE hf hc rfl rfl rfl (eC (v := .tuple #[.agg #[.int .i64 r_1.1.N,.int .i64 r_1.1.D],.int .i64 r_1.2]) (vs := [.slice p_1 r.Rating.length c_1,.int .i64 13,.int .i64 8]) (caps := []) en_17 rfl rfl rfl rfl (fun w hc => by obtain ⟨G1,hle1,hrd1,hc,hth1⟩ := lend hc k1; exact (shift_Means_ok r.Rating 13 8 hrd1 hc hr_1).mono fun e w h => ⟨h.1,((hth1 _ _ h.2).unpick k1)⟩)) fun a w hf hc => stP hf rfl rfl rfl (pM rfl) fun a hf => stP hf rfl rfl rfl (pX rfl rfl) fun a hf => stP hf rfl rfl rfl (pX rfl rfl) fun a hf => stAl (cs := [.int .i64 0,.int .i64 0]) hf hc rfl rfl zr_37 rfl fun b_2 a w hf hc => stSt (vs := [.int .i64 r_1.1.N,.int .i64 r_1.1.D]) hf hc rfl rfl rfl rfl sz_37 rfl rfl u0 fun w hc => stP hf rfl rfl rfl (pA rfl) fun a hf => cNil ?_
 refine h3 _ _ ?_
 refine wp_seq_k fun K4 h4 => cReg ?_
 refine stP hf rfl rfl rfl (pFA fa_25_0 rfl) fun a hf => stE hf hc rfl rfl rfl (eLd1 sc_22 rfl (cell_box m1 rfl)) fun a w hf hc => ?_
 obtain ⟨r_2,hr_2,hF⟩ := bnd_some hF
 refine stE hf hc rfl rfl rfl (eC (v := .tuple #[.agg #[.int .i64 r_2.1.N,.int .i64 r_2.1.D],.int .i64 r_2.2]) (vs := [.slice p_1 r.Rating.length c_1,.int .i64 25,.int .i64 6]) (caps := []) en_17 rfl rfl rfl rfl (fun w hc => by obtain ⟨G1,hle1,hrd1,hc,hth1⟩ := lend hc k2; exact (shift_Means_ok r.Rating 25 6 hrd1 hc hr_2).mono fun e w h => ⟨h.1,((hth1 _ _ h.2).unpick k2)⟩)) fun a w hf hc => stP hf rfl rfl rfl (pM rfl) fun a hf => stP hf rfl rfl rfl (pX rfl rfl) fun a hf => stP hf rfl rfl rfl (pX rfl rfl) fun a hf => stAl (cs := [.int .i64 0,.int .i64 0]) hf hc rfl rfl zr_37 rfl fun b_3 a w hf hc => stSt (vs := [.int .i64 r_2.1.N,.int .i64 r_2.1.D]) hf hc rfl rfl rfl rfl sz_37 rfl rfl u0 fun w hc => stP hf rfl rfl rfl (pA rfl) fun a hf => cNil ?_
 refine h4 _ _ ?_
 refine wp_seq_k fun K5 h5 => cReg ?_
 refine stP hf rfl rfl rfl (pFA fa_25_0 rfl) fun a hf => stE hf hc rfl rfl rfl (eLd1 sc_22 rfl (cell_box m2 rfl)) fun a w hf hc => ?_
 obtain ⟨r_3,hr_3,hF⟩ := bnd_some hF
 refine stE hf hc rfl rfl rfl (eC (v := .tuple #[.agg #[.int .i64 r_3.1.N,.int .i64 r_3.1.D],.int .i64 r_3.2]) (vs := [.slice p_1 r.Rating.length c_1,.int .i64 10,.int .i64 0,.int .i64 4,.int .i64 25]) (caps := []) en_20 rfl rfl rfl rfl (fun w hc => by obtain ⟨G1,hle1,hrd1,hc,hth1⟩ := lend hc k3; exact (shift_Rising_ok r.Rating 10 0 4 25 hrd1 hc hr_3).mono fun e w h => ⟨h.1,((hth1 _ _ h.2).unpick k3)⟩)) fun a w hf hc => stP hf rfl rfl rfl (pM rfl) fun a hf => stP hf rfl rfl rfl (pX rfl rfl) fun a hf => stP hf rfl rfl rfl (pX rfl rfl) fun a hf => stAl (cs := [.int .i64 0,.int .i64 0]) hf hc rfl rfl zr_37 rfl fun b_4 a w hf hc => stSt (vs := [.int .i64 r_3.1.N,.int .i64 r_3.1.D]) hf hc rfl rfl rfl rfl sz_37 rfl rfl u0 fun w hc => stP hf rfl rfl rfl (pA rfl) fun a hf => cNil ?_
 refine h5 _ _ ?_
 refine wp_seq_k fun K6 h6 => cReg ?_
 refine stP hf rfl rfl rfl (pFA fa_25_0 rfl) fun a hf => stE hf hc rfl rfl rfl (eLd1 sc_22 rfl (cell_box m3 rfl)) fun a w hf hc => ?_
 obtain ⟨r_4,hr_4,hF⟩ := bnd_some hF
 refine stE hf hc rfl rfl rfl (eC (v := .tuple #[.agg #[.int .i64 r_4.1.N,.int .i64 r_4.1.D],.int .i64 r_4.2]) (vs := [.slice p_1 r.Rating.length c_1,.int .i64 10,.int .i64 0,.int .i64 (-50),.int .i64 25]) (caps := []) en_20 rfl rfl rfl rfl (fun w hc => by obtain ⟨G1,hle1,hrd1,hc,hth1⟩ := lend hc k4; exact (shift_Rising_ok r.Rating 10 0 (-50) 25 hrd1 hc hr_4).mono fun e w h => ⟨h.1,((hth1 _ _ h.2).unpick k4)⟩)) fun a w hf hc => stP hf rfl rfl rfl (pM rfl) fun a hf => stP hf rfl rfl rfl (pX rfl rfl) fun a hf => stP hf rfl rfl rfl (pX rfl rfl) fun a hf => stAl (cs := [.int .i64 0,.int .i64 0]) hf hc rfl rfl zr_37 rfl fun b_5 a w hf hc => stSt (vs := [.int .i64 r_4.1.N,.int .i64 r_4.1.D]) hf hc rfl rfl rfl rfl sz_37 rfl rfl u0 fun w hc => stP hf rfl rfl rfl (pA rfl) fun a hf => cNil ?_
 refine h6 _ _ ?_
 refine wp_seq_k fun K7 h7 => wp_seq_k fun K8 h8 => cReg ?_
 refine stP hf rfl rfl rfl (pM rfl) fun a hf => stP hf rfl rfl rfl (pNe rfl rfl) fun a hf => stP hf rfl rfl rfl (pM rfl) fun a hf => stCut 3 (fun a w => Has 158 a [(1,.pointer (some ⟨b_1,0,none⟩)),(2,.pointer (some ⟨b_2,0,none⟩)),(3,.int .i64 r_1.2),(4,.pointer (some ⟨b_3,0,none⟩)),(5,.int .i64 r_2.2),(6,.pointer (some ⟨b_4,0,none⟩)),(7,.int .i64 r_3.2),(8,.pointer (some ⟨b_5,0,none⟩)),(9,.int .i64 r_4.2),(42,.int .i64 r_1.2),(43,.bool (r_1.2 != 0)),(44,.bool (r_1.2 != 0)),(47,.bool ((r_1.2 != 0) || (r_2.2 != 0)))] ∧ Ctx G (.box b_5 [.int .i64 r_4.1.N,.int .i64 r_4.1.D] 37::.box b_4 [.int .i64 r_3.1.N,.int .i64 r_3.1.D] 37::.box b_3 [.int .i64 r_2.1.N,.int .i64 r_2.1.D] 37::.box b_2 [.int .i64 r_1.1.N,.int .i64 r_1.1.D] 37::.box b_1 [.slice p_1 r.Rating.length c_1,.slice p_2 r.Gaugings.length c_2] 25::.row p_1 c_1 (r.Rating.map enc_shift_Mark) 77 2::.row p_2 c_2 (r.Gaugings.map enc_shift_Gauging) 71 4::Lf) w) ?_ ?_
 ·cases hb : (r_1.2 != 0)
  ·rw [hb] at hf
   refine stP hf rfl rfl rfl (pM rfl) fun a hf => stP hf rfl rfl rfl (pNe rfl rfl) fun a hf => stP hf rfl rfl rfl (pPf rfl rfl) fun a hf => cNil ⟨hf.keep ⟨rfl,rfl,rfl,rfl,rfl,rfl,rfl,rfl,rfl,rfl,rfl,rfl,rfl,trivial⟩,hc⟩
  ·rw [hb] at hf
   refine stS hf rfl rfl rfl fun a hf => stS hf rfl rfl rfl fun a hf => stP hf rfl rfl rfl (pPt rfl rfl) fun a hf => cNil ⟨hf.keep ⟨rfl,rfl,rfl,rfl,rfl,rfl,rfl,rfl,rfl,rfl,rfl,rfl,rfl,trivial⟩,hc⟩
 intro a w ⟨hf,hc⟩
 refine stP hf rfl rfl rfl (pM rfl) fun a hf => stCut 3 (fun a w => Has 158 a [(1,.pointer (some ⟨b_1,0,none⟩)),(2,.pointer (some ⟨b_2,0,none⟩)),(3,.int .i64 r_1.2),(4,.pointer (some ⟨b_3,0,none⟩)),(5,.int .i64 r_2.2),(6,.pointer (some ⟨b_4,0,none⟩)),(7,.int .i64 r_3.2),(8,.pointer (some ⟨b_5,0,none⟩)),(9,.int .i64 r_4.2),(42,.int .i64 r_1.2),(43,.bool (r_1.2 != 0)),(44,.bool (r_1.2 != 0)),(47,.bool ((r_1.2 != 0) || (r_2.2 != 0))),(48,.bool ((r_1.2 != 0) || (r_2.2 != 0))),(51,.bool (((r_1.2 != 0) || (r_2.2 != 0)) || (r_3.2 != 0)))] ∧ Ctx G (.box b_5 [.int .i64 r_4.1.N,.int .i64 r_4.1.D] 37::.box b_4 [.int .i64 r_3.1.N,.int .i64 r_3.1.D] 37::.box b_3 [.int .i64 r_2.1.N,.int .i64 r_2.1.D] 37::.box b_2 [.int .i64 r_1.1.N,.int .i64 r_1.1.D] 37::.box b_1 [.slice p_1 r.Rating.length c_1,.slice p_2 r.Gaugings.length c_2] 25::.row p_1 c_1 (r.Rating.map enc_shift_Mark) 77 2::.row p_2 c_2 (r.Gaugings.map enc_shift_Gauging) 71 4::Lf) w) ?_ ?_
 ·cases hb : ((r_1.2 != 0) || (r_2.2 != 0))
  ·rw [hb] at hf
   refine stP hf rfl rfl rfl (pM rfl) fun a hf => stP hf rfl rfl rfl (pNe rfl rfl) fun a hf => stP hf rfl rfl rfl (pPf rfl rfl) fun a hf => cNil ⟨hf.keep ⟨rfl,rfl,rfl,rfl,rfl,rfl,rfl,rfl,rfl,rfl,rfl,rfl,rfl,rfl,rfl,trivial⟩,hc⟩
  ·rw [hb] at hf
   refine stS hf rfl rfl rfl fun a hf => stS hf rfl rfl rfl fun a hf => stP hf rfl rfl rfl (pPt rfl rfl) fun a hf => cNil ⟨hf.keep ⟨rfl,rfl,rfl,rfl,rfl,rfl,rfl,rfl,rfl,rfl,rfl,rfl,rfl,rfl,rfl,trivial⟩,hc⟩
 intro a w ⟨hf,hc⟩
 refine stP hf rfl rfl rfl (pM rfl) fun a hf => stCut 3 (fun a w => Has 158 a [(1,.pointer (some ⟨b_1,0,none⟩)),(2,.pointer (some ⟨b_2,0,none⟩)),(3,.int .i64 r_1.2),(4,.pointer (some ⟨b_3,0,none⟩)),(5,.int .i64 r_2.2),(6,.pointer (some ⟨b_4,0,none⟩)),(7,.int .i64 r_3.2),(8,.pointer (some ⟨b_5,0,none⟩)),(9,.int .i64 r_4.2),(42,.int .i64 r_1.2),(43,.bool (r_1.2 != 0)),(44,.bool (r_1.2 != 0)),(47,.bool ((r_1.2 != 0) || (r_2.2 != 0))),(48,.bool ((r_1.2 != 0) || (r_2.2 != 0))),(51,.bool (((r_1.2 != 0) || (r_2.2 != 0)) || (r_3.2 != 0))),(52,.bool (((r_1.2 != 0) || (r_2.2 != 0)) || (r_3.2 != 0))),(55,.bool ((((r_1.2 != 0) || (r_2.2 != 0)) || (r_3.2 != 0)) || (r_4.2 != 0)))] ∧ Ctx G (.box b_5 [.int .i64 r_4.1.N,.int .i64 r_4.1.D] 37::.box b_4 [.int .i64 r_3.1.N,.int .i64 r_3.1.D] 37::.box b_3 [.int .i64 r_2.1.N,.int .i64 r_2.1.D] 37::.box b_2 [.int .i64 r_1.1.N,.int .i64 r_1.1.D] 37::.box b_1 [.slice p_1 r.Rating.length c_1,.slice p_2 r.Gaugings.length c_2] 25::.row p_1 c_1 (r.Rating.map enc_shift_Mark) 77 2::.row p_2 c_2 (r.Gaugings.map enc_shift_Gauging) 71 4::Lf) w) ?_ ?_
 ·cases hb : (((r_1.2 != 0) || (r_2.2 != 0)) || (r_3.2 != 0))
  ·rw [hb] at hf
   refine stP hf rfl rfl rfl (pM rfl) fun a hf => stP hf rfl rfl rfl (pNe rfl rfl) fun a hf => stP hf rfl rfl rfl (pPf rfl rfl) fun a hf => cNil ⟨hf.keep ⟨rfl,rfl,rfl,rfl,rfl,rfl,rfl,rfl,rfl,rfl,rfl,rfl,rfl,rfl,rfl,rfl,rfl,trivial⟩,hc⟩
  ·rw [hb] at hf
   refine stS hf rfl rfl rfl fun a hf => stS hf rfl rfl rfl fun a hf => stP hf rfl rfl rfl (pPt rfl rfl) fun a hf => cNil ⟨hf.keep ⟨rfl,rfl,rfl,rfl,rfl,rfl,rfl,rfl,rfl,rfl,rfl,rfl,rfl,rfl,rfl,rfl,rfl,trivial⟩,hc⟩
 intro a w ⟨hf,hc⟩
 refine stP hf rfl rfl rfl (pM rfl) fun a hf => stCut 4 (fun a w => Has 158 a [(1,.pointer (some ⟨b_1,0,none⟩)),(2,.pointer (some ⟨b_2,0,none⟩)),(3,.int .i64 r_1.2),(4,.pointer (some ⟨b_3,0,none⟩)),(5,.int .i64 r_2.2),(6,.pointer (some ⟨b_4,0,none⟩)),(7,.int .i64 r_3.2),(8,.pointer (some ⟨b_5,0,none⟩)),(9,.int .i64 r_4.2),(42,.int .i64 r_1.2),(43,.bool (r_1.2 != 0)),(44,.bool (r_1.2 != 0)),(47,.bool ((r_1.2 != 0) || (r_2.2 != 0))),(48,.bool ((r_1.2 != 0) || (r_2.2 != 0))),(51,.bool (((r_1.2 != 0) || (r_2.2 != 0)) || (r_3.2 != 0))),(52,.bool (((r_1.2 != 0) || (r_2.2 != 0)) || (r_3.2 != 0))),(55,.bool ((((r_1.2 != 0) || (r_2.2 != 0)) || (r_3.2 != 0)) || (r_4.2 != 0))),(56,.bool ((((r_1.2 != 0) || (r_2.2 != 0)) || (r_3.2 != 0)) || (r_4.2 != 0))),(60,.bool (((((r_1.2 != 0) || (r_2.2 != 0)) || (r_3.2 != 0)) || (r_4.2 != 0)) || (!(r_1.1.N == 50 && r_1.1.D == 1))))] ∧ Ctx G (.box b_5 [.int .i64 r_4.1.N,.int .i64 r_4.1.D] 37::.box b_4 [.int .i64 r_3.1.N,.int .i64 r_3.1.D] 37::.box b_3 [.int .i64 r_2.1.N,.int .i64 r_2.1.D] 37::.box b_2 [.int .i64 r_1.1.N,.int .i64 r_1.1.D] 37::.box b_1 [.slice p_1 r.Rating.length c_1,.slice p_2 r.Gaugings.length c_2] 25::.row p_1 c_1 (r.Rating.map enc_shift_Mark) 77 2::.row p_2 c_2 (r.Gaugings.map enc_shift_Gauging) 71 4::Lf) w) ?_ ?_
 ·cases hb : ((((r_1.2 != 0) || (r_2.2 != 0)) || (r_3.2 != 0)) || (r_4.2 != 0))
  ·rw [hb] at hf
   refine stE hf hc rfl rfl rfl (eLdN (vs := [.int .i64 r_1.1.N,.int .i64 r_1.1.D]) ag_37 rfl rfl (cells_box (n := 2) m3 rfl)) fun a w hf hc => stP hf rfl rfl rfl (pBuildS (cells := [.int .i64 50,.int .i64 1]) bt_37 rfl rfl) fun a hf => stP hf rfl rfl rfl (pNeA ge_37 rfl rfl (eqs_37 _ _ _ _)) fun a hf => stP hf rfl rfl rfl (pPf rfl rfl) fun a hf => cNil ⟨hf.keep ⟨rfl,rfl,rfl,rfl,rfl,rfl,rfl,rfl,rfl,rfl,rfl,rfl,rfl,rfl,rfl,rfl,rfl,rfl,rfl,trivial⟩,hc⟩
  ·rw [hb] at hf
   refine stS hf rfl rfl rfl fun a hf => stS hf rfl rfl rfl fun a hf => stS hf rfl rfl rfl fun a hf => stP hf rfl rfl rfl (pPt rfl rfl) fun a hf => cNil ⟨hf.keep ⟨rfl,rfl,rfl,rfl,rfl,rfl,rfl,rfl,rfl,rfl,rfl,rfl,rfl,rfl,rfl,rfl,rfl,rfl,rfl,trivial⟩,hc⟩
 intro a w ⟨hf,hc⟩
 refine stP hf rfl rfl rfl (pM rfl) fun a hf => stCut 4 (fun a w => Has 158 a [(1,.pointer (some ⟨b_1,0,none⟩)),(2,.pointer (some ⟨b_2,0,none⟩)),(3,.int .i64 r_1.2),(4,.pointer (some ⟨b_3,0,none⟩)),(5,.int .i64 r_2.2),(6,.pointer (some ⟨b_4,0,none⟩)),(7,.int .i64 r_3.2),(8,.pointer (some ⟨b_5,0,none⟩)),(9,.int .i64 r_4.2),(42,.int .i64 r_1.2),(43,.bool (r_1.2 != 0)),(44,.bool (r_1.2 != 0)),(47,.bool ((r_1.2 != 0) || (r_2.2 != 0))),(48,.bool ((r_1.2 != 0) || (r_2.2 != 0))),(51,.bool (((r_1.2 != 0) || (r_2.2 != 0)) || (r_3.2 != 0))),(52,.bool (((r_1.2 != 0) || (r_2.2 != 0)) || (r_3.2 != 0))),(55,.bool ((((r_1.2 != 0) || (r_2.2 != 0)) || (r_3.2 != 0)) || (r_4.2 != 0))),(56,.bool ((((r_1.2 != 0) || (r_2.2 != 0)) || (r_3.2 != 0)) || (r_4.2 != 0))),(60,.bool (((((r_1.2 != 0) || (r_2.2 != 0)) || (r_3.2 != 0)) || (r_4.2 != 0)) || (!(r_1.1.N == 50 && r_1.1.D == 1)))),(61,.bool (((((r_1.2 != 0) || (r_2.2 != 0)) || (r_3.2 != 0)) || (r_4.2 != 0)) || (!(r_1.1.N == 50 && r_1.1.D == 1)))),(65,.bool ((((((r_1.2 != 0) || (r_2.2 != 0)) || (r_3.2 != 0)) || (r_4.2 != 0)) || (!(r_1.1.N == 50 && r_1.1.D == 1))) || (!(r_2.1.N == 370 && r_2.1.D == 1))))] ∧ Ctx G (.box b_5 [.int .i64 r_4.1.N,.int .i64 r_4.1.D] 37::.box b_4 [.int .i64 r_3.1.N,.int .i64 r_3.1.D] 37::.box b_3 [.int .i64 r_2.1.N,.int .i64 r_2.1.D] 37::.box b_2 [.int .i64 r_1.1.N,.int .i64 r_1.1.D] 37::.box b_1 [.slice p_1 r.Rating.length c_1,.slice p_2 r.Gaugings.length c_2] 25::.row p_1 c_1 (r.Rating.map enc_shift_Mark) 77 2::.row p_2 c_2 (r.Gaugings.map enc_shift_Gauging) 71 4::Lf) w) ?_ ?_
 ·cases hb : (((((r_1.2 != 0) || (r_2.2 != 0)) || (r_3.2 != 0)) || (r_4.2 != 0)) || (!(r_1.1.N == 50 && r_1.1.D == 1)))
  ·rw [hb] at hf
   refine stE hf hc rfl rfl rfl (eLdN (vs := [.int .i64 r_2.1.N,.int .i64 r_2.1.D]) ag_37 rfl rfl (cells_box (n := 2) m2 rfl)) fun a w hf hc => stP hf rfl rfl rfl (pBuildS (cells := [.int .i64 370,.int .i64 1]) bt_37 rfl rfl) fun a hf => stP hf rfl rfl rfl (pNeA ge_37 rfl rfl (eqs_37 _ _ _ _)) fun a hf => stP hf rfl rfl rfl (pPf rfl rfl) fun a hf => cNil ⟨hf.keep ⟨rfl,rfl,rfl,rfl,rfl,rfl,rfl,rfl,rfl,rfl,rfl,rfl,rfl,rfl,rfl,rfl,rfl,rfl,rfl,rfl,rfl,trivial⟩,hc⟩
  ·rw [hb] at hf
   refine stS hf rfl rfl rfl fun a hf => stS hf rfl rfl rfl fun a hf => stS hf rfl rfl rfl fun a hf => stP hf rfl rfl rfl (pPt rfl rfl) fun a hf => cNil ⟨hf.keep ⟨rfl,rfl,rfl,rfl,rfl,rfl,rfl,rfl,rfl,rfl,rfl,rfl,rfl,rfl,rfl,rfl,rfl,rfl,rfl,rfl,rfl,trivial⟩,hc⟩
 intro a w ⟨hf,hc⟩
 refine stP hf rfl rfl rfl (pM rfl) fun a hf => stCut 4 (fun a w => Has 158 a [(1,.pointer (some ⟨b_1,0,none⟩)),(2,.pointer (some ⟨b_2,0,none⟩)),(3,.int .i64 r_1.2),(4,.pointer (some ⟨b_3,0,none⟩)),(5,.int .i64 r_2.2),(6,.pointer (some ⟨b_4,0,none⟩)),(7,.int .i64 r_3.2),(8,.pointer (some ⟨b_5,0,none⟩)),(9,.int .i64 r_4.2),(42,.int .i64 r_1.2),(43,.bool (r_1.2 != 0)),(44,.bool (r_1.2 != 0)),(47,.bool ((r_1.2 != 0) || (r_2.2 != 0))),(48,.bool ((r_1.2 != 0) || (r_2.2 != 0))),(51,.bool (((r_1.2 != 0) || (r_2.2 != 0)) || (r_3.2 != 0))),(52,.bool (((r_1.2 != 0) || (r_2.2 != 0)) || (r_3.2 != 0))),(55,.bool ((((r_1.2 != 0) || (r_2.2 != 0)) || (r_3.2 != 0)) || (r_4.2 != 0))),(56,.bool ((((r_1.2 != 0) || (r_2.2 != 0)) || (r_3.2 != 0)) || (r_4.2 != 0))),(60,.bool (((((r_1.2 != 0) || (r_2.2 != 0)) || (r_3.2 != 0)) || (r_4.2 != 0)) || (!(r_1.1.N == 50 && r_1.1.D == 1)))),(61,.bool (((((r_1.2 != 0) || (r_2.2 != 0)) || (r_3.2 != 0)) || (r_4.2 != 0)) || (!(r_1.1.N == 50 && r_1.1.D == 1)))),(65,.bool ((((((r_1.2 != 0) || (r_2.2 != 0)) || (r_3.2 != 0)) || (r_4.2 != 0)) || (!(r_1.1.N == 50 && r_1.1.D == 1))) || (!(r_2.1.N == 370 && r_2.1.D == 1)))),(66,.bool ((((((r_1.2 != 0) || (r_2.2 != 0)) || (r_3.2 != 0)) || (r_4.2 != 0)) || (!(r_1.1.N == 50 && r_1.1.D == 1))) || (!(r_2.1.N == 370 && r_2.1.D == 1)))),(70,.bool (((((((r_1.2 != 0) || (r_2.2 != 0)) || (r_3.2 != 0)) || (r_4.2 != 0)) || (!(r_1.1.N == 50 && r_1.1.D == 1))) || (!(r_2.1.N == 370 && r_2.1.D == 1))) || (!(r_3.1.N == 110 && r_3.1.D == 1))))] ∧ Ctx G (.box b_5 [.int .i64 r_4.1.N,.int .i64 r_4.1.D] 37::.box b_4 [.int .i64 r_3.1.N,.int .i64 r_3.1.D] 37::.box b_3 [.int .i64 r_2.1.N,.int .i64 r_2.1.D] 37::.box b_2 [.int .i64 r_1.1.N,.int .i64 r_1.1.D] 37::.box b_1 [.slice p_1 r.Rating.length c_1,.slice p_2 r.Gaugings.length c_2] 25::.row p_1 c_1 (r.Rating.map enc_shift_Mark) 77 2::.row p_2 c_2 (r.Gaugings.map enc_shift_Gauging) 71 4::Lf) w) ?_ ?_
 ·cases hb : ((((((r_1.2 != 0) || (r_2.2 != 0)) || (r_3.2 != 0)) || (r_4.2 != 0)) || (!(r_1.1.N == 50 && r_1.1.D == 1))) || (!(r_2.1.N == 370 && r_2.1.D == 1)))
  ·rw [hb] at hf
   refine stE hf hc rfl rfl rfl (eLdN (vs := [.int .i64 r_3.1.N,.int .i64 r_3.1.D]) ag_37 rfl rfl (cells_box (n := 2) m1 rfl)) fun a w hf hc => stP hf rfl rfl rfl (pBuildS (cells := [.int .i64 110,.int .i64 1]) bt_37 rfl rfl) fun a hf => stP hf rfl rfl rfl (pNeA ge_37 rfl rfl (eqs_37 _ _ _ _)) fun a hf => stP hf rfl rfl rfl (pPf rfl rfl) fun a hf => cNil ⟨hf.keep ⟨rfl,rfl,rfl,rfl,rfl,rfl,rfl,rfl,rfl,rfl,rfl,rfl,rfl,rfl,rfl,rfl,rfl,rfl,rfl,rfl,rfl,rfl,rfl,trivial⟩,hc⟩
  ·rw [hb] at hf
   refine stS hf rfl rfl rfl fun a hf => stS hf rfl rfl rfl fun a hf => stS hf rfl rfl rfl fun a hf => stP hf rfl rfl rfl (pPt rfl rfl) fun a hf => cNil ⟨hf.keep ⟨rfl,rfl,rfl,rfl,rfl,rfl,rfl,rfl,rfl,rfl,rfl,rfl,rfl,rfl,rfl,rfl,rfl,rfl,rfl,rfl,rfl,rfl,rfl,trivial⟩,hc⟩
 intro a w ⟨hf,hc⟩
 refine stP hf rfl rfl rfl (pM rfl) fun a hf => stCut 4 (fun a w => Has 158 a [(1,.pointer (some ⟨b_1,0,none⟩)),(2,.pointer (some ⟨b_2,0,none⟩)),(3,.int .i64 r_1.2),(4,.pointer (some ⟨b_3,0,none⟩)),(5,.int .i64 r_2.2),(6,.pointer (some ⟨b_4,0,none⟩)),(7,.int .i64 r_3.2),(8,.pointer (some ⟨b_5,0,none⟩)),(9,.int .i64 r_4.2),(42,.int .i64 r_1.2),(43,.bool (r_1.2 != 0)),(44,.bool (r_1.2 != 0)),(47,.bool ((r_1.2 != 0) || (r_2.2 != 0))),(48,.bool ((r_1.2 != 0) || (r_2.2 != 0))),(51,.bool (((r_1.2 != 0) || (r_2.2 != 0)) || (r_3.2 != 0))),(52,.bool (((r_1.2 != 0) || (r_2.2 != 0)) || (r_3.2 != 0))),(55,.bool ((((r_1.2 != 0) || (r_2.2 != 0)) || (r_3.2 != 0)) || (r_4.2 != 0))),(56,.bool ((((r_1.2 != 0) || (r_2.2 != 0)) || (r_3.2 != 0)) || (r_4.2 != 0))),(60,.bool (((((r_1.2 != 0) || (r_2.2 != 0)) || (r_3.2 != 0)) || (r_4.2 != 0)) || (!(r_1.1.N == 50 && r_1.1.D == 1)))),(61,.bool (((((r_1.2 != 0) || (r_2.2 != 0)) || (r_3.2 != 0)) || (r_4.2 != 0)) || (!(r_1.1.N == 50 && r_1.1.D == 1)))),(65,.bool ((((((r_1.2 != 0) || (r_2.2 != 0)) || (r_3.2 != 0)) || (r_4.2 != 0)) || (!(r_1.1.N == 50 && r_1.1.D == 1))) || (!(r_2.1.N == 370 && r_2.1.D == 1)))),(66,.bool ((((((r_1.2 != 0) || (r_2.2 != 0)) || (r_3.2 != 0)) || (r_4.2 != 0)) || (!(r_1.1.N == 50 && r_1.1.D == 1))) || (!(r_2.1.N == 370 && r_2.1.D == 1)))),(70,.bool (((((((r_1.2 != 0) || (r_2.2 != 0)) || (r_3.2 != 0)) || (r_4.2 != 0)) || (!(r_1.1.N == 50 && r_1.1.D == 1))) || (!(r_2.1.N == 370 && r_2.1.D == 1))) || (!(r_3.1.N == 110 && r_3.1.D == 1)))),(71,.bool (((((((r_1.2 != 0) || (r_2.2 != 0)) || (r_3.2 != 0)) || (r_4.2 != 0)) || (!(r_1.1.N == 50 && r_1.1.D == 1))) || (!(r_2.1.N == 370 && r_2.1.D == 1))) || (!(r_3.1.N == 110 && r_3.1.D == 1)))),(75,.bool ((((((((r_1.2 != 0) || (r_2.2 != 0)) || (r_3.2 != 0)) || (r_4.2 != 0)) || (!(r_1.1.N == 50 && r_1.1.D == 1))) || (!(r_2.1.N == 370 && r_2.1.D == 1))) || (!(r_3.1.N == 110 && r_3.1.D == 1))) || (!(r_4.1.N == 0 && r_4.1.D == 1))))] ∧ Ctx G (.box b_5 [.int .i64 r_4.1.N,.int .i64 r_4.1.D] 37::.box b_4 [.int .i64 r_3.1.N,.int .i64 r_3.1.D] 37::.box b_3 [.int .i64 r_2.1.N,.int .i64 r_2.1.D] 37::.box b_2 [.int .i64 r_1.1.N,.int .i64 r_1.1.D] 37::.box b_1 [.slice p_1 r.Rating.length c_1,.slice p_2 r.Gaugings.length c_2] 25::.row p_1 c_1 (r.Rating.map enc_shift_Mark) 77 2::.row p_2 c_2 (r.Gaugings.map enc_shift_Gauging) 71 4::Lf) w) ?_ ?_
 ·cases hb : (((((((r_1.2 != 0) || (r_2.2 != 0)) || (r_3.2 != 0)) || (r_4.2 != 0)) || (!(r_1.1.N == 50 && r_1.1.D == 1))) || (!(r_2.1.N == 370 && r_2.1.D == 1))) || (!(r_3.1.N == 110 && r_3.1.D == 1)))
  ·rw [hb] at hf
   refine stE hf hc rfl rfl rfl (eLdN (vs := [.int .i64 r_4.1.N,.int .i64 r_4.1.D]) ag_37 rfl rfl (cells_box (n := 2) m0 rfl)) fun a w hf hc => stP hf rfl rfl rfl (pBuildS (cells := [.int .i64 0,.int .i64 1]) bt_37 rfl rfl) fun a hf => stP hf rfl rfl rfl (pNeA ge_37 rfl rfl (eqs_37 _ _ _ _)) fun a hf => stP hf rfl rfl rfl (pPf rfl rfl) fun a hf => cNil ⟨hf.keep ⟨rfl,rfl,rfl,rfl,rfl,rfl,rfl,rfl,rfl,rfl,rfl,rfl,rfl,rfl,rfl,rfl,rfl,rfl,rfl,rfl,rfl,rfl,rfl,rfl,rfl,trivial⟩,hc⟩
  ·rw [hb] at hf
   refine stS hf rfl rfl rfl fun a hf => stS hf rfl rfl rfl fun a hf => stS hf rfl rfl rfl fun a hf => stP hf rfl rfl rfl (pPt rfl rfl) fun a hf => cNil ⟨hf.keep ⟨rfl,rfl,rfl,rfl,rfl,rfl,rfl,rfl,rfl,rfl,rfl,rfl,rfl,rfl,rfl,rfl,rfl,rfl,rfl,rfl,rfl,rfl,rfl,rfl,rfl,trivial⟩,hc⟩
 intro a w ⟨hf,hc⟩
 refine cNil ?_
 refine h8 _ _ ?_
 refine cCond (b := ((((((((r_1.2 != 0) || (r_2.2 != 0)) || (r_3.2 != 0)) || (r_4.2 != 0)) || (!(r_1.1.N == 50 && r_1.1.D == 1))) || (!(r_2.1.N == 370 && r_2.1.D == 1))) || (!(r_3.1.N == 110 && r_3.1.D == 1))) || (!(r_4.1.N == 0 && r_4.1.D == 1)))) hf rfl (fun hb => ?_) (fun hb => ?_)
 ·replace hF := condT hb hF
  clear hb
  refine wp_seq_k fun K9 h9 => cReg ?_
  refine stP hf rfl rfl rfl (pA rfl) fun a hf => cNil ?_
  refine h9 _ _ ?_
  refine wp_ret ?_
  refine xThenR ?_
  obtain rfl := Option.some.inj hF
  replace hc := hc.drop k6
  replace hc := hc.drop k5
  replace hc := hc.drop k4
  replace hc := hc.drop k3
  replace hc := hc.drop k2
  replace hc := hc.drop k1
  replace hc := hc.drop k0
  exact fnOut1 (by simp) rfl Try.results12 hf hc (show look _ 0 = _ from rfl) ⟨rfl,hc⟩
 ·replace hF := condF hb hF
  clear hb
  refine wp_skip ?_
  refine h7 _ _ ?_
  refine wp_seq_k fun K10 h10 => cReg ?_
  refine stE hf hc rfl rfl rfl (eLdN (vs := [.slice p_1 r.Rating.length c_1,.slice p_2 r.Gaugings.length c_2]) ag_25 rfl rfl (cells_box (n := 2) m4 rfl)) fun a w hf hc => ?_
  obtain ⟨r_5,hr_5,hF⟩ := bnd_some hF
  obtain ⟨G1,hle1,hrd1,hc,hth1⟩ := lend hc k5
  obtain ⟨G2,hle2,hrd2,hc,hth2⟩ := lend hc k5
  refine stC (vs := [.agg #[.slice p_1 r.Rating.length c_1,.slice p_2 r.Gaugings.length c_2]]) (caps := []) hf rfl rfl rfl en_22 rfl rfl rfl rfl (shift_Passes_ok r (hrd1.mono hle2) hrd2 hc hr_5) ?_
  rintro _ w ⟨p_3,c_3,rfl,hc⟩
  refine ⟨_,rfl,fun a hf => ?_⟩
  replace hc := hth2 _ _ hc
  replace hc := hth1 _ _ hc
  refine stP hf rfl rfl rfl (pM rfl) fun a hf => stP hf rfl rfl rfl (pX rfl rfl) fun a hf => stP hf rfl rfl rfl (pX rfl rfl) fun a hf => stP hf rfl rfl rfl (pA rfl) fun a hf => stP hf rfl rfl rfl (pA rfl) fun a hf => cNil ?_
  refine h10 _ _ ?_
  refine wp_seq_k fun K11 h11 => cReg ?_
  refine stE hf hc rfl rfl rfl (eLdN (vs := [.slice p_1 r.Rating.length c_1,.slice p_2 r.Gaugings.length c_2]) ag_25 rfl rfl (cells_box (n := 2) m7 rfl)) fun a w hf hc => ?_
  obtain ⟨r_6,hr_6,hF⟩ := bnd_some hF
  obtain ⟨G1,hle1,hrd1,hc,hth1⟩ := lend hc k0
  obtain ⟨G2,hle2,hrd2,hc,hth2⟩ := lend hc k0
  refine stC (vs := [.agg #[.slice p_1 r.Rating.length c_1,.slice p_2 r.Gaugings.length c_2]]) (caps := []) hf rfl rfl rfl en_33 rfl rfl rfl rfl (shift_Least_ok r (hrd1.mono hle2) hrd2 hc hr_6) ?_
  rintro _ w ⟨p_4,c_4,rfl,hc⟩
  refine ⟨_,rfl,fun a hf => ?_⟩
  replace hc := hth2 _ _ hc
  replace hc := hth1 _ _ hc
  refine stP hf rfl rfl rfl (pM rfl) fun a hf => stP hf rfl rfl rfl (pX rfl rfl) fun a hf => stP hf rfl rfl rfl (pX rfl rfl) fun a hf => stP hf rfl rfl rfl (pX rfl rfl) fun a hf => stP hf rfl rfl rfl (pA rfl) fun a hf => stP hf rfl rfl rfl (pA rfl) fun a hf => stP hf rfl rfl rfl (pA rfl) fun a hf => cNil ?_
  refine h11 _ _ ?_
  refine wp_seq_k fun K12 h12 => cReg ?_
  refine stE hf hc rfl rfl rfl (eLdN (vs := [.slice p_1 r.Rating.length c_1,.slice p_2 r.Gaugings.length c_2]) ag_25 rfl rfl (cells_box (n := 2) m8 rfl)) fun a w hf hc => stP hf rfl rfl rfl (pBuildS (cells := [.int .i64 0,.bool false]) bt_91 rfl rfl) fun a hf => stP hf rfl rfl rfl (pBuildS (cells := [.int .i64 1,.bool true]) bt_91 rfl rfl) fun a hf => stP hf rfl rfl rfl (pBuildS (cells := [.int .i64 2,.bool false]) bt_91 rfl rfl) fun a hf => stBS (rows := ([(⟨0,false⟩ : shift_Turn),(⟨1,true⟩ : shift_Turn),(⟨2,false⟩ : shift_Turn)] : List shift_Turn).map enc_shift_Turn) (vs := [(0,.agg #[.int .i64 0,.bool false]),(1,.agg #[.int .i64 1,.bool true]),(2,.agg #[.int .i64 2,.bool false])]) hf hc rfl rfl sl_87 rfl ⟨rfl,rfl,rfl,rfl,rfl,rfl,rfl,rfl,rfl,trivial⟩ rfl rfl fun b_6 a w hf hc => ?_
  obtain ⟨r_7,hr_7,hF⟩ := bnd_some hF
  refine stE hf hc rfl rfl rfl (eC (v := .tuple #[.int .i64 r_7.1,.int .i64 r_7.2]) (vs := [.agg #[.slice p_1 r.Rating.length c_1,.slice p_2 r.Gaugings.length c_2],.slice (some ⟨b_6,0,none⟩) 3 3]) (caps := []) en_46 rfl rfl rfl rfl (fun w hc => by obtain ⟨G1,hle1,hrd1,hc,hth1⟩ := lend hc k1; obtain ⟨G2,hle2,hrd2,hc,hth2⟩ := lend hc k1; obtain ⟨G3,hle3,hrd3,hc,hth3⟩ := lend hc k0; exact (shift_Proves_ok r ([(⟨0,false⟩ : shift_Turn),(⟨1,true⟩ : shift_Turn),(⟨2,false⟩ : shift_Turn)] : List shift_Turn) ((hrd1.mono hle2).mono hle3) (hrd2.mono hle3) hrd3 hc hr_7).mono fun e w h => ⟨h.1,((hth1 _ _ ((hth2 _ _ ((hth3 _ _ h.2).unpick k0)).unpick k1)).unpick k1)⟩)) fun a w hf hc => stP hf rfl rfl rfl (pM rfl) fun a hf => stP hf rfl rfl rfl (pX rfl rfl) fun a hf => stP hf rfl rfl rfl (pX rfl rfl) fun a hf => stP hf rfl rfl rfl (pA rfl) fun a hf => stP hf rfl rfl rfl (pA rfl) fun a hf => cNil ?_
  refine h12 _ _ ?_
  refine wp_seq_k fun K13 h13 => cReg ?_
  refine stE hf hc rfl rfl rfl (eLdN (vs := [.slice p_1 r.Rating.length c_1,.slice p_2 r.Gaugings.length c_2]) ag_25 rfl rfl (cells_box (n := 2) m9 rfl)) fun a w hf hc => ?_
  obtain ⟨r_8,hr_8,hF⟩ := bnd_some hF
  obtain ⟨G1,hle1,hrd1,hc,hth1⟩ := lend hc k1
  obtain ⟨G2,hle2,hrd2,hc,hth2⟩ := lend hc k1
  refine stC (vs := [.agg #[.slice p_1 r.Rating.length c_1,.slice p_2 r.Gaugings.length c_2],.int .i64 6]) (caps := []) hf rfl rfl rfl en_27 rfl rfl rfl rfl (shift_Can_ok r 6 (hrd1.mono hle2) hrd2 hc hr_8) ?_
  rintro _ w ⟨p_5,c_5,rfl,hc⟩
  refine ⟨_,rfl,fun a hf => ?_⟩
  replace hc := hth2 _ _ hc
  replace hc := hth1 _ _ hc
  refine stP hf rfl rfl rfl (pM rfl) fun a hf => stP hf rfl rfl rfl (pX rfl rfl) fun a hf => stP hf rfl rfl rfl (pX rfl rfl) fun a hf => stP hf rfl rfl rfl (pA rfl) fun a hf => stP hf rfl rfl rfl (pA rfl) fun a hf => cNil ?_
  refine h13 _ _ ?_
  refine wp_seq_k fun K14 h14 => cReg ?_
  refine stE hf hc rfl rfl rfl (eLdN (vs := [.slice p_1 r.Rating.length c_1,.slice p_2 r.Gaugings.length c_2]) ag_25 rfl rfl (cells_box (n := 2) m10 rfl)) fun a w hf hc => ?_
  obtain ⟨r_9,hr_9,hF⟩ := bnd_some hF
  refine stE hf hc rfl rfl rfl (eC (v := .tuple #[.agg #[.int .i64 r_9.1.Lo,.int .i64 r_9.1.Hi],.int .i64 r_9.2]) (vs := [.agg #[.slice p_1 r.Rating.length c_1,.slice p_2 r.Gaugings.length c_2],.int .i64 6,.int .i64 3,.int .i64 13]) (caps := []) en_29 rfl rfl rfl rfl (fun w hc => by obtain ⟨G1,hle1,hrd1,hc,hth1⟩ := lend hc k0; obtain ⟨G2,hle2,hrd2,hc,hth2⟩ := lend hc k0; exact (shift_Between_ok r 6 3 13 (hrd1.mono hle2) hrd2 hc hr_9).mono fun e w h => ⟨h.1,((hth1 _ _ ((hth2 _ _ h.2).unpick k0)).unpick k0)⟩)) fun a w hf hc => stP hf rfl rfl rfl (pM rfl) fun a hf => stP hf rfl rfl rfl (pX rfl rfl) fun a hf => stP hf rfl rfl rfl (pX rfl rfl) fun a hf => stAl (cs := [.int .i64 0,.int .i64 0]) hf hc rfl rfl zr_50 rfl fun b_7 a w hf hc => stSt (vs := [.int .i64 r_9.1.Lo,.int .i64 r_9.1.Hi]) hf hc rfl rfl rfl rfl sz_50 rfl rfl u0 fun w hc => stP hf rfl rfl rfl (pA rfl) fun a hf => cNil ?_
  refine h14 _ _ ?_
  refine wp_seq_k fun K15 h15 => ?_
  obtain ⟨r_10,hr_10,hF⟩ := bnd_some hF
  obtain ⟨r_11,hr_11,hF⟩ := bnd_some hF
  obtain ⟨r_12,hr_12,hF⟩ := bnd_some hF
  obtain ⟨r_13,hr_13,hF⟩ := bnd_some hF
  replace hc := hc.nilRow 0 0
  replace hc := hc.nilRow 0 0
  replace hc := hc.nilRow 0 0
  refine regionE (fun θ => (⟨none,none,3,.int .i64 r_5.2⟩::⟨none,none,5,.int .i64 r_6.2.2⟩::⟨none,none,7,.int .i64 r_7.2⟩::⟨none,none,9,.int .i64 r_8.2⟩::⟨none,none,10,.slice p_3 r_5.1.length c_3⟩::⟨none,none,11,.slice p_4 r_6.1.length c_4⟩::⟨none,none,12,.int .i64 r_6.2.1⟩::⟨none,none,13,.int .i64 r_7.1⟩::⟨none,none,14,.slice p_5 r_8.1.length c_5⟩::⟨none,none,15,.pointer (some ⟨b_7,0,none⟩)⟩::⟨none,none,16,.int .i64 r_9.2⟩::⟨some 0,none,106,.int .i64 r_5.2⟩::⟨some 1,none,107,.bool (r_5.2 == 0)⟩::⟨some 2,none,108,.bool (r_5.2 == 0)⟩::⟨some 3,none,109,(bif (r_5.2 == 0) then .int .i64 r_6.2.2 else undef)⟩::⟨some 4,none,110,(bif (r_5.2 == 0) then .bool (r_6.2.2 == 0) else undef)⟩::⟨some 5,none,111,.bool ((r_5.2 == 0) && (r_6.2.2 == 0))⟩::⟨some 6,none,112,.bool ((r_5.2 == 0) && (r_6.2.2 == 0))⟩::⟨some 7,none,113,(bif ((r_5.2 == 0) && (r_6.2.2 == 0)) then .int .i64 r_7.2 else undef)⟩::⟨some 8,none,114,(bif ((r_5.2 == 0) && (r_6.2.2 == 0)) then .bool (r_7.2 == 0) else undef)⟩::⟨some 9,none,115,.bool (((r_5.2 == 0) && (r_6.2.2 == 0)) && (r_7.2 == 0))⟩::⟨some 10,none,116,.bool (((r_5.2 == 0) && (r_6.2.2 == 0)) && (r_7.2 == 0))⟩::⟨some 11,none,117,(bif (((r_5.2 == 0) && (r_6.2.2 == 0)) && (r_7.2 == 0)) then .int .i64 r_8.2 else undef)⟩::⟨some 12,none,118,(bif (((r_5.2 == 0) && (r_6.2.2 == 0)) && (r_7.2 == 0)) then .bool (r_8.2 == 0) else undef)⟩::⟨some 13,none,119,.bool ((((r_5.2 == 0) && (r_6.2.2 == 0)) && (r_7.2 == 0)) && (r_8.2 == 0))⟩::⟨some 14,none,120,.bool ((((r_5.2 == 0) && (r_6.2.2 == 0)) && (r_7.2 == 0)) && (r_8.2 == 0))⟩::⟨some 15,none,121,(bif ((((r_5.2 == 0) && (r_6.2.2 == 0)) && (r_7.2 == 0)) && (r_8.2 == 0)) then .int .i64 r_9.2 else undef)⟩::⟨some 16,none,122,(bif ((((r_5.2 == 0) && (r_6.2.2 == 0)) && (r_7.2 == 0)) && (r_8.2 == 0)) then .bool (r_9.2 == 0) else undef)⟩::⟨some 17,none,123,.bool (((((r_5.2 == 0) && (r_6.2.2 == 0)) && (r_7.2 == 0)) && (r_8.2 == 0)) && (r_9.2 == 0))⟩::⟨some 18,none,124,.bool (((((r_5.2 == 0) && (r_6.2.2 == 0)) && (r_7.2 == 0)) && (r_8.2 == 0)) && (r_9.2 == 0))⟩::⟨some 19,none,125,(bif (((((r_5.2 == 0) && (r_6.2.2 == 0)) && (r_7.2 == 0)) && (r_8.2 == 0)) && (r_9.2 == 0)) then .slice p_3 r_5.1.length c_3 else undef)⟩::⟨some 20,none,126,(bif (((((r_5.2 == 0) && (r_6.2.2 == 0)) && (r_7.2 == 0)) && (r_8.2 == 0)) && (r_9.2 == 0)) then .agg #[.int .i64 2,.int .i64 4] else undef)⟩::⟨some 21,none,127,(bif (((((r_5.2 == 0) && (r_6.2.2 == 0)) && (r_7.2 == 0)) && (r_8.2 == 0)) && (r_9.2 == 0)) then .agg #[.int .i64 0,.int .i64 0] else undef)⟩::⟨some 22,none,128,(bif (((((r_5.2 == 0) && (r_6.2.2 == 0)) && (r_7.2 == 0)) && (r_8.2 == 0)) && (r_9.2 == 0)) then .agg #[.int .i64 3,.int .i64 8] else undef)⟩::⟨some 23,none,129,(bif (((((r_5.2 == 0) && (r_6.2.2 == 0)) && (r_7.2 == 0)) && (r_8.2 == 0)) && (r_9.2 == 0)) then .slice (some ⟨(θ 184).b,0,none⟩) 3 3 else undef)⟩::⟨some 24,none,130,(bif (((((r_5.2 == 0) && (r_6.2.2 == 0)) && (r_7.2 == 0)) && (r_8.2 == 0)) && (r_9.2 == 0)) then .bool r_10 else undef)⟩::⟨some 25,none,131,.bool ((((((r_5.2 == 0) && (r_6.2.2 == 0)) && (r_7.2 == 0)) && (r_8.2 == 0)) && (r_9.2 == 0)) && r_10)⟩::⟨some 26,none,132,.bool ((((((r_5.2 == 0) && (r_6.2.2 == 0)) && (r_7.2 == 0)) && (r_8.2 == 0)) && (r_9.2 == 0)) && r_10)⟩::⟨some 27,none,133,(bif ((((((r_5.2 == 0) && (r_6.2.2 == 0)) && (r_7.2 == 0)) && (r_8.2 == 0)) && (r_9.2 == 0)) && r_10) then .slice p_4 r_6.1.length c_4 else undef)⟩::⟨some 28,none,134,(bif ((((((r_5.2 == 0) && (r_6.2.2 == 0)) && (r_7.2 == 0)) && (r_8.2 == 0)) && (r_9.2 == 0)) && r_10) then .slice (some ⟨(θ 224).b,0,none⟩) 3 3 else undef)⟩::⟨some 29,none,135,(bif ((((((r_5.2 == 0) && (r_6.2.2 == 0)) && (r_7.2 == 0)) && (r_8.2 == 0)) && (r_9.2 == 0)) && r_10) then .bool r_11 else undef)⟩::⟨some 30,none,136,.bool (((((((r_5.2 == 0) && (r_6.2.2 == 0)) && (r_7.2 == 0)) && (r_8.2 == 0)) && (r_9.2 == 0)) && r_10) && r_11)⟩::⟨some 31,none,137,.bool (((((((r_5.2 == 0) && (r_6.2.2 == 0)) && (r_7.2 == 0)) && (r_8.2 == 0)) && (r_9.2 == 0)) && r_10) && r_11)⟩::⟨some 32,none,138,(bif (((((((r_5.2 == 0) && (r_6.2.2 == 0)) && (r_7.2 == 0)) && (r_8.2 == 0)) && (r_9.2 == 0)) && r_10) && r_11) then .int .i64 r_6.2.1 else undef)⟩::⟨some 33,none,139,(bif (((((((r_5.2 == 0) && (r_6.2.2 == 0)) && (r_7.2 == 0)) && (r_8.2 == 0)) && (r_9.2 == 0)) && r_10) && r_11) then .bool (r_6.2.1 == 5) else undef)⟩::⟨some 34,none,140,.bool ((((((((r_5.2 == 0) && (r_6.2.2 == 0)) && (r_7.2 == 0)) && (r_8.2 == 0)) && (r_9.2 == 0)) && r_10) && r_11) && (r_6.2.1 == 5))⟩::⟨some 35,none,141,.bool ((((((((r_5.2 == 0) && (r_6.2.2 == 0)) && (r_7.2 == 0)) && (r_8.2 == 0)) && (r_9.2 == 0)) && r_10) && r_11) && (r_6.2.1 == 5))⟩::⟨some 36,none,142,(bif ((((((((r_5.2 == 0) && (r_6.2.2 == 0)) && (r_7.2 == 0)) && (r_8.2 == 0)) && (r_9.2 == 0)) && r_10) && r_11) && (r_6.2.1 == 5)) then .int .i64 r_7.1 else undef)⟩::⟨some 37,none,143,(bif ((((((((r_5.2 == 0) && (r_6.2.2 == 0)) && (r_7.2 == 0)) && (r_8.2 == 0)) && (r_9.2 == 0)) && r_10) && r_11) && (r_6.2.1 == 5)) then .bool (r_7.1 == 5) else undef)⟩::⟨some 38,none,144,.bool (((((((((r_5.2 == 0) && (r_6.2.2 == 0)) && (r_7.2 == 0)) && (r_8.2 == 0)) && (r_9.2 == 0)) && r_10) && r_11) && (r_6.2.1 == 5)) && (r_7.1 == 5))⟩::⟨some 39,none,145,.bool (((((((((r_5.2 == 0) && (r_6.2.2 == 0)) && (r_7.2 == 0)) && (r_8.2 == 0)) && (r_9.2 == 0)) && r_10) && r_11) && (r_6.2.1 == 5)) && (r_7.1 == 5))⟩::⟨some 40,none,146,(bif (((((((((r_5.2 == 0) && (r_6.2.2 == 0)) && (r_7.2 == 0)) && (r_8.2 == 0)) && (r_9.2 == 0)) && r_10) && r_11) && (r_6.2.1 == 5)) && (r_7.1 == 5)) then .slice p_5 r_8.1.length c_5 else undef)⟩::⟨some 41,none,147,(bif (((((((((r_5.2 == 0) && (r_6.2.2 == 0)) && (r_7.2 == 0)) && (r_8.2 == 0)) && (r_9.2 == 0)) && r_10) && r_11) && (r_6.2.1 == 5)) && (r_7.1 == 5)) then .agg #[.int .i64 2,.int .i64 3] else undef)⟩::⟨some 42,none,148,(bif (((((((((r_5.2 == 0) && (r_6.2.2 == 0)) && (r_7.2 == 0)) && (r_8.2 == 0)) && (r_9.2 == 0)) && r_10) && r_11) && (r_6.2.1 == 5)) && (r_7.1 == 5)) then .agg #[.int .i64 0,.int .i64 0] else undef)⟩::⟨some 43,none,149,(bif (((((((((r_5.2 == 0) && (r_6.2.2 == 0)) && (r_7.2 == 0)) && (r_8.2 == 0)) && (r_9.2 == 0)) && r_10) && r_11) && (r_6.2.1 == 5)) && (r_7.1 == 5)) then .agg #[.int .i64 3,.int .i64 4] else undef)⟩::⟨some 44,none,150,(bif (((((((((r_5.2 == 0) && (r_6.2.2 == 0)) && (r_7.2 == 0)) && (r_8.2 == 0)) && (r_9.2 == 0)) && r_10) && r_11) && (r_6.2.1 == 5)) && (r_7.1 == 5)) then .slice (some ⟨(θ 352).b,0,none⟩) 3 3 else undef)⟩::⟨some 45,none,151,(bif (((((((((r_5.2 == 0) && (r_6.2.2 == 0)) && (r_7.2 == 0)) && (r_8.2 == 0)) && (r_9.2 == 0)) && r_10) && r_11) && (r_6.2.1 == 5)) && (r_7.1 == 5)) then .bool r_12 else undef)⟩::⟨some 46,none,152,.bool ((((((((((r_5.2 == 0) && (r_6.2.2 == 0)) && (r_7.2 == 0)) && (r_8.2 == 0)) && (r_9.2 == 0)) && r_10) && r_11) && (r_6.2.1 == 5)) && (r_7.1 == 5)) && r_12)⟩::⟨some 47,none,153,.bool ((((((((((r_5.2 == 0) && (r_6.2.2 == 0)) && (r_7.2 == 0)) && (r_8.2 == 0)) && (r_9.2 == 0)) && r_10) && r_11) && (r_6.2.1 == 5)) && (r_7.1 == 5)) && r_12)⟩::⟨some 48,none,154,(bif ((((((((((r_5.2 == 0) && (r_6.2.2 == 0)) && (r_7.2 == 0)) && (r_8.2 == 0)) && (r_9.2 == 0)) && r_10) && r_11) && (r_6.2.1 == 5)) && (r_7.1 == 5)) && r_12) then .agg #[.int .i64 r_9.1.Lo,.int .i64 r_9.1.Hi] else undef)⟩::⟨some 49,none,155,(bif ((((((((((r_5.2 == 0) && (r_6.2.2 == 0)) && (r_7.2 == 0)) && (r_8.2 == 0)) && (r_9.2 == 0)) && r_10) && r_11) && (r_6.2.1 == 5)) && (r_7.1 == 5)) && r_12) then .agg #[.int .i64 r_13.Lo,.int .i64 r_13.Hi] else undef)⟩::⟨some 50,none,156,(bif ((((((((((r_5.2 == 0) && (r_6.2.2 == 0)) && (r_7.2 == 0)) && (r_8.2 == 0)) && (r_9.2 == 0)) && r_10) && r_11) && (r_6.2.1 == 5)) && (r_7.1 == 5)) && r_12) then .bool (r_9.1.Lo == r_13.Lo && r_9.1.Hi == r_13.Hi) else undef)⟩::⟨some 51,none,157,.bool (((((((((((r_5.2 == 0) && (r_6.2.2 == 0)) && (r_7.2 == 0)) && (r_8.2 == 0)) && (r_9.2 == 0)) && r_10) && r_11) && (r_6.2.1 == 5)) && (r_7.1 == 5)) && r_12) && (r_9.1.Lo == r_13.Lo && r_9.1.Hi == r_13.Hi))⟩::⟨some 52,none,0,.bool (((((((((((r_5.2 == 0) && (r_6.2.2 == 0)) && (r_7.2 == 0)) && (r_8.2 == 0)) && (r_9.2 == 0)) && r_10) && r_11) && (r_6.2.1 == 5)) && (r_7.1 == 5)) && r_12) && (r_9.1.Lo == r_13.Lo && r_9.1.Hi == r_13.Hi))⟩::[])) (fun E θ => (bif E 44 then (gE (((((((((r_5.2 == 0) && (r_6.2.2 == 0)) && (r_7.2 == 0)) && (r_8.2 == 0)) && (r_9.2 == 0)) && r_10) && r_11) && (r_6.2.1 == 5)) && (r_7.1 == 5)) (.row (some ⟨(θ 352).b,0,none⟩) 3 (([(⟨2,3⟩ : api_Span),(⟨0,0⟩ : api_Span),(⟨3,4⟩ : api_Span)] : List api_Span).map enc_api_Span) 50 2)) else .row none 0 [] 0 0)::(bif E 28 then (gE ((((((r_5.2 == 0) && (r_6.2.2 == 0)) && (r_7.2 == 0)) && (r_8.2 == 0)) && (r_9.2 == 0)) && r_10) (.row (some ⟨(θ 224).b,0,none⟩) 3 (([2,0,3] : List Int).map encI_i64) 3 1)) else .row none 0 [] 0 0)::(bif E 23 then (gE (((((r_5.2 == 0) && (r_6.2.2 == 0)) && (r_7.2 == 0)) && (r_8.2 == 0)) && (r_9.2 == 0)) (.row (some ⟨(θ 184).b,0,none⟩) 3 (([(⟨2,4⟩ : api_Span),(⟨0,0⟩ : api_Span),(⟨3,8⟩ : api_Span)] : List api_Span).map enc_api_Span) 50 2)) else .row none 0 [] 0 0)::.box b_7 [.int .i64 r_9.1.Lo,.int .i64 r_9.1.Hi] 50::.row p_1 c_1 (r.Rating.map enc_shift_Mark) 77 2::.row p_2 c_2 (r.Gaugings.map enc_shift_Gauging) 71 4::.row p_5 c_5 (r_8.1.map enc_api_Span) 50 2::.row (some ⟨b_6,0,none⟩) 3 (([(⟨0,false⟩ : shift_Turn),(⟨1,true⟩ : shift_Turn),(⟨2,false⟩ : shift_Turn)] : List shift_Turn).map enc_shift_Turn) 91 2::.row p_4 c_4 (r_6.1.map encI_i64) 3 1::.row p_3 c_3 (r_5.1.map enc_api_Span) 50 2::.box b_5 [.int .i64 r_4.1.N,.int .i64 r_4.1.D] 37::.box b_4 [.int .i64 r_3.1.N,.int .i64 r_3.1.D] 37::.box b_3 [.int .i64 r_2.1.N,.int .i64 r_2.1.D] 37::.box b_2 [.int .i64 r_1.1.N,.int .i64 r_1.1.D] 37::.box b_1 [.slice p_1 r.Rating.length c_1,.slice p_2 r.Gaugings.length c_2] 25::Lf) [] (fun a w => Has 158 a [(0,.bool (((((((((((r_5.2 == 0) && (r_6.2.2 == 0)) && (r_7.2 == 0)) && (r_8.2 == 0)) && (r_9.2 == 0)) && r_10) && r_11) && (r_6.2.1 == 5)) && (r_7.1 == 5)) && r_12) && (r_9.1.Lo == r_13.Lo && r_9.1.Hi == r_13.Hi)))] ∧ Ctx G (.box b_7 [.int .i64 r_9.1.Lo,.int .i64 r_9.1.Hi] 50::.row p_1 c_1 (r.Rating.map enc_shift_Mark) 77 2::.row p_2 c_2 (r.Gaugings.map enc_shift_Gauging) 71 4::.row p_5 c_5 (r_8.1.map enc_api_Span) 50 2::.row (some ⟨b_6,0,none⟩) 3 (([(⟨0,false⟩ : shift_Turn),(⟨1,true⟩ : shift_Turn),(⟨2,false⟩ : shift_Turn)] : List shift_Turn).map enc_shift_Turn) 91 2::.row p_4 c_4 (r_6.1.map encI_i64) 3 1::.row p_3 c_3 (r_5.1.map enc_api_Span) 50 2::.box b_5 [.int .i64 r_4.1.N,.int .i64 r_4.1.D] 37::.box b_4 [.int .i64 r_3.1.N,.int .i64 r_3.1.D] 37::.box b_3 [.int .i64 r_2.1.N,.int .i64 r_2.1.D] 37::.box b_2 [.int .i64 r_1.1.N,.int .i64 r_1.1.D] 37::.box b_1 [.slice p_1 r.Rating.length c_1,.slice p_2 r.Gaugings.length c_2] 25::Lf) w) follows_mx (by kernel_rfl) (by kernel_rfl) (HasE.of hf ⟨rfl,rfl,rfl,rfl,rfl,rfl,rfl,rfl,rfl,rfl,rfl,trivial,trivial,trivial,trivial,trivial,trivial,trivial,trivial,trivial,trivial,trivial,trivial,trivial,trivial,trivial,trivial,trivial,trivial,trivial,trivial,trivial,trivial,trivial,trivial,trivial,trivial,trivial,trivial,trivial,trivial,trivial,trivial,trivial,trivial,trivial,trivial,trivial,trivial,trivial,trivial,trivial,trivial,trivial,trivial,trivial,trivial,trivial,trivial,trivial,trivial,trivial,trivial,trivial,trivial⟩) hc ⟨?_,?_,?_,?_,?_,?_,?_,?_,?_,?_,?_,?_,?_,?_,?_,?_,?_,?_,?_,?_,?_,?_,?_,?_,?_,?_,?_,?_,?_,?_,?_,?_,?_,?_,?_,?_,?_,?_,?_,?_,?_,?_,?_,?_,?_,?_,?_,?_,?_,?_,?_,?_,?_,trivial⟩ ?_ ?_
  ·intro E θ a w hD hi hp he hc
   have hf := he.h0
   replace hf := hf.more he 0 rfl onT
   refine stP hf rfl rfl rfl (pM rfl) fun a hf => cNil ?_
   refine xThenN ?_
   intro ds u hau
   refine ⟨θ,he.put0 hi hau hf rfl 11 rfl rfl,?_⟩
   exact hc
  ·intro E θ a w hD hi hp he hc
   have e0 := hp.of (k := 0) rfl
   have hf := he.h0
   replace hf := hf.more he 11 rfl (onP e0)
   refine stP hf rfl rfl rfl (pEq rfl rfl) fun a hf => cNil ?_
   refine xThenN ?_
   intro ds u hau
   refine ⟨θ,he.put0 hi hau hf rfl 12 rfl rfl,?_⟩
   exact hc
  ·intro E θ a w hD hi hp he hc
   have e1 := hp.of (k := 1) rfl
   have hf := he.h0
   replace hf := hf.more he 12 rfl (onP e1)
   refine stP hf rfl rfl rfl (pM rfl) fun a hf => cNil ?_
   refine xThenN ?_
   intro ds u hau
   refine ⟨θ,he.put0 hi hau hf rfl 13 rfl rfl,?_⟩
   exact hc
  ·intro E θ a w hD hi hp he hc
   have e2 := hp.of (k := 2) rfl
   rcases boolEq (r_5.2 == 0) with hb | hb
   ·have hf := he.h0
    replace hf := hf.more he 1 rfl onT
    replace hf := hf.more he 13 rfl (onP e2)
    replace hf := castB hb hf
    refine stP hf rfl rfl rfl (pM rfl) fun a hf => ?_
    replace hf := castI (u := undef) hb hf
    refine cNil ?_
    refine xThenN ?_
    intro ds u hau
    refine ⟨θ,he.put0 hi hau hf rfl 14 rfl rfl,?_⟩
    exact hc
   ·have hf := he.h0
    replace hf := hf.more he 1 rfl onT
    replace hf := hf.more he 13 rfl (onP e2)
    replace hf := castB hb hf
    refine stS hf rfl rfl rfl fun a hf => ?_
    replace hf := castJ (u := .int .i64 r_6.2.2) hb hf
    refine cNil ?_
    refine xThenN ?_
    intro ds u hau
    refine ⟨θ,he.put0 hi hau hf rfl 14 rfl rfl,?_⟩
    exact hc
  ·intro E θ a w hD hi hp he hc
   have e2 := hp.of (k := 2) rfl
   have e3 := hp.of (k := 3) rfl
   rcases boolEq (r_5.2 == 0) with hb | hb
   ·have hf := he.h0
    replace hf := hf.more he 13 rfl (onP e2)
    replace hf := castB hb hf
    replace hf := hf.more he 14 rfl (onP e3)
    replace hf := castCT hb hf
    refine stP hf rfl rfl rfl (pEq rfl rfl) fun a hf => ?_
    replace hf := castI (u := undef) hb hf
    refine cNil ?_
    refine xThenN ?_
    intro ds u hau
    refine ⟨θ,he.put0 hi hau hf rfl 15 rfl rfl,?_⟩
    exact hc
   ·have hf := he.h0
    replace hf := hf.more he 13 rfl (onP e2)
    replace hf := castB hb hf
    replace hf := hf.more he 14 rfl (onP e3)
    replace hf := castCF hb hf
    refine stS hf rfl rfl rfl fun a hf => ?_
    replace hf := castJ (u := .bool (r_6.2.2 == 0)) hb hf
    refine cNil ?_
    refine xThenN ?_
    intro ds u hau
    refine ⟨θ,he.put0 hi hau hf rfl 15 rfl rfl,?_⟩
    exact hc
  ·intro E θ a w hD hi hp he hc
   have e2 := hp.of (k := 2) rfl
   have e4 := hp.of (k := 4) rfl
   rcases boolEq (r_5.2 == 0) with hb | hb
   ·have hf := he.h0
    replace hf := hf.more he 13 rfl (onP e2)
    replace hf := castB hb hf
    replace hf := hf.more he 15 rfl (onP e4)
    replace hf := castCT hb hf
    refine stP hf rfl rfl rfl (pPt rfl rfl) fun a hf => ?_
    replace hf := castV (v' := .bool ((r_5.2 == 0) && (r_6.2.2 == 0))) (congrArg Value.bool (andT hb)) hf
    refine cNil ?_
    refine xThenN ?_
    intro ds u hau
    refine ⟨θ,he.put0 hi hau hf rfl 16 rfl rfl,?_⟩
    exact hc
   ·have hf := he.h0
    replace hf := hf.more he 13 rfl (onP e2)
    replace hf := castB hb hf
    replace hf := hf.more he 15 rfl (onP e4)
    replace hf := castCF hb hf
    refine stP hf rfl rfl rfl (pPf rfl rfl) fun a hf => ?_
    replace hf := castV (v' := .bool ((r_5.2 == 0) && (r_6.2.2 == 0))) (congrArg Value.bool (andF hb)) hf
    refine cNil ?_
    refine xThenN ?_
    intro ds u hau
    refine ⟨θ,he.put0 hi hau hf rfl 16 rfl rfl,?_⟩
    exact hc
  ·intro E θ a w hD hi hp he hc
   have e5 := hp.of (k := 5) rfl
   have hf := he.h0
   replace hf := hf.more he 16 rfl (onP e5)
   refine stP hf rfl rfl rfl (pM rfl) fun a hf => cNil ?_
   refine xThenN ?_
   intro ds u hau
   refine ⟨θ,he.put0 hi hau hf rfl 17 rfl rfl,?_⟩
   exact hc
  ·intro E θ a w hD hi hp he hc
   have e6 := hp.of (k := 6) rfl
   rcases boolEq ((r_5.2 == 0) && (r_6.2.2 == 0)) with hb | hb
   ·have hf := he.h0
    replace hf := hf.more he 2 rfl onT
    replace hf := hf.more he 17 rfl (onP e6)
    replace hf := castB hb hf
    refine stP hf rfl rfl rfl (pM rfl) fun a hf => ?_
    replace hf := castI (u := undef) hb hf
    refine cNil ?_
    refine xThenN ?_
    intro ds u hau
    refine ⟨θ,he.put0 hi hau hf rfl 18 rfl rfl,?_⟩
    exact hc
   ·have hf := he.h0
    replace hf := hf.more he 2 rfl onT
    replace hf := hf.more he 17 rfl (onP e6)
    replace hf := castB hb hf
    refine stS hf rfl rfl rfl fun a hf => ?_
    replace hf := castJ (u := .int .i64 r_7.2) hb hf
    refine cNil ?_
    refine xThenN ?_
    intro ds u hau
    refine ⟨θ,he.put0 hi hau hf rfl 18 rfl rfl,?_⟩
    exact hc
  ·intro E θ a w hD hi hp he hc
   have e6 := hp.of (k := 6) rfl
   have e7 := hp.of (k := 7) rfl
   rcases boolEq ((r_5.2 == 0) && (r_6.2.2 == 0)) with hb | hb
   ·have hf := he.h0
    replace hf := hf.more he 17 rfl (onP e6)
    replace hf := castB hb hf
    replace hf := hf.more he 18 rfl (onP e7)
    replace hf := castCT hb hf
    refine stP hf rfl rfl rfl (pEq rfl rfl) fun a hf => ?_
    replace hf := castI (u := undef) hb hf
    refine cNil ?_
    refine xThenN ?_
    intro ds u hau
    refine ⟨θ,he.put0 hi hau hf rfl 19 rfl rfl,?_⟩
    exact hc
   ·have hf := he.h0
    replace hf := hf.more he 17 rfl (onP e6)
    replace hf := castB hb hf
    replace hf := hf.more he 18 rfl (onP e7)
    replace hf := castCF hb hf
    refine stS hf rfl rfl rfl fun a hf => ?_
    replace hf := castJ (u := .bool (r_7.2 == 0)) hb hf
    refine cNil ?_
    refine xThenN ?_
    intro ds u hau
    refine ⟨θ,he.put0 hi hau hf rfl 19 rfl rfl,?_⟩
    exact hc
  ·intro E θ a w hD hi hp he hc
   have e6 := hp.of (k := 6) rfl
   have e8 := hp.of (k := 8) rfl
   rcases boolEq ((r_5.2 == 0) && (r_6.2.2 == 0)) with hb | hb
   ·have hf := he.h0
    replace hf := hf.more he 17 rfl (onP e6)
    replace hf := castB hb hf
    replace hf := hf.more he 19 rfl (onP e8)
    replace hf := castCT hb hf
    refine stP hf rfl rfl rfl (pPt rfl rfl) fun a hf => ?_
    replace hf := castV (v' := .bool (((r_5.2 == 0) && (r_6.2.2 == 0)) && (r_7.2 == 0))) (congrArg Value.bool (andT hb)) hf
    refine cNil ?_
    refine xThenN ?_
    intro ds u hau
    refine ⟨θ,he.put0 hi hau hf rfl 20 rfl rfl,?_⟩
    exact hc
   ·have hf := he.h0
    replace hf := hf.more he 17 rfl (onP e6)
    replace hf := castB hb hf
    replace hf := hf.more he 19 rfl (onP e8)
    replace hf := castCF hb hf
    refine stP hf rfl rfl rfl (pPf rfl rfl) fun a hf => ?_
    replace hf := castV (v' := .bool (((r_5.2 == 0) && (r_6.2.2 == 0)) && (r_7.2 == 0))) (congrArg Value.bool (andF hb)) hf
    refine cNil ?_
    refine xThenN ?_
    intro ds u hau
    refine ⟨θ,he.put0 hi hau hf rfl 20 rfl rfl,?_⟩
    exact hc
  ·intro E θ a w hD hi hp he hc
   have e9 := hp.of (k := 9) rfl
   have hf := he.h0
   replace hf := hf.more he 20 rfl (onP e9)
   refine stP hf rfl rfl rfl (pM rfl) fun a hf => cNil ?_
   refine xThenN ?_
   intro ds u hau
   refine ⟨θ,he.put0 hi hau hf rfl 21 rfl rfl,?_⟩
   exact hc
  ·intro E θ a w hD hi hp he hc
   have e10 := hp.of (k := 10) rfl
   rcases boolEq (((r_5.2 == 0) && (r_6.2.2 == 0)) && (r_7.2 == 0)) with hb | hb
   ·have hf := he.h0
    replace hf := hf.more he 3 rfl onT
    replace hf := hf.more he 21 rfl (onP e10)
    replace hf := castB hb hf
    refine stP hf rfl rfl rfl (pM rfl) fun a hf => ?_
    replace hf := castI (u := undef) hb hf
    refine cNil ?_
    refine xThenN ?_
    intro ds u hau
    refine ⟨θ,he.put0 hi hau hf rfl 22 rfl rfl,?_⟩
    exact hc
   ·have hf := he.h0
    replace hf := hf.more he 3 rfl onT
    replace hf := hf.more he 21 rfl (onP e10)
    replace hf := castB hb hf
    refine stS hf rfl rfl rfl fun a hf => ?_
    replace hf := castJ (u := .int .i64 r_8.2) hb hf
    refine cNil ?_
    refine xThenN ?_
    intro ds u hau
    refine ⟨θ,he.put0 hi hau hf rfl 22 rfl rfl,?_⟩
    exact hc
  ·intro E θ a w hD hi hp he hc
   have e10 := hp.of (k := 10) rfl
   have e11 := hp.of (k := 11) rfl
   rcases boolEq (((r_5.2 == 0) && (r_6.2.2 == 0)) && (r_7.2 == 0)) with hb | hb
   ·have hf := he.h0
    replace hf := hf.more he 21 rfl (onP e10)
    replace hf := castB hb hf
    replace hf := hf.more he 22 rfl (onP e11)
    replace hf := castCT hb hf
    refine stP hf rfl rfl rfl (pEq rfl rfl) fun a hf => ?_
    replace hf := castI (u := undef) hb hf
    refine cNil ?_
    refine xThenN ?_
    intro ds u hau
    refine ⟨θ,he.put0 hi hau hf rfl 23 rfl rfl,?_⟩
    exact hc
   ·have hf := he.h0
    replace hf := hf.more he 21 rfl (onP e10)
    replace hf := castB hb hf
    replace hf := hf.more he 22 rfl (onP e11)
    replace hf := castCF hb hf
    refine stS hf rfl rfl rfl fun a hf => ?_
    replace hf := castJ (u := .bool (r_8.2 == 0)) hb hf
    refine cNil ?_
    refine xThenN ?_
    intro ds u hau
    refine ⟨θ,he.put0 hi hau hf rfl 23 rfl rfl,?_⟩
    exact hc
  ·intro E θ a w hD hi hp he hc
   have e10 := hp.of (k := 10) rfl
   have e12 := hp.of (k := 12) rfl
   rcases boolEq (((r_5.2 == 0) && (r_6.2.2 == 0)) && (r_7.2 == 0)) with hb | hb
   ·have hf := he.h0
    replace hf := hf.more he 21 rfl (onP e10)
    replace hf := castB hb hf
    replace hf := hf.more he 23 rfl (onP e12)
    replace hf := castCT hb hf
    refine stP hf rfl rfl rfl (pPt rfl rfl) fun a hf => ?_
    replace hf := castV (v' := .bool ((((r_5.2 == 0) && (r_6.2.2 == 0)) && (r_7.2 == 0)) && (r_8.2 == 0))) (congrArg Value.bool (andT hb)) hf
    refine cNil ?_
    refine xThenN ?_
    intro ds u hau
    refine ⟨θ,he.put0 hi hau hf rfl 24 rfl rfl,?_⟩
    exact hc
   ·have hf := he.h0
    replace hf := hf.more he 21 rfl (onP e10)
    replace hf := castB hb hf
    replace hf := hf.more he 23 rfl (onP e12)
    replace hf := castCF hb hf
    refine stP hf rfl rfl rfl (pPf rfl rfl) fun a hf => ?_
    replace hf := castV (v' := .bool ((((r_5.2 == 0) && (r_6.2.2 == 0)) && (r_7.2 == 0)) && (r_8.2 == 0))) (congrArg Value.bool (andF hb)) hf
    refine cNil ?_
    refine xThenN ?_
    intro ds u hau
    refine ⟨θ,he.put0 hi hau hf rfl 24 rfl rfl,?_⟩
    exact hc
  ·intro E θ a w hD hi hp he hc
   have e13 := hp.of (k := 13) rfl
   have hf := he.h0
   replace hf := hf.more he 24 rfl (onP e13)
   refine stP hf rfl rfl rfl (pM rfl) fun a hf => cNil ?_
   refine xThenN ?_
   intro ds u hau
   refine ⟨θ,he.put0 hi hau hf rfl 25 rfl rfl,?_⟩
   exact hc
  ·intro E θ a w hD hi hp he hc
   have e14 := hp.of (k := 14) rfl
   rcases boolEq ((((r_5.2 == 0) && (r_6.2.2 == 0)) && (r_7.2 == 0)) && (r_8.2 == 0)) with hb | hb
   ·have hf := he.h0
    replace hf := hf.more he 10 rfl onT
    replace hf := hf.more he 25 rfl (onP e14)
    replace hf := castB hb hf
    refine stP hf rfl rfl rfl (pM rfl) fun a hf => ?_
    replace hf := castI (u := undef) hb hf
    refine cNil ?_
    refine xThenN ?_
    intro ds u hau
    refine ⟨θ,he.put0 hi hau hf rfl 26 rfl rfl,?_⟩
    exact hc
   ·have hf := he.h0
    replace hf := hf.more he 10 rfl onT
    replace hf := hf.more he 25 rfl (onP e14)
    replace hf := castB hb hf
    refine stS hf rfl rfl rfl fun a hf => ?_
    replace hf := castJ (u := .int .i64 r_9.2) hb hf
    refine cNil ?_
    refine xThenN ?_
    intro ds u hau
    refine ⟨θ,he.put0 hi hau hf rfl 26 rfl rfl,?_⟩
    exact hc
  ·intro E θ a w hD hi hp he hc
   have e14 := hp.of (k := 14) rfl
   have e15 := hp.of (k := 15) rfl
   rcases boolEq ((((r_5.2 == 0) && (r_6.2.2 == 0)) && (r_7.2 == 0)) && (r_8.2 == 0)) with hb | hb
   ·have hf := he.h0
    replace hf := hf.more he 25 rfl (onP e14)
    replace hf := castB hb hf
    replace hf := hf.more he 26 rfl (onP e15)
    replace hf := castCT hb hf
    refine stP hf rfl rfl rfl (pEq rfl rfl) fun a hf => ?_
    replace hf := castI (u := undef) hb hf
    refine cNil ?_
    refine xThenN ?_
    intro ds u hau
    refine ⟨θ,he.put0 hi hau hf rfl 27 rfl rfl,?_⟩
    exact hc
   ·have hf := he.h0
    replace hf := hf.more he 25 rfl (onP e14)
    replace hf := castB hb hf
    replace hf := hf.more he 26 rfl (onP e15)
    replace hf := castCF hb hf
    refine stS hf rfl rfl rfl fun a hf => ?_
    replace hf := castJ (u := .bool (r_9.2 == 0)) hb hf
    refine cNil ?_
    refine xThenN ?_
    intro ds u hau
    refine ⟨θ,he.put0 hi hau hf rfl 27 rfl rfl,?_⟩
    exact hc
  ·intro E θ a w hD hi hp he hc
   have e14 := hp.of (k := 14) rfl
   have e16 := hp.of (k := 16) rfl
   rcases boolEq ((((r_5.2 == 0) && (r_6.2.2 == 0)) && (r_7.2 == 0)) && (r_8.2 == 0)) with hb | hb
   ·have hf := he.h0
    replace hf := hf.more he 25 rfl (onP e14)
    replace hf := castB hb hf
    replace hf := hf.more he 27 rfl (onP e16)
    replace hf := castCT hb hf
    refine stP hf rfl rfl rfl (pPt rfl rfl) fun a hf => ?_
    replace hf := castV (v' := .bool (((((r_5.2 == 0) && (r_6.2.2 == 0)) && (r_7.2 == 0)) && (r_8.2 == 0)) && (r_9.2 == 0))) (congrArg Value.bool (andT hb)) hf
    refine cNil ?_
    refine xThenN ?_
    intro ds u hau
    refine ⟨θ,he.put0 hi hau hf rfl 28 rfl rfl,?_⟩
    exact hc
   ·have hf := he.h0
    replace hf := hf.more he 25 rfl (onP e14)
    replace hf := castB hb hf
    replace hf := hf.more he 27 rfl (onP e16)
    replace hf := castCF hb hf
    refine stP hf rfl rfl rfl (pPf rfl rfl) fun a hf => ?_
    replace hf := castV (v' := .bool (((((r_5.2 == 0) && (r_6.2.2 == 0)) && (r_7.2 == 0)) && (r_8.2 == 0)) && (r_9.2 == 0))) (congrArg Value.bool (andF hb)) hf
    refine cNil ?_
    refine xThenN ?_
    intro ds u hau
    refine ⟨θ,he.put0 hi hau hf rfl 28 rfl rfl,?_⟩
    exact hc
  ·intro E θ a w hD hi hp he hc
   have e17 := hp.of (k := 17) rfl
   have hf := he.h0
   replace hf := hf.more he 28 rfl (onP e17)
   refine stP hf rfl rfl rfl (pM rfl) fun a hf => cNil ?_
   refine xThenN ?_
   intro ds u hau
   refine ⟨θ,he.put0 hi hau hf rfl 29 rfl rfl,?_⟩
   exact hc
  ·intro E θ a w hD hi hp he hc
   have e18 := hp.of (k := 18) rfl
   rcases boolEq (((((r_5.2 == 0) && (r_6.2.2 == 0)) && (r_7.2 == 0)) && (r_8.2 == 0)) && (r_9.2 == 0)) with hb | hb
   ·have hf := he.h0
    replace hf := hf.more he 4 rfl onT
    replace hf := hf.more he 29 rfl (onP e18)
    replace hf := castB hb hf
    refine stP hf rfl rfl rfl (pM rfl) fun a hf => ?_
    replace hf := castI (u := undef) hb hf
    refine cNil ?_
    refine xThenN ?_
    intro ds u hau
    refine ⟨θ,he.put0 hi hau hf rfl 30 rfl rfl,?_⟩
    exact hc
   ·have hf := he.h0
    replace hf := hf.more he 4 rfl onT
    replace hf := hf.more he 29 rfl (onP e18)
    replace hf := castB hb hf
    refine stS hf rfl rfl rfl fun a hf => ?_
    replace hf := castJ (u := .slice p_3 r_5.1.length c_3) hb hf
    refine cNil ?_
    refine xThenN ?_
    intro ds u hau
    refine ⟨θ,he.put0 hi hau hf rfl 30 rfl rfl,?_⟩
    exact hc
  ·intro E θ a w hD hi hp he hc
   have e18 := hp.of (k := 18) rfl
   rcases boolEq (((((r_5.2 == 0) && (r_6.2.2 == 0)) && (r_7.2 == 0)) && (r_8.2 == 0)) && (r_9.2 == 0)) with hb | hb
   ·have hf := he.h0
    replace hf := hf.more he 29 rfl (onP e18)
    replace hf := castB hb hf
    refine stP hf rfl rfl rfl (pBuildS (cells := [.int .i64 2,.int .i64 4]) bt_50 rfl rfl) fun a hf => ?_
    replace hf := castI (u := undef) hb hf
    refine cNil ?_
    refine xThenN ?_
    intro ds u hau
    refine ⟨θ,he.put0 hi hau hf rfl 31 rfl rfl,?_⟩
    exact hc
   ·have hf := he.h0
    replace hf := hf.more he 29 rfl (onP e18)
    replace hf := castB hb hf
    refine stS hf rfl rfl rfl fun a hf => ?_
    replace hf := castJ (u := .agg #[.int .i64 2,.int .i64 4]) hb hf
    refine cNil ?_
    refine xThenN ?_
    intro ds u hau
    refine ⟨θ,he.put0 hi hau hf rfl 31 rfl rfl,?_⟩
    exact hc
  ·intro E θ a w hD hi hp he hc
   have e18 := hp.of (k := 18) rfl
   rcases boolEq (((((r_5.2 == 0) && (r_6.2.2 == 0)) && (r_7.2 == 0)) && (r_8.2 == 0)) && (r_9.2 == 0)) with hb | hb
   ·have hf := he.h0
    replace hf := hf.more he 29 rfl (onP e18)
    replace hf := castB hb hf
    refine stP hf rfl rfl rfl (pBuildS (cells := [.int .i64 0,.int .i64 0]) bt_50 rfl rfl) fun a hf => ?_
    replace hf := castI (u := undef) hb hf
    refine cNil ?_
    refine xThenN ?_
    intro ds u hau
    refine ⟨θ,he.put0 hi hau hf rfl 32 rfl rfl,?_⟩
    exact hc
   ·have hf := he.h0
    replace hf := hf.more he 29 rfl (onP e18)
    replace hf := castB hb hf
    refine stS hf rfl rfl rfl fun a hf => ?_
    replace hf := castJ (u := .agg #[.int .i64 0,.int .i64 0]) hb hf
    refine cNil ?_
    refine xThenN ?_
    intro ds u hau
    refine ⟨θ,he.put0 hi hau hf rfl 32 rfl rfl,?_⟩
    exact hc
  ·intro E θ a w hD hi hp he hc
   have e18 := hp.of (k := 18) rfl
   rcases boolEq (((((r_5.2 == 0) && (r_6.2.2 == 0)) && (r_7.2 == 0)) && (r_8.2 == 0)) && (r_9.2 == 0)) with hb | hb
   ·have hf := he.h0
    replace hf := hf.more he 29 rfl (onP e18)
    replace hf := castB hb hf
    refine stP hf rfl rfl rfl (pBuildS (cells := [.int .i64 3,.int .i64 8]) bt_50 rfl rfl) fun a hf => ?_
    replace hf := castI (u := undef) hb hf
    refine cNil ?_
    refine xThenN ?_
    intro ds u hau
    refine ⟨θ,he.put0 hi hau hf rfl 33 rfl rfl,?_⟩
    exact hc
   ·have hf := he.h0
    replace hf := hf.more he 29 rfl (onP e18)
    replace hf := castB hb hf
    refine stS hf rfl rfl rfl fun a hf => ?_
    replace hf := castJ (u := .agg #[.int .i64 3,.int .i64 8]) hb hf
    refine cNil ?_
    refine xThenN ?_
    intro ds u hau
    refine ⟨θ,he.put0 hi hau hf rfl 33 rfl rfl,?_⟩
    exact hc
  ·intro E θ a w hD hi hp he hc
   have e18 := hp.of (k := 18) rfl
   have e20 := hp.of (k := 20) rfl
   have e21 := hp.of (k := 21) rfl
   have e22 := hp.of (k := 22) rfl
   try dsimp only at hc
   rw [hi] at hc
   rcases boolEq (((((r_5.2 == 0) && (r_6.2.2 == 0)) && (r_7.2 == 0)) && (r_8.2 == 0)) && (r_9.2 == 0)) with hb | hb
   ·have hf := he.h0
    replace hf := hf.more he 29 rfl (onP e18)
    replace hf := castB hb hf
    replace hf := hf.more he 31 rfl (onP e20)
    replace hf := castCT hb hf
    replace hf := hf.more he 32 rfl (onP e21)
    replace hf := castCT hb hf
    replace hf := hf.more he 33 rfl (onP e22)
    replace hf := castCT hb hf
    refine stBS (rows := ([(⟨2,4⟩ : api_Span),(⟨0,0⟩ : api_Span),(⟨3,8⟩ : api_Span)] : List api_Span).map enc_api_Span) (vs := [(0,.agg #[.int .i64 2,.int .i64 4]),(1,.agg #[.int .i64 0,.int .i64 0]),(2,.agg #[.int .i64 3,.int .i64 8])]) hf hc rfl rfl sl_44 rfl ⟨rfl,rfl,rfl,rfl,rfl,rfl,rfl,rfl,rfl,trivial⟩ rfl rfl fun b_8 a w hf hc => ?_
    replace hf := castI (u := undef) hb hf
    refine cNil ?_
    refine xThenN ?_
    intro ds u hau
    replace hc := hc.drop k3
    replace hc := hc.pick k0
    replace hc := hc.pick k2
    replace hc := hc.pick k2
    refine ⟨(setT θ 184 ⟨b_8,none,0⟩),he.put hi hau hf rfl [] trivial ⟨qq,qq,qq,qq,qq,qq,qq,qq,qq,qq,qq,qq,qq,qq,qq,qq,qq,qq,qq,qq,qq,qq,qq,qq,qq,qq,qq,qq,qq,qq,qq,qq,qq,qq,qq,qq,qq,qq,qq,qq,qq,qq,qq,qq,qq,qq,qq,qq,qq,qq,qq,qq,qq,qq,qq,qq,qq,qq,qq,qq,qq,qq,qq,qq,trivial⟩,?_⟩
    try dsimp only
    rw [updE_self E 23]
    rw [gE_T hb]
    exact hc
   ·have hf := he.h0
    replace hf := hf.more he 29 rfl (onP e18)
    replace hf := castB hb hf
    replace hf := hf.more he 31 rfl (onP e20)
    replace hf := castCF hb hf
    replace hf := hf.more he 32 rfl (onP e21)
    replace hf := castCF hb hf
    replace hf := hf.more he 33 rfl (onP e22)
    replace hf := castCF hb hf
    refine stS hf rfl rfl rfl fun a hf => ?_
    replace hf := castJ (u := .slice (some ⟨(θ 184).b,0,none⟩) 3 3) hb hf
    refine cNil ?_
    refine xThenN ?_
    intro ds u hau
    refine ⟨θ,he.put0 hi hau hf rfl 34 rfl rfl,?_⟩
    try dsimp only
    rw [updE_self E 23]
    rw [gE_F hb]
    exact hc
  ·intro E θ a w hD hi hp he hc
   have e18 := hp.of (k := 18) rfl
   have e19 := hp.of (k := 19) rfl
   have e23 := hp.of (k := 23) rfl
   try dsimp only at hc
   rw [e23] at hc
   rcases boolEq (((((r_5.2 == 0) && (r_6.2.2 == 0)) && (r_7.2 == 0)) && (r_8.2 == 0)) && (r_9.2 == 0)) with hb | hb
   ·have hf := he.h0
    replace hf := hf.more he 29 rfl (onP e18)
    replace hf := castB hb hf
    replace hf := hf.more he 30 rfl (onP e19)
    replace hf := castCT hb hf
    replace hf := hf.more he 34 rfl (onP e23)
    replace hf := castCT hb hf
    rw [gE_T hb] at hc
    refine stE hf hc rfl rfl rfl (eC (v := .bool r_10) (vs := [.slice p_3 r_5.1.length c_3,.slice (some ⟨(θ 184).b,0,none⟩) 3 3]) (caps := []) en_24 rfl rfl rfl rfl (fun w hc => by obtain ⟨G1,hle1,hrd1,hc,hth1⟩ := lend hc k9; obtain ⟨G2,hle2,hrd2,hc,hth2⟩ := lend hc k2; exact (kit_Same_api_Span_ok r_5.1 ([(⟨2,4⟩ : api_Span),(⟨0,0⟩ : api_Span),(⟨3,8⟩ : api_Span)] : List api_Span) (hrd1.mono hle2) hrd2 hc (condT hb hr_10)).mono fun e w h => ⟨h.1,((hth1 _ _ ((hth2 _ _ h.2).unpick k2)).unpick k9)⟩)) fun a w hf hc => ?_
    replace hf := castI (u := undef) hb hf
    refine cNil ?_
    refine xThenN ?_
    intro ds u hau
    refine ⟨θ,he.put0 hi hau hf rfl 35 rfl rfl,?_⟩
    try dsimp only
    rw [updE_tru 24 e23]
    rw [gE_T hb]
    exact hc
   ·have hf := he.h0
    replace hf := hf.more he 29 rfl (onP e18)
    replace hf := castB hb hf
    replace hf := hf.more he 30 rfl (onP e19)
    replace hf := castCF hb hf
    replace hf := hf.more he 34 rfl (onP e23)
    replace hf := castCF hb hf
    rw [gE_F hb] at hc
    refine stS hf rfl rfl rfl fun a hf => ?_
    replace hf := castJ (u := .bool r_10) hb hf
    refine cNil ?_
    refine xThenN ?_
    intro ds u hau
    refine ⟨θ,he.put0 hi hau hf rfl 35 rfl rfl,?_⟩
    try dsimp only
    rw [updE_tru 24 e23]
    rw [gE_F hb]
    exact hc
  ·intro E θ a w hD hi hp he hc
   have e18 := hp.of (k := 18) rfl
   have e24 := hp.of (k := 24) rfl
   rcases boolEq (((((r_5.2 == 0) && (r_6.2.2 == 0)) && (r_7.2 == 0)) && (r_8.2 == 0)) && (r_9.2 == 0)) with hb | hb
   ·have hf := he.h0
    replace hf := hf.more he 29 rfl (onP e18)
    replace hf := castB hb hf
    replace hf := hf.more he 35 rfl (onP e24)
    replace hf := castCT hb hf
    refine stP hf rfl rfl rfl (pPt rfl rfl) fun a hf => ?_
    replace hf := castV (v' := .bool ((((((r_5.2 == 0) && (r_6.2.2 == 0)) && (r_7.2 == 0)) && (r_8.2 == 0)) && (r_9.2 == 0)) && r_10)) (congrArg Value.bool (andT hb)) hf
    refine cNil ?_
    refine xThenN ?_
    intro ds u hau
    refine ⟨θ,he.put0 hi hau hf rfl 36 rfl rfl,?_⟩
    exact hc
   ·have hf := he.h0
    replace hf := hf.more he 29 rfl (onP e18)
    replace hf := castB hb hf
    replace hf := hf.more he 35 rfl (onP e24)
    replace hf := castCF hb hf
    refine stP hf rfl rfl rfl (pPf rfl rfl) fun a hf => ?_
    replace hf := castV (v' := .bool ((((((r_5.2 == 0) && (r_6.2.2 == 0)) && (r_7.2 == 0)) && (r_8.2 == 0)) && (r_9.2 == 0)) && r_10)) (congrArg Value.bool (andF hb)) hf
    refine cNil ?_
    refine xThenN ?_
    intro ds u hau
    refine ⟨θ,he.put0 hi hau hf rfl 36 rfl rfl,?_⟩
    exact hc
  ·intro E θ a w hD hi hp he hc
   have e25 := hp.of (k := 25) rfl
   have hf := he.h0
   replace hf := hf.more he 36 rfl (onP e25)
   refine stP hf rfl rfl rfl (pM rfl) fun a hf => cNil ?_
   refine xThenN ?_
   intro ds u hau
   refine ⟨θ,he.put0 hi hau hf rfl 37 rfl rfl,?_⟩
   exact hc
  ·intro E θ a w hD hi hp he hc
   have e26 := hp.of (k := 26) rfl
   rcases boolEq ((((((r_5.2 == 0) && (r_6.2.2 == 0)) && (r_7.2 == 0)) && (r_8.2 == 0)) && (r_9.2 == 0)) && r_10) with hb | hb
   ·have hf := he.h0
    replace hf := hf.more he 5 rfl onT
    replace hf := hf.more he 37 rfl (onP e26)
    replace hf := castB hb hf
    refine stP hf rfl rfl rfl (pM rfl) fun a hf => ?_
    replace hf := castI (u := undef) hb hf
    refine cNil ?_
    refine xThenN ?_
    intro ds u hau
    refine ⟨θ,he.put0 hi hau hf rfl 38 rfl rfl,?_⟩
    exact hc
   ·have hf := he.h0
    replace hf := hf.more he 5 rfl onT
    replace hf := hf.more he 37 rfl (onP e26)
    replace hf := castB hb hf
    refine stS hf rfl rfl rfl fun a hf => ?_
    replace hf := castJ (u := .slice p_4 r_6.1.length c_4) hb hf
    refine cNil ?_
    refine xThenN ?_
    intro ds u hau
    refine ⟨θ,he.put0 hi hau hf rfl 38 rfl rfl,?_⟩
    exact hc
  ·intro E θ a w hD hi hp he hc
   have e26 := hp.of (k := 26) rfl
   try dsimp only at hc
   rw [hi] at hc
   rcases boolEq ((((((r_5.2 == 0) && (r_6.2.2 == 0)) && (r_7.2 == 0)) && (r_8.2 == 0)) && (r_9.2 == 0)) && r_10) with hb | hb
   ·have hf := he.h0
    replace hf := hf.more he 37 rfl (onP e26)
    replace hf := castB hb hf
    refine stBS (rows := ([2,0,3] : List Int).map encI_i64) (vs := [(0,.int .i64 2),(1,.int .i64 0),(2,.int .i64 3)]) hf hc rfl rfl sl_61 rfl ⟨rfl,rfl,rfl,rfl,rfl,rfl,rfl,rfl,rfl,trivial⟩ rfl rfl fun b_9 a w hf hc => ?_
    replace hf := castI (u := undef) hb hf
    refine cNil ?_
    refine xThenN ?_
    intro ds u hau
    replace hc := hc.drop k2
    replace hc := hc.pick k0
    replace hc := hc.pick k1
    refine ⟨(setT θ 224 ⟨b_9,none,0⟩),he.put hi hau hf rfl [] trivial ⟨qq,qq,qq,qq,qq,qq,qq,qq,qq,qq,qq,qq,qq,qq,qq,qq,qq,qq,qq,qq,qq,qq,qq,qq,qq,qq,qq,qq,qq,qq,qq,qq,qq,qq,qq,qq,qq,qq,qq,qq,qq,qq,qq,qq,qq,qq,qq,qq,qq,qq,qq,qq,qq,qq,qq,qq,qq,qq,qq,qq,qq,qq,qq,qq,trivial⟩,?_⟩
    try dsimp only
    rw [updE_self E 28]
    rw [gE_T hb]
    exact hc
   ·have hf := he.h0
    replace hf := hf.more he 37 rfl (onP e26)
    replace hf := castB hb hf
    refine stS hf rfl rfl rfl fun a hf => ?_
    replace hf := castJ (u := .slice (some ⟨(θ 224).b,0,none⟩) 3 3) hb hf
    refine cNil ?_
    refine xThenN ?_
    intro ds u hau
    refine ⟨θ,he.put0 hi hau hf rfl 39 rfl rfl,?_⟩
    try dsimp only
    rw [updE_self E 28]
    rw [gE_F hb]
    exact hc
  ·intro E θ a w hD hi hp he hc
   have e26 := hp.of (k := 26) rfl
   have e27 := hp.of (k := 27) rfl
   have e28 := hp.of (k := 28) rfl
   try dsimp only at hc
   rw [e28] at hc
   rcases boolEq ((((((r_5.2 == 0) && (r_6.2.2 == 0)) && (r_7.2 == 0)) && (r_8.2 == 0)) && (r_9.2 == 0)) && r_10) with hb | hb
   ·have hf := he.h0
    replace hf := hf.more he 37 rfl (onP e26)
    replace hf := castB hb hf
    replace hf := hf.more he 38 rfl (onP e27)
    replace hf := castCT hb hf
    replace hf := hf.more he 39 rfl (onP e28)
    replace hf := castCT hb hf
    rw [gE_T hb] at hc
    refine stE hf hc rfl rfl rfl (eC (v := .bool r_11) (vs := [.slice p_4 r_6.1.length c_4,.slice (some ⟨(θ 224).b,0,none⟩) 3 3]) (caps := []) en_56 rfl rfl rfl rfl (fun w hc => by obtain ⟨G1,hle1,hrd1,hc,hth1⟩ := lend hc k8; obtain ⟨G2,hle2,hrd2,hc,hth2⟩ := lend hc k1; exact (kit_Same_int_ok r_6.1 ([2,0,3] : List Int) (hrd1.mono hle2) hrd2 hc (condT hb hr_11)).mono fun e w h => ⟨h.1,((hth1 _ _ ((hth2 _ _ h.2).unpick k1)).unpick k8)⟩)) fun a w hf hc => ?_
    replace hf := castI (u := undef) hb hf
    refine cNil ?_
    refine xThenN ?_
    intro ds u hau
    refine ⟨θ,he.put0 hi hau hf rfl 40 rfl rfl,?_⟩
    try dsimp only
    rw [updE_tru 29 e28]
    rw [gE_T hb]
    exact hc
   ·have hf := he.h0
    replace hf := hf.more he 37 rfl (onP e26)
    replace hf := castB hb hf
    replace hf := hf.more he 38 rfl (onP e27)
    replace hf := castCF hb hf
    replace hf := hf.more he 39 rfl (onP e28)
    replace hf := castCF hb hf
    rw [gE_F hb] at hc
    refine stS hf rfl rfl rfl fun a hf => ?_
    replace hf := castJ (u := .bool r_11) hb hf
    refine cNil ?_
    refine xThenN ?_
    intro ds u hau
    refine ⟨θ,he.put0 hi hau hf rfl 40 rfl rfl,?_⟩
    try dsimp only
    rw [updE_tru 29 e28]
    rw [gE_F hb]
    exact hc
  ·intro E θ a w hD hi hp he hc
   have e26 := hp.of (k := 26) rfl
   have e29 := hp.of (k := 29) rfl
   rcases boolEq ((((((r_5.2 == 0) && (r_6.2.2 == 0)) && (r_7.2 == 0)) && (r_8.2 == 0)) && (r_9.2 == 0)) && r_10) with hb | hb
   ·have hf := he.h0
    replace hf := hf.more he 37 rfl (onP e26)
    replace hf := castB hb hf
    replace hf := hf.more he 40 rfl (onP e29)
    replace hf := castCT hb hf
    refine stP hf rfl rfl rfl (pPt rfl rfl) fun a hf => ?_
    replace hf := castV (v' := .bool (((((((r_5.2 == 0) && (r_6.2.2 == 0)) && (r_7.2 == 0)) && (r_8.2 == 0)) && (r_9.2 == 0)) && r_10) && r_11)) (congrArg Value.bool (andT hb)) hf
    refine cNil ?_
    refine xThenN ?_
    intro ds u hau
    refine ⟨θ,he.put0 hi hau hf rfl 41 rfl rfl,?_⟩
    exact hc
   ·have hf := he.h0
    replace hf := hf.more he 37 rfl (onP e26)
    replace hf := castB hb hf
    replace hf := hf.more he 40 rfl (onP e29)
    replace hf := castCF hb hf
    refine stP hf rfl rfl rfl (pPf rfl rfl) fun a hf => ?_
    replace hf := castV (v' := .bool (((((((r_5.2 == 0) && (r_6.2.2 == 0)) && (r_7.2 == 0)) && (r_8.2 == 0)) && (r_9.2 == 0)) && r_10) && r_11)) (congrArg Value.bool (andF hb)) hf
    refine cNil ?_
    refine xThenN ?_
    intro ds u hau
    refine ⟨θ,he.put0 hi hau hf rfl 41 rfl rfl,?_⟩
    exact hc
  ·intro E θ a w hD hi hp he hc
   have e30 := hp.of (k := 30) rfl
   have hf := he.h0
   replace hf := hf.more he 41 rfl (onP e30)
   refine stP hf rfl rfl rfl (pM rfl) fun a hf => cNil ?_
   refine xThenN ?_
   intro ds u hau
   refine ⟨θ,he.put0 hi hau hf rfl 42 rfl rfl,?_⟩
   exact hc
  ·intro E θ a w hD hi hp he hc
   have e31 := hp.of (k := 31) rfl
   rcases boolEq (((((((r_5.2 == 0) && (r_6.2.2 == 0)) && (r_7.2 == 0)) && (r_8.2 == 0)) && (r_9.2 == 0)) && r_10) && r_11) with hb | hb
   ·have hf := he.h0
    replace hf := hf.more he 6 rfl onT
    replace hf := hf.more he 42 rfl (onP e31)
    replace hf := castB hb hf
    refine stP hf rfl rfl rfl (pM rfl) fun a hf => ?_
    replace hf := castI (u := undef) hb hf
    refine cNil ?_
    refine xThenN ?_
    intro ds u hau
    refine ⟨θ,he.put0 hi hau hf rfl 43 rfl rfl,?_⟩
    exact hc
   ·have hf := he.h0
    replace hf := hf.more he 6 rfl onT
    replace hf := hf.more he 42 rfl (onP e31)
    replace hf := castB hb hf
    refine stS hf rfl rfl rfl fun a hf => ?_
    replace hf := castJ (u := .int .i64 r_6.2.1) hb hf
    refine cNil ?_
    refine xThenN ?_
    intro ds u hau
    refine ⟨θ,he.put0 hi hau hf rfl 43 rfl rfl,?_⟩
    exact hc
  ·intro E θ a w hD hi hp he hc
   have e31 := hp.of (k := 31) rfl
   have e32 := hp.of (k := 32) rfl
   rcases boolEq (((((((r_5.2 == 0) && (r_6.2.2 == 0)) && (r_7.2 == 0)) && (r_8.2 == 0)) && (r_9.2 == 0)) && r_10) && r_11) with hb | hb
   ·have hf := he.h0
    replace hf := hf.more he 42 rfl (onP e31)
    replace hf := castB hb hf
    replace hf := hf.more he 43 rfl (onP e32)
    replace hf := castCT hb hf
    refine stP hf rfl rfl rfl (pEq rfl rfl) fun a hf => ?_
    replace hf := castI (u := undef) hb hf
    refine cNil ?_
    refine xThenN ?_
    intro ds u hau
    refine ⟨θ,he.put0 hi hau hf rfl 44 rfl rfl,?_⟩
    exact hc
   ·have hf := he.h0
    replace hf := hf.more he 42 rfl (onP e31)
    replace hf := castB hb hf
    replace hf := hf.more he 43 rfl (onP e32)
    replace hf := castCF hb hf
    refine stS hf rfl rfl rfl fun a hf => ?_
    replace hf := castJ (u := .bool (r_6.2.1 == 5)) hb hf
    refine cNil ?_
    refine xThenN ?_
    intro ds u hau
    refine ⟨θ,he.put0 hi hau hf rfl 44 rfl rfl,?_⟩
    exact hc
  ·intro E θ a w hD hi hp he hc
   have e31 := hp.of (k := 31) rfl
   have e33 := hp.of (k := 33) rfl
   rcases boolEq (((((((r_5.2 == 0) && (r_6.2.2 == 0)) && (r_7.2 == 0)) && (r_8.2 == 0)) && (r_9.2 == 0)) && r_10) && r_11) with hb | hb
   ·have hf := he.h0
    replace hf := hf.more he 42 rfl (onP e31)
    replace hf := castB hb hf
    replace hf := hf.more he 44 rfl (onP e33)
    replace hf := castCT hb hf
    refine stP hf rfl rfl rfl (pPt rfl rfl) fun a hf => ?_
    replace hf := castV (v' := .bool ((((((((r_5.2 == 0) && (r_6.2.2 == 0)) && (r_7.2 == 0)) && (r_8.2 == 0)) && (r_9.2 == 0)) && r_10) && r_11) && (r_6.2.1 == 5))) (congrArg Value.bool (andT hb)) hf
    refine cNil ?_
    refine xThenN ?_
    intro ds u hau
    refine ⟨θ,he.put0 hi hau hf rfl 45 rfl rfl,?_⟩
    exact hc
   ·have hf := he.h0
    replace hf := hf.more he 42 rfl (onP e31)
    replace hf := castB hb hf
    replace hf := hf.more he 44 rfl (onP e33)
    replace hf := castCF hb hf
    refine stP hf rfl rfl rfl (pPf rfl rfl) fun a hf => ?_
    replace hf := castV (v' := .bool ((((((((r_5.2 == 0) && (r_6.2.2 == 0)) && (r_7.2 == 0)) && (r_8.2 == 0)) && (r_9.2 == 0)) && r_10) && r_11) && (r_6.2.1 == 5))) (congrArg Value.bool (andF hb)) hf
    refine cNil ?_
    refine xThenN ?_
    intro ds u hau
    refine ⟨θ,he.put0 hi hau hf rfl 45 rfl rfl,?_⟩
    exact hc
  ·intro E θ a w hD hi hp he hc
   have e34 := hp.of (k := 34) rfl
   have hf := he.h0
   replace hf := hf.more he 45 rfl (onP e34)
   refine stP hf rfl rfl rfl (pM rfl) fun a hf => cNil ?_
   refine xThenN ?_
   intro ds u hau
   refine ⟨θ,he.put0 hi hau hf rfl 46 rfl rfl,?_⟩
   exact hc
  ·intro E θ a w hD hi hp he hc
   have e35 := hp.of (k := 35) rfl
   rcases boolEq ((((((((r_5.2 == 0) && (r_6.2.2 == 0)) && (r_7.2 == 0)) && (r_8.2 == 0)) && (r_9.2 == 0)) && r_10) && r_11) && (r_6.2.1 == 5)) with hb | hb
   ·have hf := he.h0
    replace hf := hf.more he 7 rfl onT
    replace hf := hf.more he 46 rfl (onP e35)
    replace hf := castB hb hf
    refine stP hf rfl rfl rfl (pM rfl) fun a hf => ?_
    replace hf := castI (u := undef) hb hf
    refine cNil ?_
    refine xThenN ?_
    intro ds u hau
    refine ⟨θ,he.put0 hi hau hf rfl 47 rfl rfl,?_⟩
    exact hc
   ·have hf := he.h0
    replace hf := hf.more he 7 rfl onT
    replace hf := hf.more he 46 rfl (onP e35)
    replace hf := castB hb hf
    refine stS hf rfl rfl rfl fun a hf => ?_
    replace hf := castJ (u := .int .i64 r_7.1) hb hf
    refine cNil ?_
    refine xThenN ?_
    intro ds u hau
    refine ⟨θ,he.put0 hi hau hf rfl 47 rfl rfl,?_⟩
    exact hc
  ·intro E θ a w hD hi hp he hc
   have e35 := hp.of (k := 35) rfl
   have e36 := hp.of (k := 36) rfl
   rcases boolEq ((((((((r_5.2 == 0) && (r_6.2.2 == 0)) && (r_7.2 == 0)) && (r_8.2 == 0)) && (r_9.2 == 0)) && r_10) && r_11) && (r_6.2.1 == 5)) with hb | hb
   ·have hf := he.h0
    replace hf := hf.more he 46 rfl (onP e35)
    replace hf := castB hb hf
    replace hf := hf.more he 47 rfl (onP e36)
    replace hf := castCT hb hf
    refine stP hf rfl rfl rfl (pEq rfl rfl) fun a hf => ?_
    replace hf := castI (u := undef) hb hf
    refine cNil ?_
    refine xThenN ?_
    intro ds u hau
    refine ⟨θ,he.put0 hi hau hf rfl 48 rfl rfl,?_⟩
    exact hc
   ·have hf := he.h0
    replace hf := hf.more he 46 rfl (onP e35)
    replace hf := castB hb hf
    replace hf := hf.more he 47 rfl (onP e36)
    replace hf := castCF hb hf
    refine stS hf rfl rfl rfl fun a hf => ?_
    replace hf := castJ (u := .bool (r_7.1 == 5)) hb hf
    refine cNil ?_
    refine xThenN ?_
    intro ds u hau
    refine ⟨θ,he.put0 hi hau hf rfl 48 rfl rfl,?_⟩
    exact hc
  ·intro E θ a w hD hi hp he hc
   have e35 := hp.of (k := 35) rfl
   have e37 := hp.of (k := 37) rfl
   rcases boolEq ((((((((r_5.2 == 0) && (r_6.2.2 == 0)) && (r_7.2 == 0)) && (r_8.2 == 0)) && (r_9.2 == 0)) && r_10) && r_11) && (r_6.2.1 == 5)) with hb | hb
   ·have hf := he.h0
    replace hf := hf.more he 46 rfl (onP e35)
    replace hf := castB hb hf
    replace hf := hf.more he 48 rfl (onP e37)
    replace hf := castCT hb hf
    refine stP hf rfl rfl rfl (pPt rfl rfl) fun a hf => ?_
    replace hf := castV (v' := .bool (((((((((r_5.2 == 0) && (r_6.2.2 == 0)) && (r_7.2 == 0)) && (r_8.2 == 0)) && (r_9.2 == 0)) && r_10) && r_11) && (r_6.2.1 == 5)) && (r_7.1 == 5))) (congrArg Value.bool (andT hb)) hf
    refine cNil ?_
    refine xThenN ?_
    intro ds u hau
    refine ⟨θ,he.put0 hi hau hf rfl 49 rfl rfl,?_⟩
    exact hc
   ·have hf := he.h0
    replace hf := hf.more he 46 rfl (onP e35)
    replace hf := castB hb hf
    replace hf := hf.more he 48 rfl (onP e37)
    replace hf := castCF hb hf
    refine stP hf rfl rfl rfl (pPf rfl rfl) fun a hf => ?_
    replace hf := castV (v' := .bool (((((((((r_5.2 == 0) && (r_6.2.2 == 0)) && (r_7.2 == 0)) && (r_8.2 == 0)) && (r_9.2 == 0)) && r_10) && r_11) && (r_6.2.1 == 5)) && (r_7.1 == 5))) (congrArg Value.bool (andF hb)) hf
    refine cNil ?_
    refine xThenN ?_
    intro ds u hau
    refine ⟨θ,he.put0 hi hau hf rfl 49 rfl rfl,?_⟩
    exact hc
  ·intro E θ a w hD hi hp he hc
   have e38 := hp.of (k := 38) rfl
   have hf := he.h0
   replace hf := hf.more he 49 rfl (onP e38)
   refine stP hf rfl rfl rfl (pM rfl) fun a hf => cNil ?_
   refine xThenN ?_
   intro ds u hau
   refine ⟨θ,he.put0 hi hau hf rfl 50 rfl rfl,?_⟩
   exact hc
  ·intro E θ a w hD hi hp he hc
   have e39 := hp.of (k := 39) rfl
   rcases boolEq (((((((((r_5.2 == 0) && (r_6.2.2 == 0)) && (r_7.2 == 0)) && (r_8.2 == 0)) && (r_9.2 == 0)) && r_10) && r_11) && (r_6.2.1 == 5)) && (r_7.1 == 5)) with hb | hb
   ·have hf := he.h0
    replace hf := hf.more he 8 rfl onT
    replace hf := hf.more he 50 rfl (onP e39)
    replace hf := castB hb hf
    refine stP hf rfl rfl rfl (pM rfl) fun a hf => ?_
    replace hf := castI (u := undef) hb hf
    refine cNil ?_
    refine xThenN ?_
    intro ds u hau
    refine ⟨θ,he.put0 hi hau hf rfl 51 rfl rfl,?_⟩
    exact hc
   ·have hf := he.h0
    replace hf := hf.more he 8 rfl onT
    replace hf := hf.more he 50 rfl (onP e39)
    replace hf := castB hb hf
    refine stS hf rfl rfl rfl fun a hf => ?_
    replace hf := castJ (u := .slice p_5 r_8.1.length c_5) hb hf
    refine cNil ?_
    refine xThenN ?_
    intro ds u hau
    refine ⟨θ,he.put0 hi hau hf rfl 51 rfl rfl,?_⟩
    exact hc
  ·intro E θ a w hD hi hp he hc
   have e39 := hp.of (k := 39) rfl
   rcases boolEq (((((((((r_5.2 == 0) && (r_6.2.2 == 0)) && (r_7.2 == 0)) && (r_8.2 == 0)) && (r_9.2 == 0)) && r_10) && r_11) && (r_6.2.1 == 5)) && (r_7.1 == 5)) with hb | hb
   ·have hf := he.h0
    replace hf := hf.more he 50 rfl (onP e39)
    replace hf := castB hb hf
    refine stP hf rfl rfl rfl (pBuildS (cells := [.int .i64 2,.int .i64 3]) bt_50 rfl rfl) fun a hf => ?_
    replace hf := castI (u := undef) hb hf
    refine cNil ?_
    refine xThenN ?_
    intro ds u hau
    refine ⟨θ,he.put0 hi hau hf rfl 52 rfl rfl,?_⟩
    exact hc
   ·have hf := he.h0
    replace hf := hf.more he 50 rfl (onP e39)
    replace hf := castB hb hf
    refine stS hf rfl rfl rfl fun a hf => ?_
    replace hf := castJ (u := .agg #[.int .i64 2,.int .i64 3]) hb hf
    refine cNil ?_
    refine xThenN ?_
    intro ds u hau
    refine ⟨θ,he.put0 hi hau hf rfl 52 rfl rfl,?_⟩
    exact hc
  ·intro E θ a w hD hi hp he hc
   have e39 := hp.of (k := 39) rfl
   rcases boolEq (((((((((r_5.2 == 0) && (r_6.2.2 == 0)) && (r_7.2 == 0)) && (r_8.2 == 0)) && (r_9.2 == 0)) && r_10) && r_11) && (r_6.2.1 == 5)) && (r_7.1 == 5)) with hb | hb
   ·have hf := he.h0
    replace hf := hf.more he 50 rfl (onP e39)
    replace hf := castB hb hf
    refine stP hf rfl rfl rfl (pBuildS (cells := [.int .i64 0,.int .i64 0]) bt_50 rfl rfl) fun a hf => ?_
    replace hf := castI (u := undef) hb hf
    refine cNil ?_
    refine xThenN ?_
    intro ds u hau
    refine ⟨θ,he.put0 hi hau hf rfl 53 rfl rfl,?_⟩
    exact hc
   ·have hf := he.h0
    replace hf := hf.more he 50 rfl (onP e39)
    replace hf := castB hb hf
    refine stS hf rfl rfl rfl fun a hf => ?_
    replace hf := castJ (u := .agg #[.int .i64 0,.int .i64 0]) hb hf
    refine cNil ?_
    refine xThenN ?_
    intro ds u hau
    refine ⟨θ,he.put0 hi hau hf rfl 53 rfl rfl,?_⟩
    exact hc
  ·intro E θ a w hD hi hp he hc
   have e39 := hp.of (k := 39) rfl
   rcases boolEq (((((((((r_5.2 == 0) && (r_6.2.2 == 0)) && (r_7.2 == 0)) && (r_8.2 == 0)) && (r_9.2 == 0)) && r_10) && r_11) && (r_6.2.1 == 5)) && (r_7.1 == 5)) with hb | hb
   ·have hf := he.h0
    replace hf := hf.more he 50 rfl (onP e39)
    replace hf := castB hb hf
    refine stP hf rfl rfl rfl (pBuildS (cells := [.int .i64 3,.int .i64 4]) bt_50 rfl rfl) fun a hf => ?_
    replace hf := castI (u := undef) hb hf
    refine cNil ?_
    refine xThenN ?_
    intro ds u hau
    refine ⟨θ,he.put0 hi hau hf rfl 54 rfl rfl,?_⟩
    exact hc
   ·have hf := he.h0
    replace hf := hf.more he 50 rfl (onP e39)
    replace hf := castB hb hf
    refine stS hf rfl rfl rfl fun a hf => ?_
    replace hf := castJ (u := .agg #[.int .i64 3,.int .i64 4]) hb hf
    refine cNil ?_
    refine xThenN ?_
    intro ds u hau
    refine ⟨θ,he.put0 hi hau hf rfl 54 rfl rfl,?_⟩
    exact hc
  ·intro E θ a w hD hi hp he hc
   have e39 := hp.of (k := 39) rfl
   have e41 := hp.of (k := 41) rfl
   have e42 := hp.of (k := 42) rfl
   have e43 := hp.of (k := 43) rfl
   try dsimp only at hc
   rw [hi] at hc
   rcases boolEq (((((((((r_5.2 == 0) && (r_6.2.2 == 0)) && (r_7.2 == 0)) && (r_8.2 == 0)) && (r_9.2 == 0)) && r_10) && r_11) && (r_6.2.1 == 5)) && (r_7.1 == 5)) with hb | hb
   ·have hf := he.h0
    replace hf := hf.more he 50 rfl (onP e39)
    replace hf := castB hb hf
    replace hf := hf.more he 52 rfl (onP e41)
    replace hf := castCT hb hf
    replace hf := hf.more he 53 rfl (onP e42)
    replace hf := castCT hb hf
    replace hf := hf.more he 54 rfl (onP e43)
    replace hf := castCT hb hf
    refine stBS (rows := ([(⟨2,3⟩ : api_Span),(⟨0,0⟩ : api_Span),(⟨3,4⟩ : api_Span)] : List api_Span).map enc_api_Span) (vs := [(0,.agg #[.int .i64 2,.int .i64 3]),(1,.agg #[.int .i64 0,.int .i64 0]),(2,.agg #[.int .i64 3,.int .i64 4])]) hf hc rfl rfl sl_44 rfl ⟨rfl,rfl,rfl,rfl,rfl,rfl,rfl,rfl,rfl,trivial⟩ rfl rfl fun b_10 a w hf hc => ?_
    replace hf := castI (u := undef) hb hf
    refine cNil ?_
    refine xThenN ?_
    intro ds u hau
    replace hc := hc.drop k1
    refine ⟨(setT θ 352 ⟨b_10,none,0⟩),he.put hi hau hf rfl [] trivial ⟨qq,qq,qq,qq,qq,qq,qq,qq,qq,qq,qq,qq,qq,qq,qq,qq,qq,qq,qq,qq,qq,qq,qq,qq,qq,qq,qq,qq,qq,qq,qq,qq,qq,qq,qq,qq,qq,qq,qq,qq,qq,qq,qq,qq,qq,qq,qq,qq,qq,qq,qq,qq,qq,qq,qq,qq,qq,qq,qq,qq,qq,qq,qq,qq,trivial⟩,?_⟩
    try dsimp only
    rw [updE_self E 44]
    rw [gE_T hb]
    exact hc
   ·have hf := he.h0
    replace hf := hf.more he 50 rfl (onP e39)
    replace hf := castB hb hf
    replace hf := hf.more he 52 rfl (onP e41)
    replace hf := castCF hb hf
    replace hf := hf.more he 53 rfl (onP e42)
    replace hf := castCF hb hf
    replace hf := hf.more he 54 rfl (onP e43)
    replace hf := castCF hb hf
    refine stS hf rfl rfl rfl fun a hf => ?_
    replace hf := castJ (u := .slice (some ⟨(θ 352).b,0,none⟩) 3 3) hb hf
    refine cNil ?_
    refine xThenN ?_
    intro ds u hau
    refine ⟨θ,he.put0 hi hau hf rfl 55 rfl rfl,?_⟩
    try dsimp only
    rw [updE_self E 44]
    rw [gE_F hb]
    exact hc
  ·intro E θ a w hD hi hp he hc
   have e39 := hp.of (k := 39) rfl
   have e40 := hp.of (k := 40) rfl
   have e44 := hp.of (k := 44) rfl
   try dsimp only at hc
   rw [e44] at hc
   rcases boolEq (((((((((r_5.2 == 0) && (r_6.2.2 == 0)) && (r_7.2 == 0)) && (r_8.2 == 0)) && (r_9.2 == 0)) && r_10) && r_11) && (r_6.2.1 == 5)) && (r_7.1 == 5)) with hb | hb
   ·have hf := he.h0
    replace hf := hf.more he 50 rfl (onP e39)
    replace hf := castB hb hf
    replace hf := hf.more he 51 rfl (onP e40)
    replace hf := castCT hb hf
    replace hf := hf.more he 55 rfl (onP e44)
    replace hf := castCT hb hf
    rw [gE_T hb] at hc
    refine stE hf hc rfl rfl rfl (eC (v := .bool r_12) (vs := [.slice p_5 r_8.1.length c_5,.slice (some ⟨(θ 352).b,0,none⟩) 3 3]) (caps := []) en_24 rfl rfl rfl rfl (fun w hc => by obtain ⟨G1,hle1,hrd1,hc,hth1⟩ := lend hc k6; obtain ⟨G2,hle2,hrd2,hc,hth2⟩ := lend hc k0; exact (kit_Same_api_Span_ok r_8.1 ([(⟨2,3⟩ : api_Span),(⟨0,0⟩ : api_Span),(⟨3,4⟩ : api_Span)] : List api_Span) (hrd1.mono hle2) hrd2 hc (condT hb hr_12)).mono fun e w h => ⟨h.1,((hth1 _ _ ((hth2 _ _ h.2).unpick k0)).unpick k6)⟩)) fun a w hf hc => ?_
    replace hf := castI (u := undef) hb hf
    refine cNil ?_
    refine xThenN ?_
    intro ds u hau
    refine ⟨θ,he.put0 hi hau hf rfl 56 rfl rfl,?_⟩
    try dsimp only
    rw [updE_tru 45 e44]
    rw [gE_T hb]
    exact hc
   ·have hf := he.h0
    replace hf := hf.more he 50 rfl (onP e39)
    replace hf := castB hb hf
    replace hf := hf.more he 51 rfl (onP e40)
    replace hf := castCF hb hf
    replace hf := hf.more he 55 rfl (onP e44)
    replace hf := castCF hb hf
    rw [gE_F hb] at hc
    refine stS hf rfl rfl rfl fun a hf => ?_
    replace hf := castJ (u := .bool r_12) hb hf
    refine cNil ?_
    refine xThenN ?_
    intro ds u hau
    refine ⟨θ,he.put0 hi hau hf rfl 56 rfl rfl,?_⟩
    try dsimp only
    rw [updE_tru 45 e44]
    rw [gE_F hb]
    exact hc
  ·intro E θ a w hD hi hp he hc
   have e39 := hp.of (k := 39) rfl
   have e45 := hp.of (k := 45) rfl
   rcases boolEq (((((((((r_5.2 == 0) && (r_6.2.2 == 0)) && (r_7.2 == 0)) && (r_8.2 == 0)) && (r_9.2 == 0)) && r_10) && r_11) && (r_6.2.1 == 5)) && (r_7.1 == 5)) with hb | hb
   ·have hf := he.h0
    replace hf := hf.more he 50 rfl (onP e39)
    replace hf := castB hb hf
    replace hf := hf.more he 56 rfl (onP e45)
    replace hf := castCT hb hf
    refine stP hf rfl rfl rfl (pPt rfl rfl) fun a hf => ?_
    replace hf := castV (v' := .bool ((((((((((r_5.2 == 0) && (r_6.2.2 == 0)) && (r_7.2 == 0)) && (r_8.2 == 0)) && (r_9.2 == 0)) && r_10) && r_11) && (r_6.2.1 == 5)) && (r_7.1 == 5)) && r_12)) (congrArg Value.bool (andT hb)) hf
    refine cNil ?_
    refine xThenN ?_
    intro ds u hau
    refine ⟨θ,he.put0 hi hau hf rfl 57 rfl rfl,?_⟩
    exact hc
   ·have hf := he.h0
    replace hf := hf.more he 50 rfl (onP e39)
    replace hf := castB hb hf
    replace hf := hf.more he 56 rfl (onP e45)
    replace hf := castCF hb hf
    refine stP hf rfl rfl rfl (pPf rfl rfl) fun a hf => ?_
    replace hf := castV (v' := .bool ((((((((((r_5.2 == 0) && (r_6.2.2 == 0)) && (r_7.2 == 0)) && (r_8.2 == 0)) && (r_9.2 == 0)) && r_10) && r_11) && (r_6.2.1 == 5)) && (r_7.1 == 5)) && r_12)) (congrArg Value.bool (andF hb)) hf
    refine cNil ?_
    refine xThenN ?_
    intro ds u hau
    refine ⟨θ,he.put0 hi hau hf rfl 57 rfl rfl,?_⟩
    exact hc
  ·intro E θ a w hD hi hp he hc
   have e46 := hp.of (k := 46) rfl
   have hf := he.h0
   replace hf := hf.more he 57 rfl (onP e46)
   refine stP hf rfl rfl rfl (pM rfl) fun a hf => cNil ?_
   refine xThenN ?_
   intro ds u hau
   refine ⟨θ,he.put0 hi hau hf rfl 58 rfl rfl,?_⟩
   exact hc
  ·intro E θ a w hD hi hp he hc
   have e47 := hp.of (k := 47) rfl
   rcases boolEq ((((((((((r_5.2 == 0) && (r_6.2.2 == 0)) && (r_7.2 == 0)) && (r_8.2 == 0)) && (r_9.2 == 0)) && r_10) && r_11) && (r_6.2.1 == 5)) && (r_7.1 == 5)) && r_12) with hb | hb
   ·have hf := he.h0
    replace hf := hf.more he 9 rfl onT
    replace hf := hf.more he 58 rfl (onP e47)
    replace hf := castB hb hf
    refine stE hf hc rfl rfl rfl (eLdN (vs := [.int .i64 r_9.1.Lo,.int .i64 r_9.1.Hi]) ag_50 rfl rfl (cells_box (n := 2) m3 rfl)) fun a w hf hc => ?_
    replace hf := castI (u := undef) hb hf
    refine cNil ?_
    refine xThenN ?_
    intro ds u hau
    refine ⟨θ,he.put0 hi hau hf rfl 59 rfl rfl,?_⟩
    exact hc
   ·have hf := he.h0
    replace hf := hf.more he 9 rfl onT
    replace hf := hf.more he 58 rfl (onP e47)
    replace hf := castB hb hf
    refine stS hf rfl rfl rfl fun a hf => ?_
    replace hf := castJ (u := .agg #[.int .i64 r_9.1.Lo,.int .i64 r_9.1.Hi]) hb hf
    refine cNil ?_
    refine xThenN ?_
    intro ds u hau
    refine ⟨θ,he.put0 hi hau hf rfl 59 rfl rfl,?_⟩
    exact hc
  ·intro E θ a w hD hi hp he hc
   have e47 := hp.of (k := 47) rfl
   rcases boolEq ((((((((((r_5.2 == 0) && (r_6.2.2 == 0)) && (r_7.2 == 0)) && (r_8.2 == 0)) && (r_9.2 == 0)) && r_10) && r_11) && (r_6.2.1 == 5)) && (r_7.1 == 5)) && r_12) with hb | hb
   ·have hf := he.h0
    replace hf := hf.more he 58 rfl (onP e47)
    replace hf := castB hb hf
    refine stE hf hc rfl rfl rfl (eC (v := .agg #[.int .i64 r_13.Lo,.int .i64 r_13.Hi]) (vs := [.int .i64 100,.int .i64 190]) (caps := []) en_47 rfl rfl rfl rfl (fun w hc => law05_span_ok 100 190 hc (condT hb hr_13))) fun a w hf hc => ?_
    replace hf := castI (u := undef) hb hf
    refine cNil ?_
    refine xThenN ?_
    intro ds u hau
    refine ⟨θ,he.put0 hi hau hf rfl 60 rfl rfl,?_⟩
    exact hc
   ·have hf := he.h0
    replace hf := hf.more he 58 rfl (onP e47)
    replace hf := castB hb hf
    refine stS hf rfl rfl rfl fun a hf => ?_
    replace hf := castJ (u := .agg #[.int .i64 r_13.Lo,.int .i64 r_13.Hi]) hb hf
    refine cNil ?_
    refine xThenN ?_
    intro ds u hau
    refine ⟨θ,he.put0 hi hau hf rfl 60 rfl rfl,?_⟩
    exact hc
  ·intro E θ a w hD hi hp he hc
   have e47 := hp.of (k := 47) rfl
   have e48 := hp.of (k := 48) rfl
   have e49 := hp.of (k := 49) rfl
   rcases boolEq ((((((((((r_5.2 == 0) && (r_6.2.2 == 0)) && (r_7.2 == 0)) && (r_8.2 == 0)) && (r_9.2 == 0)) && r_10) && r_11) && (r_6.2.1 == 5)) && (r_7.1 == 5)) && r_12) with hb | hb
   ·have hf := he.h0
    replace hf := hf.more he 58 rfl (onP e47)
    replace hf := castB hb hf
    replace hf := hf.more he 59 rfl (onP e48)
    replace hf := castCT hb hf
    replace hf := hf.more he 60 rfl (onP e49)
    replace hf := castCT hb hf
    refine stP hf rfl rfl rfl (pEqA ge_50 rfl rfl (eqs_50 _ _ _ _)) fun a hf => ?_
    replace hf := castI (u := undef) hb hf
    refine cNil ?_
    refine xThenN ?_
    intro ds u hau
    refine ⟨θ,he.put0 hi hau hf rfl 61 rfl rfl,?_⟩
    exact hc
   ·have hf := he.h0
    replace hf := hf.more he 58 rfl (onP e47)
    replace hf := castB hb hf
    replace hf := hf.more he 59 rfl (onP e48)
    replace hf := castCF hb hf
    replace hf := hf.more he 60 rfl (onP e49)
    replace hf := castCF hb hf
    refine stS hf rfl rfl rfl fun a hf => ?_
    replace hf := castJ (u := .bool (r_9.1.Lo == r_13.Lo && r_9.1.Hi == r_13.Hi)) hb hf
    refine cNil ?_
    refine xThenN ?_
    intro ds u hau
    refine ⟨θ,he.put0 hi hau hf rfl 61 rfl rfl,?_⟩
    exact hc
  ·intro E θ a w hD hi hp he hc
   have e47 := hp.of (k := 47) rfl
   have e50 := hp.of (k := 50) rfl
   rcases boolEq ((((((((((r_5.2 == 0) && (r_6.2.2 == 0)) && (r_7.2 == 0)) && (r_8.2 == 0)) && (r_9.2 == 0)) && r_10) && r_11) && (r_6.2.1 == 5)) && (r_7.1 == 5)) && r_12) with hb | hb
   ·have hf := he.h0
    replace hf := hf.more he 58 rfl (onP e47)
    replace hf := castB hb hf
    replace hf := hf.more he 61 rfl (onP e50)
    replace hf := castCT hb hf
    refine stP hf rfl rfl rfl (pPt rfl rfl) fun a hf => ?_
    replace hf := castV (v' := .bool (((((((((((r_5.2 == 0) && (r_6.2.2 == 0)) && (r_7.2 == 0)) && (r_8.2 == 0)) && (r_9.2 == 0)) && r_10) && r_11) && (r_6.2.1 == 5)) && (r_7.1 == 5)) && r_12) && (r_9.1.Lo == r_13.Lo && r_9.1.Hi == r_13.Hi))) (congrArg Value.bool (andT hb)) hf
    refine cNil ?_
    refine xThenN ?_
    intro ds u hau
    refine ⟨θ,he.put0 hi hau hf rfl 62 rfl rfl,?_⟩
    exact hc
   ·have hf := he.h0
    replace hf := hf.more he 58 rfl (onP e47)
    replace hf := castB hb hf
    replace hf := hf.more he 61 rfl (onP e50)
    replace hf := castCF hb hf
    refine stP hf rfl rfl rfl (pPf rfl rfl) fun a hf => ?_
    replace hf := castV (v' := .bool (((((((((((r_5.2 == 0) && (r_6.2.2 == 0)) && (r_7.2 == 0)) && (r_8.2 == 0)) && (r_9.2 == 0)) && r_10) && r_11) && (r_6.2.1 == 5)) && (r_7.1 == 5)) && r_12) && (r_9.1.Lo == r_13.Lo && r_9.1.Hi == r_13.Hi))) (congrArg Value.bool (andF hb)) hf
    refine cNil ?_
    refine xThenN ?_
    intro ds u hau
    refine ⟨θ,he.put0 hi hau hf rfl 62 rfl rfl,?_⟩
    exact hc
  ·intro E θ a w hD hi hp he hc
   have e51 := hp.of (k := 51) rfl
   have hf := he.h0
   replace hf := hf.more he 62 rfl (onP e51)
   refine stP hf rfl rfl rfl (pA rfl) fun a hf => cNil ?_
   refine xThenN ?_
   intro ds u hau
   refine ⟨θ,he.put0 hi hau hf rfl 63 rfl rfl,?_⟩
   exact hc
  ·intro E θ a w hall he hc
   have hf := he.h0
   have e23 := hall 23 rfl
   have e28 := hall 28 rfl
   have e44 := hall 44 rfl
   have e52 := hall 52 rfl
   replace hf := hf.more he 63 rfl (onP e52)
   try dsimp only at hc
   rw [e23,e28,e44] at hc
   replace hc := hc.drop k2
   replace hc := hc.drop k1
   replace hc := hc.drop k0
   exact ⟨hf.keep ⟨rfl,trivial⟩,hc⟩
  rintro a w ⟨hf,hc⟩
  refine h15 _ _ ?_
  refine wp_ret ?_
  obtain rfl := Option.some.inj hF
  replace hc := hc.drop k11
  replace hc := hc.drop k10
  replace hc := hc.drop k9
  replace hc := hc.drop k8
  replace hc := hc.drop k7
  replace hc := hc.drop k6
  replace hc := hc.drop k5
  replace hc := hc.drop k4
  replace hc := hc.drop k3
  replace hc := hc.drop k2
  replace hc := hc.drop k1
  replace hc := hc.drop k0
  exact fnOut1 (by simp) rfl Try.results12 hf hc (show look _ 0 = _ from rfl) ⟨rfl,hc⟩

def kit_Copy_shift_Mark (N : Nat) (l : List shift_Mark) : Option ((List shift_Mark)) :=
 Option.bind (room (l).length) fun un =>
 some l
theorem kit_Copy_shift_Mark_ok {N : Nat} {G : Pers} {Lf : List Ent} {w : World} (l : List shift_Mark) {l_p : Option Addr} {l_c : Nat} (h_l : Rd G 2 l_p l_c (l.map enc_shift_Mark)) (hc : Ctx G (Lf) w) {res : (List shift_Mark)} (hF : kit_Copy_shift_Mark N l = some res) : Calls Try.prog 40 #[.slice l_p l.length l_c] w (fun e w => ∃ (p'1 : Option Addr) (c'1 : Nat),e = .returned (.slice p'1 res.length c'1) ∧ Ctx G (.row p'1 c'1 (res.map enc_shift_Mark) 77 2::Lf) w) := by
 unfold kit_Copy_shift_Mark at hF
 refine fnIn (args := [.slice l_p l.length l_c]) Try.func40 rfl Try.ntmps40 rfl fun a hf => wp_seq_k fun K1 h1 => cReg ?_
 refine stP hf rfl rfl rfl (pA rfl) fun a hf => cNil ?_
 refine h1 _ _ ?_
 refine wp_seq_k fun K2 h2 => cReg ?_
 refine stP hf rfl rfl rfl (pA rfl) fun a hf => cNil ?_
 refine h2 _ _ ?_
 refine wp_seq_k fun K3 h3 => cReg ?_
 refine stP hf rfl rfl rfl (pM rfl) fun a hf => stP hf rfl rfl rfl (pM rfl) fun a hf => ?_
 replace hc := hc.nilRow 77 2
 obtain ⟨un,hun,hF⟩ := bnd_some hF
 refine stApm (xs := ([] : List shift_Mark)) (ys := l) hf hc rfl rfl sl_22 rfl rfl rfl rfl rfl one_enc_shift_Mark (src_rd hc h_l) (fun _ _ => u0) (by simpa using room_spec hun) fun p_1 c_1 a w hf hc => stP hf rfl rfl rfl (pA rfl) fun a hf => cNil ?_
 refine h3 _ _ ?_
 refine wp_ret ?_
 obtain rfl := Option.some.inj hF
 exact fnOut1 (by simp) rfl Try.results40 hf hc (show look _ 2 = _ from rfl) ⟨p_1,c_1,rfl,hc⟩

def kit_Copy_shift_Gauging (N : Nat) (l : List shift_Gauging) : Option ((List shift_Gauging)) :=
 Option.bind (room (l).length) fun un =>
 some l
theorem kit_Copy_shift_Gauging_ok {N : Nat} {G : Pers} {Lf : List Ent} {w : World} (l : List shift_Gauging) {l_p : Option Addr} {l_c : Nat} (h_l : Rd G 4 l_p l_c (l.map enc_shift_Gauging)) (hc : Ctx G (Lf) w) {res : (List shift_Gauging)} (hF : kit_Copy_shift_Gauging N l = some res) : Calls Try.prog 57 #[.slice l_p l.length l_c] w (fun e w => ∃ (p'1 : Option Addr) (c'1 : Nat),e = .returned (.slice p'1 res.length c'1) ∧ Ctx G (.row p'1 c'1 (res.map enc_shift_Gauging) 71 4::Lf) w) := by
 unfold kit_Copy_shift_Gauging at hF
 refine fnIn (args := [.slice l_p l.length l_c]) Try.func57 rfl Try.ntmps57 rfl fun a hf => wp_seq_k fun K1 h1 => cReg ?_
 refine stP hf rfl rfl rfl (pA rfl) fun a hf => cNil ?_
 refine h1 _ _ ?_
 refine wp_seq_k fun K2 h2 => cReg ?_
 refine stP hf rfl rfl rfl (pA rfl) fun a hf => cNil ?_
 refine h2 _ _ ?_
 refine wp_seq_k fun K3 h3 => cReg ?_
 refine stP hf rfl rfl rfl (pM rfl) fun a hf => stP hf rfl rfl rfl (pM rfl) fun a hf => ?_
 replace hc := hc.nilRow 71 4
 obtain ⟨un,hun,hF⟩ := bnd_some hF
 refine stApm (xs := ([] : List shift_Gauging)) (ys := l) hf hc rfl rfl sl_23 rfl rfl rfl rfl rfl one_enc_shift_Gauging (src_rd hc h_l) (fun _ _ => u0) (by simpa using room_spec hun) fun p_1 c_1 a w hf hc => stP hf rfl rfl rfl (pA rfl) fun a hf => cNil ?_
 refine h3 _ _ ?_
 refine wp_ret ?_
 obtain rfl := Option.some.inj hF
 exact fnOut1 (by simp) rfl Try.results57 hf hc (show look _ 2 = _ from rfl) ⟨p_1,c_1,rfl,hc⟩

def law05_CopyRecord (N : Nat) (r : shift_Record) : Option (shift_Record) :=
 Option.bind (kit_Copy_shift_Mark N r.Rating) fun r_0 =>
 Option.bind (kit_Copy_shift_Gauging N r.Gaugings) fun r_1 =>
 some (⟨r_0,r_1⟩ : shift_Record)
theorem law05_CopyRecord_ok {N : Nat} {G : Pers} {Lf : List Ent} {w : World} (r : shift_Record) {r_Rating_p : Option Addr} {r_Rating_c : Nat} {r_Gaugings_p : Option Addr} {r_Gaugings_c : Nat} (h_r_Rating : Rd G 2 r_Rating_p r_Rating_c (r.Rating.map enc_shift_Mark)) (h_r_Gaugings : Rd G 4 r_Gaugings_p r_Gaugings_c (r.Gaugings.map enc_shift_Gauging)) (hc : Ctx G (Lf) w) {res : shift_Record} (hF : law05_CopyRecord N r = some res) : Calls Try.prog 13 #[.agg #[.slice r_Rating_p r.Rating.length r_Rating_c,.slice r_Gaugings_p r.Gaugings.length r_Gaugings_c]] w (fun e w => ∃ (p'1 : Option Addr) (c'1 : Nat) (p'2 : Option Addr) (c'2 : Nat),e = .returned (.agg #[.slice p'1 res.Rating.length c'1,.slice p'2 res.Gaugings.length c'2]) ∧ Ctx G (.row p'1 c'1 (res.Rating.map enc_shift_Mark) 77 2::.row p'2 c'2 (res.Gaugings.map enc_shift_Gauging) 71 4::Lf) w) := by
 unfold law05_CopyRecord at hF
 refine fnIn (args := [.agg #[.slice r_Rating_p r.Rating.length r_Rating_c,.slice r_Gaugings_p r.Gaugings.length r_Gaugings_c]]) Try.func13 rfl Try.ntmps13 rfl fun a hf => wp_seq_k fun K1 h1 => cReg ?_
 refine stBx (cs := [.slice r_Rating_p r.Rating.length r_Rating_c,.slice r_Gaugings_p r.Gaugings.length r_Gaugings_c]) hf hc rfl rfl rfl rfl fun b_1 a w hf hc => stAl (cs := [.slice none 0 0,.slice none 0 0]) hf hc rfl rfl zr_25 rfl fun b_2 a w hf hc => cNil ?_
 refine h1 _ _ ?_
 refine wp_seq_k fun K2 h2 => ?_
 obtain ⟨r_0,hr_0,hF⟩ := bnd_some hF
 obtain ⟨r_1,hr_1,hF⟩ := bnd_some hF
 replace hc := hc.nilRow 0 0
 replace hc := hc.nilRow 0 0
 refine regionE (fun θ => [⟨none,none,1,.pointer (some ⟨b_1,0,none⟩)⟩,⟨none,none,2,.pointer (some ⟨b_2,0,none⟩)⟩,⟨some 0,none,3,.pointer (some ⟨b_1,0,none⟩)⟩,⟨some 1,none,4,.slice r_Rating_p r.Rating.length r_Rating_c⟩,⟨some 2,none,5,.slice ((θ 16).p) r_0.length ((θ 16).c)⟩,⟨some 3,none,6,.pointer (some ⟨b_1,1,none⟩)⟩,⟨some 4,none,7,.slice r_Gaugings_p r.Gaugings.length r_Gaugings_c⟩,⟨some 5,none,8,.slice ((θ 40).p) r_1.length ((θ 40).c)⟩,⟨some 6,none,9,.agg #[.slice ((θ 16).p) r_0.length ((θ 16).c),.slice ((θ 40).p) r_1.length ((θ 40).c)]⟩]) (fun E θ => (bif E 5 then .row ((θ 40).p) ((θ 40).c) (r_1.map enc_shift_Gauging) 71 4 else .row none 0 [] 0 0)::(bif E 2 then .row ((θ 16).p) ((θ 16).c) (r_0.map enc_shift_Mark) 77 2 else .row none 0 [] 0 0)::(bif E 7 then .box b_2 [.slice ((θ 16).p) r_0.length ((θ 16).c),.slice ((θ 40).p) r_1.length ((θ 40).c)] 25 else .box b_2 [.slice none 0 0,.slice none 0 0] 25)::.box b_1 [.slice r_Rating_p r.Rating.length r_Rating_c,.slice r_Gaugings_p r.Gaugings.length r_Gaugings_c] 25::Lf) [(7,2),(6,2),(7,5),(6,5)] (fun a w => ∃ (p_3 : Option Addr) (c_3 : Nat) (p_4 : Option Addr) (c_4 : Nat),Has 10 a [(2,.pointer (some ⟨b_2,0,none⟩))] ∧ Ctx G (.row p_3 c_3 (r_1.map enc_shift_Gauging) 71 4::.row p_4 c_4 (r_0.map enc_shift_Mark) 77 2::.box b_2 [.slice p_4 r_0.length c_4,.slice p_3 r_1.length c_3] 25::.box b_1 [.slice r_Rating_p r.Rating.length r_Rating_c,.slice r_Gaugings_p r.Gaugings.length r_Gaugings_c] 25::Lf) w) follows_mx (by kernel_rfl) (by kernel_rfl) (HasE.of hf ⟨rfl,rfl,trivial,trivial,trivial,trivial,trivial,trivial,trivial,trivial⟩) hc ⟨?_,?_,?_,?_,?_,?_,?_,?_,trivial⟩ ?_ ?_
 ·intro E θ a w hD hi hp he hc
  have hf := he.h0
  replace hf := hf.more he 0 rfl onT
  refine stP hf rfl rfl rfl (pFA fa_25_0 rfl) fun a hf => cNil ?_
  refine xThenN ?_
  intro ds u hau
  refine ⟨θ,he.put0 hi hau hf rfl 2 rfl rfl,?_⟩
  exact hc
 ·intro E θ a w hD hi hp he hc
  have e0 := hp.of (k := 0) rfl
  have hf := he.h0
  replace hf := hf.more he 2 rfl (onP e0)
  refine stE hf hc rfl rfl rfl (eLd1 sc_22 rfl (cell_box m3 rfl)) fun a w hf hc => cNil ?_
  refine xThenN ?_
  intro ds u hau
  refine ⟨θ,he.put0 hi hau hf rfl 3 rfl rfl,?_⟩
  exact hc
 ·intro E θ a w hD hi hp he hc
  have e1 := hp.of (k := 1) rfl
  have e7 := hD.f 0 rfl hi
  have e6 := hD.f 1 rfl hi
  try dsimp only at hc
  rw [hi,e7] at hc
  have hf := he.h0
  replace hf := hf.more he 3 rfl (onP e1)
  refine stC (vs := [.slice r_Rating_p r.Rating.length r_Rating_c]) (caps := []) hf rfl rfl rfl en_40 rfl rfl rfl rfl (kit_Copy_shift_Mark_ok r.Rating h_r_Rating hc hr_0) ?_
  rintro _ w ⟨p_1,c_1,rfl,hc⟩
  refine ⟨_,rfl,fun a hf => ?_⟩
  refine cNil ?_
  refine xThenN ?_
  intro ds u hau
  replace hc := hc.drop k2
  replace hc := hc.pick k0
  replace hc := hc.pick k1
  refine ⟨(setT θ 16 ⟨0,p_1,c_1⟩),he.put hi hau hf rfl [6] ⟨⟨e6,rfl⟩,trivial⟩ ⟨qq,qq,qq,qq,qq,qq,qq,qq,trivial,trivial⟩,?_⟩
  try dsimp only
  rw [updE_self E 2,updE_fls 2 e7 rfl]
  exact hc
 ·intro E θ a w hD hi hp he hc
  have hf := he.h0
  replace hf := hf.more he 0 rfl onT
  refine stP hf rfl rfl rfl (pFA fa_25_1 rfl) fun a hf => cNil ?_
  refine xThenN ?_
  intro ds u hau
  refine ⟨θ,he.put0 hi hau hf rfl 5 rfl rfl,?_⟩
  exact hc
 ·intro E θ a w hD hi hp he hc
  have e3 := hp.of (k := 3) rfl
  have hf := he.h0
  replace hf := hf.more he 5 rfl (onP e3)
  refine stE hf hc rfl rfl rfl (eLd1 sc_23 rfl (cell_box m3 rfl)) fun a w hf hc => cNil ?_
  refine xThenN ?_
  intro ds u hau
  refine ⟨θ,he.put0 hi hau hf rfl 6 rfl rfl,?_⟩
  exact hc
 ·intro E θ a w hD hi hp he hc
  have e4 := hp.of (k := 4) rfl
  have e7 := hD.f 2 rfl hi
  have e6 := hD.f 3 rfl hi
  try dsimp only at hc
  rw [hi,e7] at hc
  have hf := he.h0
  replace hf := hf.more he 6 rfl (onP e4)
  refine stC (vs := [.slice r_Gaugings_p r.Gaugings.length r_Gaugings_c]) (caps := []) hf rfl rfl rfl en_57 rfl rfl rfl rfl (kit_Copy_shift_Gauging_ok r.Gaugings h_r_Gaugings hc hr_1) ?_
  rintro _ w ⟨p_2,c_2,rfl,hc⟩
  refine ⟨_,rfl,fun a hf => ?_⟩
  refine cNil ?_
  refine xThenN ?_
  intro ds u hau
  replace hc := hc.drop k1
  refine ⟨(setT θ 40 ⟨0,p_2,c_2⟩),he.put hi hau hf rfl [6] ⟨⟨e6,rfl⟩,trivial⟩ ⟨qq,qq,qq,qq,qq,qq,qq,qq,trivial,trivial⟩,?_⟩
  try dsimp only
  rw [updE_self E 5,updE_fls 5 e7 rfl]
  exact hc
 ·intro E θ a w hD hi hp he hc
  have e2 := hp.of (k := 2) rfl
  have e5 := hp.of (k := 5) rfl
  have hf := he.h0
  replace hf := hf.more he 4 rfl (onP e2)
  replace hf := hf.more he 7 rfl (onP e5)
  refine stP hf rfl rfl rfl (pBuildS (cells := [.slice ((θ 16).p) r_0.length ((θ 16).c),.slice ((θ 40).p) r_1.length ((θ 40).c)]) bt_25 rfl rfl) fun a hf => cNil ?_
  refine xThenN ?_
  intro ds u hau
  refine ⟨θ,he.put0 hi hau hf rfl 8 rfl rfl,?_⟩
  exact hc
 ·intro E θ a w hD hi hp he hc
  have e6 := hp.of (k := 6) rfl
  try dsimp only at hc
  rw [hi] at hc
  have hf := he.h0
  replace hf := hf.more he 1 rfl onT
  replace hf := hf.more he 8 rfl (onP e6)
  refine stSt (vs := [.slice ((θ 16).p) r_0.length ((θ 16).c),.slice ((θ 40).p) r_1.length ((θ 40).c)]) hf hc rfl rfl rfl rfl sz_25 rfl rfl u2 fun w hc => cNil ?_
  refine xThenN ?_
  intro ds u hau
  refine ⟨θ,he.stay0 hi hau hf rfl,?_⟩
  try dsimp only
  rw [updE_self E 7]
  exact hc
 ·intro E θ a w hall he hc
  have hf := he.h0
  have e2 := hall 2 rfl
  have e5 := hall 5 rfl
  have e7 := hall 7 rfl
  replace hf := hf.more he 1 rfl (onT)
  try dsimp only at hc
  rw [e2,e5,e7] at hc
  exact ⟨(θ 40).p,(θ 40).c,(θ 16).p,(θ 16).c,hf.keep ⟨rfl,trivial⟩,hc⟩
 rintro a w ⟨p_3,c_3,p_4,c_4,hf,hc⟩
 refine h2 _ _ ?_
 refine wp_ret ?_
 obtain rfl := Option.some.inj hF
 replace hc := hc.drop k3
 replace hc := hc.pick k0
 replace hc := hc.pick k1
 exact fnOut1 (by simp) rfl Try.results13 hf hc (rv_cellN (vs := [.slice p_4 r_0.length c_4,.slice p_3 r_1.length c_3]) ag_25 rfl rfl (cells_box (n := 2) m2 rfl)) ⟨p_4,c_4,p_3,c_3,rfl,(hc.drop k2)⟩

def ref05_apart (a_ : Int) (b_ : Int) : Int :=
 cond (decide (a_ < b_))
 (W (b_ - a_))
 (W (a_ - b_))
theorem ref05_apart_ok {G : Pers} {Lf : List Ent} {w : World} (a_ : Int) (b_ : Int)   (hc : Ctx G (Lf) w) {res : Int} (hF : ref05_apart a_ b_ = res) : Calls Try.prog 138 #[.int .i64 a_,.int .i64 b_] w (fun e w => e = .returned (.int .i64 res) ∧ Ctx G (Lf) w) := by
 unfold ref05_apart at hF
 refine fnIn (args := [.int .i64 a_,.int .i64 b_]) Try.func138 rfl Try.ntmps138 rfl fun a hf => wp_seq_k fun K1 h1 => cReg ?_
 refine stP hf rfl rfl rfl (pA rfl) fun a hf => cNil ?_
 refine h1 _ _ ?_
 refine wp_seq_k fun K2 h2 => wp_seq_k fun K3 h3 => cReg ?_
 refine stP hf rfl rfl rfl (pM rfl) fun a hf => stP hf rfl rfl rfl (pM rfl) fun a hf => stP hf rfl rfl rfl (pLt rfl rfl) fun a hf => cNil ?_
 refine h3 _ _ ?_
 refine cCond (b := (decide (a_ < b_))) hf rfl (fun hb => ?_) (fun hb => ?_)
 ·replace hF := condT hb hF
  clear hb
  refine wp_seq_k fun K4 h4 => cReg ?_
  refine stP hf rfl rfl rfl (pM rfl) fun a hf => stP hf rfl rfl rfl (pM rfl) fun a hf => stP hf rfl rfl rfl (pSub rfl rfl) fun a hf => stP hf rfl rfl rfl (pA rfl) fun a hf => cNil ?_
  refine h4 _ _ ?_
  refine wp_ret ?_
  refine xThenR ?_
  obtain rfl := hF
  exact fnOut1 (by simp) rfl Try.results138 hf hc (show look _ 4 = _ from rfl) ⟨rfl,hc⟩
 ·replace hF := condF hb hF
  clear hb
  refine wp_skip ?_
  refine h2 _ _ ?_
  refine wp_seq_k fun K5 h5 => cReg ?_
  refine stP hf rfl rfl rfl (pM rfl) fun a hf => stP hf rfl rfl rfl (pM rfl) fun a hf => stP hf rfl rfl rfl (pSub rfl rfl) fun a hf => stP hf rfl rfl rfl (pA rfl) fun a hf => cNil ?_
  refine h5 _ _ ?_
  refine wp_ret ?_
  obtain rfl := hF
  exact fnOut1 (by simp) rfl Try.results138 hf hc (show look _ 4 = _ from rfl) ⟨rfl,hc⟩

def ref05_rest_j17 (N : Nat) (i_1 : Int) (out_1 : List (List Int)) (s_1 : Int) (best : Int) : Option (Step ((List (List Int)) × Int) (Step ((List (List Int)) × Int) ((List (List Int))))) :=
 Option.bind (getI out_1 i_1) fun e_3 =>
 Option.bind (room ((e_3 ++ [best])).length) fun un_1 =>
 Option.bind (getI out_1 i_1) fun e_4 =>
 some (.cont ((out_1.set i_1.toNat (e_3 ++ [best])),W (s_1 + 1)))
def ref05_rest_b21 (N : Nat) (l : List api_Span) (i_1 : Int) (out_1 : List (List Int)) (s_1 : Int) (best_1 : Int) (t_1 : Int) : Option (Step (Int × Int) (Step ((List (List Int)) × Int) (Step ((List (List Int)) × Int) ((List (List Int)))))) :=
 Option.bind (getI l (W (i_1 + 1))) fun e_6 =>
 cond (decide (t_1 ≤ e_6.Hi))
 (Option.bind (getI out_1 (W (i_1 + 1))) fun e_7 =>
 Option.bind (getI l (W (i_1 + 1))) fun e_8 =>
 Option.bind (getI e_7 (W (t_1 - e_8.Lo))) fun e_9 =>
 some (.cont (min best_1 (W ((ref05_apart s_1 t_1) + e_9)),W (t_1 + 1))))
 (some (.brk (best_1,t_1)))
def ref05_rest_b12 (N : Nat) (l : List api_Span) (i_1 : Int) (out_1 : List (List Int)) (s_1 : Int) : Option (Step ((List (List Int)) × Int) (Step ((List (List Int)) × Int) ((List (List Int))))) :=
 Option.bind (getI l i_1) fun e_2 =>
 cond (decide (s_1 ≤ e_2.Hi))
 (cond (decide (i_1 < (W (((l.length : Nat) : Int) - 1))))
 (Option.bind (getI l (W (i_1 + 1))) fun e_5 =>
 Option.bind (loopO (fun s21 => ref05_rest_b21 N l i_1 out_1 s_1 s21.1 s21.2) N (1000000000,e_5.Lo)) fun x21 =>
 exK x21 (fun s21 => ref05_rest_j17 N i_1 out_1 s_1 s21.1) some)
 (ref05_rest_j17 N i_1 out_1 s_1 0))
 (some (.brk (out_1,s_1)))
def ref05_rest_b5 (N : Nat) (l : List api_Span) (out : List (List Int)) (i_1 : Int) : Option (Step ((List (List Int)) × Int) ((List (List Int)))) :=
 cond (decide (0 ≤ i_1))
 (Option.bind (getI l i_1) fun e_1 =>
 Option.bind (loopO (fun s12 => ref05_rest_b12 N l i_1 s12.1 s12.2) N (out,e_1.Lo)) fun x12 =>
 exK x12 (fun s12 => some (.cont (s12.1,W (i_1 - 1)))) some)
 (some (.brk (out,i_1)))
def ref05_rest (N : Nat) (l : List api_Span) : Option ((List (List Int))) :=
 Option.bind (inM ((l.length : Nat) : Int)) fun un =>
 Option.bind (loopO (fun s5 => ref05_rest_b5 N l s5.1 s5.2) N ((List.replicate ((l.length : Nat) : Int).toNat ([] : List Int)),W (((l.length : Nat) : Int) - 1))) fun x5 =>
 exK x5 (fun s5 => some s5.1) some
theorem ref05_rest_ok {N : Nat} {G : Pers} {Lf : List Ent} {w : World} (l : List api_Span) {l_p : Option Addr} {l_c : Nat} (h_l : Rd G 2 l_p l_c (l.map enc_api_Span)) (hc : Ctx G (Lf) w) {res : (List (List Int))} (hF : ref05_rest N l = some res) : Calls Try.prog 109 #[.slice l_p l.length l_c] w (fun e w => ∃ (p'1 : Option Addr) (tcq'1 : TabH),e = .returned (.slice p'1 res.length tcq'1.1) ∧ Ctx G (.row p'1 tcq'1.1 ((tabR tcq'1.2 res).map TR.val) 61 1::(tabL encI_i64 3 1 (tabR tcq'1.2 res) Lf)) w) := by
 unfold ref05_rest at hF
 refine fnIn (args := [.slice l_p l.length l_c]) Try.func109 rfl Try.ntmps109 rfl fun a hf => wp_seq_k fun K1 h1 => cReg ?_
 refine stP hf rfl rfl rfl (pA rfl) fun a hf => cNil ?_
 refine h1 _ _ ?_
 refine wp_seq_k fun K2 h2 => cReg ?_
 refine stP hf rfl rfl rfl (pM rfl) fun a hf => stP hf rfl rfl rfl (pLenS Try.underlying44 rfl) fun a hf => ?_
 obtain ⟨un,hun,hF⟩ := bnd_some hF
 refine stMk (m := (List.replicate ((l.length : Nat) : Int).toNat ([] : List Int)).length) (rows := (List.replicate ((l.length : Nat) : Int).toNat (⟨none,0,[]⟩ : TR Int)).map TR.val) hf hc rfl rfl sl_195 rfl rfl (inM_spec hun) rfl rfl (by simp [List.map_replicate,Value.cells,TR.val]) (by simp) fun b_1 a w hf hc => ?_
 obtain ⟨hsq,hc⟩ := tab_make encI_i64 3 1 _ [] hc
 replace hc : Ctx G (.row (some ⟨b_1,0,none⟩) (((l.length : Nat) : Int).toNat) ((tabR hsq (List.replicate ((l.length : Nat) : Int).toNat ([] : List Int))).map TR.val) 61 1::(tabL encI_i64 3 1 (tabR hsq (List.replicate ((l.length : Nat) : Int).toNat ([] : List Int))) Lf)) w := hc
 refine stP hf rfl rfl rfl (pA rfl) fun a hf => cNil ?_
 refine h2 _ _ ?_
 refine wp_seq_k fun K3 h3 => wp_seq_k fun K4 h4 => cReg ?_
 refine stP hf rfl rfl rfl (pM rfl) fun a hf => stP hf rfl rfl rfl (pLenS Try.underlying44 rfl) fun a hf => stP hf rfl rfl rfl (pSub rfl rfl) fun a hf => stP hf rfl rfl rfl (pA rfl) fun a hf => cNil ?_
 refine h4 _ _ ?_
 refine wp_block ?_
 obtain ⟨x5,hx5,hF⟩ := bnd_some hF
 let S5 : ((List (List Int)) × Int) → Act → World → Prop := (fun (zz : (List (List Int)) × Int) a w => ∃ (p_1 : Option Addr) (tcq : TabH),Has 85 a [(0,.slice l_p l.length l_c),(3,.slice p_1 zz.1.length tcq.1),(4,.int .i64 zz.2)] ∧ Ctx G (.row p_1 tcq.1 ((tabR tcq.2 zz.1).map TR.val) 61 1::(tabL encI_i64 3 1 (tabR tcq.2 zz.1) Lf)) w)
 have hr5 : ∀ (zz : (List (List Int)) × Int) a w,x5 = .go zz → S5 zz a w → K3 a w := by
  rintro ⟨out,i_1⟩ a w rfl ⟨p_1,tcq,hf,hc⟩
  replace hF := exK_go hF
  refine h3 _ _ ?_
  refine wp_seq_k fun K6 h6 => cReg ?_
  refine stP hf rfl rfl rfl (pM rfl) fun a hf => stP hf rfl rfl rfl (pA rfl) fun a hf => cNil ?_
  refine h6 _ _ ?_
  refine wp_ret ?_
  obtain rfl := Option.some.inj hF
  exact fnOut1 (by simp) rfl Try.results109 hf hc (show look _ 2 = _ from rfl) ⟨p_1,tcq,rfl,hc⟩
 have ho5 : ∀ r,x5 = .out r → r = res := by
  rintro r rfl
  exact Option.some.inj hF
 refine cLoop N (loopW (S := S5) (x := x5) ?_ N ((List.replicate ((l.length : Nat) : Int).toNat ([] : List Int)),W (((l.length : Nat) : Int) - 1)) _ _ ⟨(some ⟨b_1,0,none⟩),(((l.length : Nat) : Int).toNat,hsq),hf.keep ⟨rfl,rfl,rfl,trivial⟩,hc⟩ hx5)
 clear hF hf hc
 rintro ⟨out,i_1⟩ st5 a w KB5 ⟨p_1,tcq,hf,hc⟩ hF hfin5 hK5
 unfold ref05_rest_b5 at hF
 refine wp_seq_k fun K7 h7 => wp_seq_k fun K8 h8 => cReg ?_
 refine stP hf rfl rfl rfl (pM rfl) fun a hf => stP hf rfl rfl rfl (pGe rfl rfl) fun a hf => cNil ?_
 refine h8 _ _ ?_
 refine cCond (b := (decide (0 ≤ i_1))) hf rfl (fun hb => ?_) (fun hb => ?_)
 ·replace hF := condT hb hF
  clear hb
  refine wp_skip ?_
  refine h7 _ _ ?_
  refine wp_seq_k fun K9 h9 => wp_block ?_
  refine wp_seq_k fun K10 h10 => cReg ?_
  refine stP hf rfl rfl rfl (pM rfl) fun a hf => stP hf rfl rfl rfl (pM rfl) fun a hf => ?_
  obtain ⟨e_1,he_1,hF⟩ := bnd_some hF
  obtain ⟨b_2,o,qa,qp⟩ := h_l.atm he_1
  refine stP hf rfl rfl rfl (pIA Try.underlying44 sz_50 rfl rfl qa) fun a hf => stP hf rfl rfl rfl (pFA fa_50_0 rfl) fun a hf => stE hf hc rfl rfl rfl (eLd1 sc_3 rfl (cell_pc (j := 0) qp rfl)) fun a w hf hc => stP hf rfl rfl rfl (pA rfl) fun a hf => cNil ?_
  refine h10 _ _ ?_
  refine wp_thenK fun K11 h11 => wp_block ?_
  obtain ⟨x12,hx12,hF⟩ := bnd_some hF
  let S12 : ((List (List Int)) × Int) → Act → World → Prop := (fun (zz : (List (List Int)) × Int) a w => ∃ (p_2 : Option Addr) (tcq_1 : TabH),Has 85 a [(0,.slice l_p l.length l_c),(3,.slice p_2 zz.1.length tcq_1.1),(4,.int .i64 i_1),(5,.int .i64 zz.2)] ∧ Ctx G (.row p_2 tcq_1.1 ((tabR tcq_1.2 zz.1).map TR.val) 61 1::(tabL encI_i64 3 1 (tabR tcq_1.2 zz.1) Lf)) w)
  have hr12 : ∀ (zz : (List (List Int)) × Int) a w,x12 = .go zz → S12 zz a w → K11 a w := by
   rintro ⟨out_1,s_1⟩ a w rfl ⟨p_2,tcq_1,hf,hc⟩
   replace hF := exK_go hF
   refine h11 _ _ ?_
   refine h9 _ _ ?_
   refine cReg ?_
   refine stP hf rfl rfl rfl (pM rfl) fun a hf => stP hf rfl rfl rfl (pSub rfl rfl) fun a hf => stP hf rfl rfl rfl (pA rfl) fun a hf => cNil ?_
   exact hK5 (out_1,W (i_1 - 1)) _ _ (Option.some.inj hF).symm ⟨p_2,tcq_1,hf.keep ⟨rfl,rfl,rfl,trivial⟩,hc⟩
  have ho12 : ∀ r,x12 = .out r → r = st5 := by
   rintro r rfl
   exact Option.some.inj hF
  refine cLoop N (loopW (S := S12) (x := x12) ?_ N (out,e_1.Lo) _ _ ⟨p_1,tcq,hf.keep ⟨rfl,rfl,rfl,rfl,trivial⟩,hc⟩ hx12)
  clear hF hf hc
  rintro ⟨out_1,s_1⟩ st12 a w KB12 ⟨p_2,tcq_1,hf,hc⟩ hF hfin12 hK12
  unfold ref05_rest_b12 at hF
  refine wp_seq_k fun K13 h13 => wp_seq_k fun K14 h14 => cReg ?_
  refine stP hf rfl rfl rfl (pM rfl) fun a hf => stP hf rfl rfl rfl (pM rfl) fun a hf => stP hf rfl rfl rfl (pM rfl) fun a hf => ?_
  obtain ⟨e_2,he_2,hF⟩ := bnd_some hF
  obtain ⟨b_3,o_1,qa_1,qp_1⟩ := h_l.atm he_2
  refine stP hf rfl rfl rfl (pIA Try.underlying44 sz_50 rfl rfl qa_1) fun a hf => stP hf rfl rfl rfl (pFA fa_50_1 rfl) fun a hf => stE hf hc rfl rfl rfl (eLd1 sc_3 rfl (cell_pc (j := 1) qp_1 rfl)) fun a w hf hc => stP hf rfl rfl rfl (pLe rfl rfl) fun a hf => cNil ?_
  refine h14 _ _ ?_
  refine cCond (b := (decide (s_1 ≤ e_2.Hi))) hf rfl (fun hb => ?_) (fun hb => ?_)
  ·replace hF := condT hb hF
   clear hb
   refine wp_skip ?_
   refine h13 _ _ ?_
   refine wp_seq_k fun K15 h15 => wp_block ?_
   refine wp_seq_k fun K16 h16 => cReg ?_
   refine stP hf rfl rfl rfl (pA rfl) fun a hf => cNil ?_
   refine h16 _ _ ?_
   refine wp_seq_k fun K17 h17 => ?_
   have hj17 : ∀ (best : Int) (p_3 : Option Addr) (tcq_2 : TabH) a w,Has 85 a [(0,.slice l_p l.length l_c),(3,.slice p_3 out_1.length tcq_2.1),(4,.int .i64 i_1),(5,.int .i64 s_1),(6,.int .i64 best)] → Ctx G (.row p_3 tcq_2.1 ((tabR tcq_2.2 out_1).map TR.val) 61 1::(tabL encI_i64 3 1 (tabR tcq_2.2 out_1) Lf)) w → ref05_rest_j17 N i_1 out_1 s_1 best = some st12 → K17 a w := by
    repeat (clear hF)
    repeat (clear hc)
    repeat (clear hf)
    intro best p_3 tcq_2 a w hf hc hF
    unfold ref05_rest_j17 at hF
    refine h17 _ _ ?_
    refine cReg ?_
    refine stP hf rfl rfl rfl (pM rfl) fun a hf => stP hf rfl rfl rfl (pM rfl) fun a hf => stP hf rfl rfl rfl (pM rfl) fun a hf => stP hf rfl rfl rfl (pM rfl) fun a hf => ?_
    obtain ⟨e_3,he_3,hF⟩ := bnd_some hF
    obtain ⟨g,rfl,qa_2,qr⟩ := row_atm hc m0 (tabR_getI he_3)
    refine stP hf rfl rfl rfl (pIA Try.underlying195 sz_61 rfl rfl (At.len qa_2 (by simp only [tabR_len,List.length_set]))) fun a hf => stE hf hc rfl rfl rfl (eLd1 sc_61 rfl (cell_row (sz := 1) (i := i_1.toNat) (j := 0) m0 qr rfl)) fun a w hf hc => stP hf rfl rfl rfl (pM rfl) fun a hf => stBS (rows := ([best] : List Int).map encI_i64) (vs := [(0,.int .i64 best)]) hf hc rfl rfl sl_61 rfl ⟨rfl,rfl,rfl,trivial⟩ rfl rfl fun b_4 a w hf hc => ?_
    replace hc := tab_hole [.row (some ⟨b_4,0,none⟩) 1 (([best] : List Int).map encI_i64) 3 1,.row (some ⟨g,0,none⟩) tcq_2.1 ((tabR tcq_2.2 out_1).map TR.val) 61 1] hc he_3
    replace hc : Ctx G (.row ((tcq_2.2 i_1.toNat).1) ((tcq_2.2 i_1.toNat).2) (e_3.map encI_i64) 3 1::.row (some ⟨b_4,0,none⟩) 1 (([best] : List Int).map encI_i64) 3 1::.row (some ⟨g,0,none⟩) tcq_2.1 ((tabR tcq_2.2 out_1).map TR.val) 61 1::(tabL encI_i64 3 1 ((tabR tcq_2.2 out_1).eraseIdx i_1.toNat) Lf)) w := hc
    obtain ⟨un_1,hun_1,hF⟩ := bnd_some hF
    refine stApm (xs := e_3) (ys := ([best] : List Int)) hf hc rfl rfl sl_61 rfl rfl rfl rfl rfl one_encI_i64 (src_row hc m1) (fun _ _ => u0) (by simpa using room_spec hun_1) fun p_4 c_1 a w hf hc => ?_
    obtain ⟨e_4,he_4,hF⟩ := bnd_some hF
    obtain ⟨qa_3,qr_1⟩ := row_atk hc m2 (tabR_getI he_4)
    refine stP hf rfl rfl rfl (pIA Try.underlying195 sz_61 rfl rfl (At.len qa_3 (by simp only [tabR_len,List.length_set]))) fun a hf => stRw (vs := [.slice p_4 ((e_3 ++ [best]).length) c_1]) (o' := 0) (z := (⟨p_4,c_1,(e_3 ++ [best])⟩ : TR _)) (xs := tabR tcq_2.2 out_1) hf hc rfl rfl rfl rfl sz_61 rfl (fun x => (one_TR x).1) (getI_lt (tabR_getI he_4)) (fun _ _ => rfl) rfl u2 fun w hc => ?_
    obtain ⟨hsq_1,hc⟩ := tab_store [.row (some ⟨b_4,0,none⟩) 1 (([best] : List Int).map encI_i64) 3 1] he_4 ((hc.pick k2).pick k1)
    replace hc : Ctx G (.row (some ⟨g,0,none⟩) tcq_2.1 ((tabR hsq_1 (out_1.set i_1.toNat (e_3 ++ [best]))).map TR.val) 61 1::.row (some ⟨b_4,0,none⟩) 1 (([best] : List Int).map encI_i64) 3 1::(tabL encI_i64 3 1 (tabR hsq_1 (out_1.set i_1.toNat (e_3 ++ [best]))) Lf)) w := hc
    refine cNil ?_
    refine h15 _ _ ?_
    refine cReg ?_
    refine stP hf rfl rfl rfl (pM rfl) fun a hf => stP hf rfl rfl rfl (pAdd rfl rfl) fun a hf => stP hf rfl rfl rfl (pA rfl) fun a hf => cNil ?_
    rw [(by simp : out_1.length = (out_1.set i_1.toNat (e_3 ++ [best])).length)] at hf
    replace hc := hc.drop k1
    exact hK12 ((out_1.set i_1.toNat (e_3 ++ [best])),W (s_1 + 1)) _ _ (Option.some.inj hF).symm ⟨(some ⟨g,0,none⟩),(tcq_2.1,hsq_1),hf.keep ⟨rfl,rfl,rfl,rfl,trivial⟩,hc⟩
   refine wp_seq_k fun K18 h18 => cReg ?_
   refine stP hf rfl rfl rfl (pM rfl) fun a hf => stP hf rfl rfl rfl (pM rfl) fun a hf => stP hf rfl rfl rfl (pLenS Try.underlying44 rfl) fun a hf => stP hf rfl rfl rfl (pSub rfl rfl) fun a hf => stP hf rfl rfl rfl (pLt rfl rfl) fun a hf => cNil ?_
   refine h18 _ _ ?_
   refine cCond (b := (decide (i_1 < (W (((l.length : Nat) : Int) - 1))))) hf rfl (fun hb => ?_) (fun hb => ?_)
   ·replace hF := condT hb hF
    clear hb
    refine wp_seq_k fun K19 h19 => cReg ?_
    refine stP hf rfl rfl rfl (pA rfl) fun a hf => cNil ?_
    refine h19 _ _ ?_
    refine wp_seq_k fun K20 h20 => cReg ?_
    refine stP hf rfl rfl rfl (pM rfl) fun a hf => stP hf rfl rfl rfl (pM rfl) fun a hf => stP hf rfl rfl rfl (pAdd rfl rfl) fun a hf => ?_
    obtain ⟨e_5,he_5,hF⟩ := bnd_some hF
    obtain ⟨b_5,o_2,qa_4,qp_2⟩ := h_l.atm he_5
    refine stP hf rfl rfl rfl (pIA Try.underlying44 sz_50 rfl rfl qa_4) fun a hf => stP hf rfl rfl rfl (pFA fa_50_0 rfl) fun a hf => stE hf hc rfl rfl rfl (eLd1 sc_3 rfl (cell_pc (j := 0) qp_2 rfl)) fun a w hf hc => stP hf rfl rfl rfl (pA rfl) fun a hf => cNil ?_
    refine h20 _ _ ?_
    refine wp_block ?_
    obtain ⟨x21,hx21,hF⟩ := bnd_some hF
    let S21 : (Int × Int) → Act → World → Prop := (fun (zz : Int × Int) a w => ∃ (p_5 : Option Addr) (tcq_3 : TabH),Has 85 a [(0,.slice l_p l.length l_c),(3,.slice p_5 out_1.length tcq_3.1),(4,.int .i64 i_1),(5,.int .i64 s_1),(6,.int .i64 zz.1),(7,.int .i64 zz.2)] ∧ Ctx G (.row p_5 tcq_3.1 ((tabR tcq_3.2 out_1).map TR.val) 61 1::(tabL encI_i64 3 1 (tabR tcq_3.2 out_1) Lf)) w)
    have hr21 : ∀ (zz : Int × Int) a w,x21 = .go zz → S21 zz a w → K17 a w := by
     rintro ⟨best_1,t_1⟩ a w rfl ⟨p_5,tcq_3,hf,hc⟩
     replace hF := exK_go hF
     exact hj17 best_1 p_5 tcq_3 _ _  (hf.keep ⟨rfl,rfl,rfl,rfl,rfl,trivial⟩) hc hF
    have ho21 : ∀ r,x21 = .out r → r = st12 := by
     rintro r rfl
     exact Option.some.inj hF
    refine cLoop N (loopW (S := S21) (x := x21) ?_ N (1000000000,e_5.Lo) _ _ ⟨p_2,tcq_1,hf.keep ⟨rfl,rfl,rfl,rfl,rfl,rfl,trivial⟩,hc⟩ hx21)
    clear hF hf hc
    rintro ⟨best_1,t_1⟩ st21 a w KB21 ⟨p_5,tcq_3,hf,hc⟩ hF hfin21 hK21
    unfold ref05_rest_b21 at hF
    refine wp_seq_k fun K22 h22 => wp_seq_k fun K23 h23 => cReg ?_
    refine stP hf rfl rfl rfl (pM rfl) fun a hf => stP hf rfl rfl rfl (pM rfl) fun a hf => stP hf rfl rfl rfl (pM rfl) fun a hf => stP hf rfl rfl rfl (pAdd rfl rfl) fun a hf => ?_
    obtain ⟨e_6,he_6,hF⟩ := bnd_some hF
    obtain ⟨b_6,o_3,qa_5,qp_3⟩ := h_l.atm he_6
    refine stP hf rfl rfl rfl (pIA Try.underlying44 sz_50 rfl rfl qa_5) fun a hf => stP hf rfl rfl rfl (pFA fa_50_1 rfl) fun a hf => stE hf hc rfl rfl rfl (eLd1 sc_3 rfl (cell_pc (j := 1) qp_3 rfl)) fun a w hf hc => stP hf rfl rfl rfl (pLe rfl rfl) fun a hf => cNil ?_
    refine h23 _ _ ?_
    refine cCond (b := (decide (t_1 ≤ e_6.Hi))) hf rfl (fun hb => ?_) (fun hb => ?_)
    ·replace hF := condT hb hF
     clear hb
     refine wp_skip ?_
     refine h22 _ _ ?_
     refine wp_seq_k fun K24 h24 => wp_block ?_
     obtain ⟨e_7,he_7,hF⟩ := bnd_some hF
     obtain ⟨g_1,rfl,qa_6,qr_2⟩ := row_atm hc m0 (tabR_getI he_7)
     obtain ⟨e_8,he_8,hF⟩ := bnd_some hF
     obtain ⟨b_7,o_4,qa_7,qp_4⟩ := h_l.atm he_8
     obtain ⟨e_9,he_9,hF⟩ := bnd_some hF
     obtain ⟨g_2,qa_8,qr_3,qm⟩ := tr_at [.row (some ⟨g_1,0,none⟩) tcq_3.1 ((tabR tcq_3.2 out_1).map TR.val) 61 1] hc he_7 he_9
     refine cQ hc follows_mx (by kernel_rfl) ?_
     refine qE hf rfl rfl rfl (Pu.ev (pM rfl)) fun a hf => qE hf rfl rfl rfl (Pu.ev (pM rfl)) fun a hf => qE hf rfl rfl rfl (Pu.ev (pM rfl)) fun a hf => qE hf rfl rfl rfl (eC (v := .int .i64 (ref05_apart s_1 t_1)) (vs := [.int .i64 s_1,.int .i64 t_1]) (caps := []) en_138 rfl rfl rfl rfl (fun w hc => ref05_apart_ok s_1 t_1 hc rfl)) fun a hf => qE hf rfl rfl rfl (Pu.ev (pM rfl)) fun a hf => qE hf rfl rfl rfl (Pu.ev (pM rfl)) fun a hf => qE hf rfl rfl rfl (Pu.ev (pAdd rfl rfl)) fun a hf => qE hf rfl rfl rfl (Pu.ev (pIA Try.underlying195 sz_61 rfl rfl (At.len qa_6 (by simp only [tabR_len,List.length_set])))) fun a hf => qE hf rfl rfl rfl (eLd1 sc_61 rfl (cell_row (sz := 1) (i := (W (i_1 + 1)).toNat) (j := 0) m0 qr_2 rfl)) fun a hf => qE hf rfl rfl rfl (Pu.ev (pM rfl)) fun a hf => qE hf rfl rfl rfl (Pu.ev (pM rfl)) fun a hf => qE hf rfl rfl rfl (Pu.ev (pM rfl)) fun a hf => qE hf rfl rfl rfl (Pu.ev (pAdd rfl rfl)) fun a hf => ?_
     refine qE hf rfl rfl rfl (Pu.ev (pIA Try.underlying44 sz_50 rfl rfl qa_7)) fun a hf => qE hf rfl rfl rfl (Pu.ev (pFA fa_50_0 rfl)) fun a hf => qE hf rfl rfl rfl (eLd1 sc_3 rfl (cell_pc (j := 0) qp_4 rfl)) fun a hf => qE hf rfl rfl rfl (Pu.ev (pSub rfl rfl)) fun a hf => qE hf rfl rfl rfl (Pu.ev (pIA Try.underlying61 sz_3 rfl rfl qa_8)) fun a hf => qE hf rfl rfl rfl (eLd1 sc_3 rfl (cell_row (sz := 1) (i := (W (t_1 - e_8.Lo)).toNat) (j := 0) (List.mem_append_right [.row (some ⟨g_1,0,none⟩) tcq_3.1 ((tabR tcq_3.2 out_1).map TR.val) 61 1] qm) qr_3 rfl)) fun a hf => qE hf rfl rfl rfl (Pu.ev (pAdd rfl rfl)) fun a hf => qE hf rfl rfl rfl (Pu.ev (pMin2 rfl rfl)) fun a hf => qE hf rfl rfl rfl (Pu.ev (pA rfl)) fun a hf => ?_
     intro w hc
     refine h24 _ _ ?_
     refine cReg ?_
     refine stP hf rfl rfl rfl (pM rfl) fun a hf => stP hf rfl rfl rfl (pAdd rfl rfl) fun a hf => stP hf rfl rfl rfl (pA rfl) fun a hf => cNil ?_
     exact hK21 (min best_1 (W ((ref05_apart s_1 t_1) + e_9)),W (t_1 + 1)) _ _ (Option.some.inj hF).symm ⟨(some ⟨g_1,0,none⟩),tcq_3,hf.keep ⟨rfl,rfl,rfl,rfl,rfl,rfl,trivial⟩,hc⟩
    ·replace hF := condF hb hF
     clear hb
     refine wp_exit ?_
     refine xThen ?_
     refine xThen ?_
     have he := Option.some.inj hF
     rw [← he] at hfin21
     refine cHit ?_
     exact hr21 _ _ _ hfin21 ⟨p_5,tcq_3,hf.keep ⟨rfl,rfl,rfl,rfl,rfl,rfl,trivial⟩,hc⟩
   ·replace hF := condF hb hF
    clear hb
    refine wp_skip ?_
    exact hj17 0 p_2 tcq_1 _ _  (hf.keep ⟨rfl,rfl,rfl,rfl,rfl,trivial⟩) hc hF
  ·replace hF := condF hb hF
   clear hb
   refine wp_exit ?_
   refine xThen ?_
   refine xThen ?_
   have he := Option.some.inj hF
   rw [← he] at hfin12
   refine cHit ?_
   exact hr12 _ _ _ hfin12 ⟨p_2,tcq_1,hf.keep ⟨rfl,rfl,rfl,rfl,trivial⟩,hc⟩
 ·replace hF := condF hb hF
  clear hb
  refine wp_exit ?_
  refine xThen ?_
  refine xThen ?_
  have he := Option.some.inj hF
  rw [← he] at hfin5
  refine cHit ?_
  exact hr5 _ _ _ hfin5 ⟨p_1,tcq,hf.keep ⟨rfl,rfl,rfl,trivial⟩,hc⟩

def ref05_can_j25 (N : Nat) (k : Int) (met_1 : List Int) : Option (Step ((List Int) × Int) (Step ((List api_Span) × Int) ((List api_Span) × Int))) :=
 some (.cont (met_1,W (k + 1)))
def ref05_can_b19 (N : Nat) (l : List api_Span) (most : Int) (r : (List (List Int))) (r_1 : (List (List Int))) (i_2 : Int) (met : List Int) (k : Int) : Option (Step ((List Int) × Int) (Step ((List api_Span) × Int) ((List api_Span) × Int))) :=
 Option.bind (getI l i_2) fun e_3 =>
 Option.bind (getI l i_2) fun e_4 =>
 cond (decide (k ≤ (W (e_3.Hi - e_4.Lo))))
 (Option.bind (getI r i_2) fun e_5 =>
 Option.bind (getI e_5 k) fun e_6 =>
 Option.bind (getI r_1 (W ((W (((l.length : Nat) : Int) - 1)) - i_2))) fun e_7 =>
 Option.bind (getI e_7 k) fun e_8 =>
 cond (decide ((W (e_6 + e_8)) ≤ most))
 (Option.bind (getI l i_2) fun e_9 =>
 Option.bind (room ((met ++ [W (e_9.Lo + k)])).length) fun un_1 =>
 ref05_can_j25 N k (met ++ [W (e_9.Lo + k)]))
 (ref05_can_j25 N k met))
 (some (.brk (met,k)))
def ref05_can_b11 (N : Nat) (l : List api_Span) (most : Int) (r : (List (List Int))) (r_1 : (List (List Int))) (out : List api_Span) (i_2 : Int) : Option (Step ((List api_Span) × Int) ((List api_Span) × Int)) :=
 cond (decide (i_2 < ((l.length : Nat) : Int)))
 (Option.bind (loopO (fun s19 => ref05_can_b19 N l most r r_1 i_2 s19.1 s19.2) N (([] : List Int),0)) fun x19 =>
 exK x19 (fun s19 => cond (((s19.1.length : Nat) : Int) == 0)
 (some (.ret (([] : List api_Span),5)))
 (Option.bind (getI s19.1 0) fun e_1 =>
 Option.bind (getI s19.1 (W (((s19.1.length : Nat) : Int) - 1))) fun e_2 =>
 Option.bind (room ((out ++ [(⟨e_1,e_2⟩ : api_Span)])).length) fun un =>
 some (.cont ((out ++ [(⟨e_1,e_2⟩ : api_Span)]),W (i_2 + 1))))) some)
 (some (.brk (out,i_2)))
def ref05_can_b6 (N : Nat) (l : List api_Span) (back : List api_Span) (i_1 : Int) : Option (Step ((List api_Span) × Int) ((List api_Span) × Int)) :=
 cond (decide (0 ≤ i_1))
 (Option.bind (getI l i_1) fun e_10 =>
 Option.bind (room ((back ++ [e_10])).length) fun un_2 =>
 some (.cont ((back ++ [e_10]),W (i_1 - 1))))
 (some (.brk (back,i_1)))
def ref05_can (N : Nat) (l : List api_Span) (most : Int) : Option ((List api_Span) × Int) :=
 Option.bind (ref05_rest N l) fun r =>
 Option.bind (loopO (fun s6 => ref05_can_b6 N l s6.1 s6.2) N (([] : List api_Span),W (((l.length : Nat) : Int) - 1))) fun x6 =>
 exK x6 (fun s6 => Option.bind (ref05_rest N s6.1) fun r_1 =>
 Option.bind (loopO (fun s11 => ref05_can_b11 N l most r r_1 s11.1 s11.2) N (([] : List api_Span),0)) fun x11 =>
 exK x11 (fun s11 => some (s11.1,0)) some) some
theorem ref05_can_ok {N : Nat} {G : Pers} {Lf : List Ent} {w : World} (l : List api_Span) (most : Int) {l_p : Option Addr} {l_c : Nat} (h_l : Rd G 2 l_p l_c (l.map enc_api_Span)) (hc : Ctx G (Lf) w) {res : (List api_Span) × Int} (hF : ref05_can N l most = some res) : Calls Try.prog 77 #[.slice l_p l.length l_c,.int .i64 most] w (fun e w => ∃ (p'1 : Option Addr) (c'1 : Nat),e = .returned (.tuple #[.slice p'1 res.1.length c'1,.int .i64 res.2]) ∧ Ctx G (.row p'1 c'1 (res.1.map enc_api_Span) 50 2::Lf) w) := by
 unfold ref05_can at hF
 refine fnIn (args := [.slice l_p l.length l_c,.int .i64 most]) Try.func77 rfl Try.ntmps77 rfl fun a hf => wp_seq_k fun K1 h1 => cReg ?_
 refine stP hf rfl rfl rfl (pA rfl) fun a hf => stP hf rfl rfl rfl (pA rfl) fun a hf => cNil ?_
 refine h1 _ _ ?_
 refine wp_seq_k fun K2 h2 => cReg ?_
 refine stP hf rfl rfl rfl (pM rfl) fun a hf => ?_
 obtain ⟨r,hr,hF⟩ := bnd_some hF
 refine stC (vs := [.slice l_p l.length l_c]) (caps := []) hf rfl rfl rfl en_109 rfl rfl rfl rfl (ref05_rest_ok l h_l hc hr) ?_
 rintro _ w ⟨p_1,tcq,rfl,hc⟩
 refine ⟨_,rfl,fun a hf => ?_⟩
 replace hc := tab_float [.row p_1 tcq.1 ((tabR tcq.2 r).map TR.val) 61 1] [] hc
 replace hc : Ctx G (.row p_1 tcq.1 ((tabR tcq.2 r).map TR.val) 61 1::(tabL encI_i64 3 1 (tabR tcq.2 r) Lf)) w := hc
 refine stP hf rfl rfl rfl (pA rfl) fun a hf => cNil ?_
 refine h2 _ _ ?_
 refine wp_seq_k fun K3 h3 => cReg ?_
 refine stP hf rfl rfl rfl (pA rfl) fun a hf => cNil ?_
 refine h3 _ _ ?_
 refine wp_seq_k fun K4 h4 => wp_seq_k fun K5 h5 => cReg ?_
 refine stP hf rfl rfl rfl (pM rfl) fun a hf => stP hf rfl rfl rfl (pLenS Try.underlying44 rfl) fun a hf => stP hf rfl rfl rfl (pSub rfl rfl) fun a hf => stP hf rfl rfl rfl (pA rfl) fun a hf => cNil ?_
 refine h5 _ _ ?_
 refine wp_block ?_
 obtain ⟨x6,hx6,hF⟩ := bnd_some hF
 let S6 : ((List api_Span) × Int) → Act → World → Prop := (fun (zz : (List api_Span) × Int) a w => ∃ (p_2 : Option Addr) (c_1 : Nat),Has 101 a [(0,.slice l_p l.length l_c),(1,.int .i64 most),(6,.slice p_1 r.length tcq.1),(7,.slice p_2 zz.1.length c_1),(8,.int .i64 zz.2)] ∧ Ctx G (.row p_2 c_1 (zz.1.map enc_api_Span) 50 2::.row p_1 tcq.1 ((tabR tcq.2 r).map TR.val) 61 1::(tabL encI_i64 3 1 (tabR tcq.2 r) Lf)) w)
 have hr6 : ∀ (zz : (List api_Span) × Int) a w,x6 = .go zz → S6 zz a w → K4 a w := by
  rintro ⟨back,i_1⟩ a w rfl ⟨p_2,c_1,hf,hc⟩
  replace hF := exK_go hF
  refine h4 _ _ ?_
  refine wp_seq_k fun K7 h7 => cReg ?_
  refine stP hf rfl rfl rfl (pM rfl) fun a hf => ?_
  obtain ⟨r_1,hr_1,hF⟩ := bnd_some hF
  obtain ⟨G1,hle1,hrd1,hc,hth1⟩ := lend hc k0
  refine stC (vs := [.slice p_2 back.length c_1]) (caps := []) hf rfl rfl rfl en_109 rfl rfl rfl rfl (ref05_rest_ok back hrd1 hc hr_1) ?_
  rintro _ w ⟨p_3,tcq_1,rfl,hc⟩
  refine ⟨_,rfl,fun a hf => ?_⟩
  replace hc := tab_float [.row p_3 tcq_1.1 ((tabR tcq_1.2 r_1).map TR.val) 61 1] [.row p_1 tcq.1 ((tabR tcq.2 r).map TR.val) 61 1] hc
  replace hc := hth1 _ _ hc
  replace hc : Ctx G (.row p_2 c_1 (back.map enc_api_Span) 50 2::.row p_3 tcq_1.1 ((tabR tcq_1.2 r_1).map TR.val) 61 1::.row p_1 tcq.1 ((tabR tcq.2 r).map TR.val) 61 1::(tabL encI_i64 3 1 (tabR tcq_1.2 r_1) (tabL encI_i64 3 1 (tabR tcq.2 r) Lf))) w := hc
  refine stP hf rfl rfl rfl (pA rfl) fun a hf => cNil ?_
  refine h7 _ _ ?_
  refine wp_seq_k fun K8 h8 => cReg ?_
  refine stP hf rfl rfl rfl (pA rfl) fun a hf => cNil ?_
  refine h8 _ _ ?_
  refine wp_seq_k fun K9 h9 => wp_seq_k fun K10 h10 => cReg ?_
  refine stP hf rfl rfl rfl (pA rfl) fun a hf => cNil ?_
  refine h10 _ _ ?_
  refine wp_block ?_
  obtain ⟨x11,hx11,hF⟩ := bnd_some hF
  let S11 : ((List api_Span) × Int) → Act → World → Prop := (fun (zz : (List api_Span) × Int) a w => ∃ (p_4 : Option Addr) (tcq_2 : TabH) (p_5 : Option Addr) (tcq_3 : TabH) (p_6 : Option Addr) (c_2 : Nat),Has 101 a [(0,.slice l_p l.length l_c),(1,.int .i64 most),(6,.slice p_4 r.length tcq_2.1),(9,.slice p_5 r_1.length tcq_3.1),(10,.slice p_6 zz.1.length c_2),(11,.int .i64 zz.2)] ∧ Ctx G (.row p_6 c_2 (zz.1.map enc_api_Span) 50 2::.row p_5 tcq_3.1 ((tabR tcq_3.2 r_1).map TR.val) 61 1::.row p_4 tcq_2.1 ((tabR tcq_2.2 r).map TR.val) 61 1::(tabL encI_i64 3 1 (tabR tcq_3.2 r_1) (tabL encI_i64 3 1 (tabR tcq_2.2 r) Lf))) w)
  have hr11 : ∀ (zz : (List api_Span) × Int) a w,x11 = .go zz → S11 zz a w → K9 a w := by
   rintro ⟨out,i_2⟩ a w rfl ⟨p_4,tcq_2,p_5,tcq_3,p_6,c_2,hf,hc⟩
   replace hF := exK_go hF
   refine h9 _ _ ?_
   refine wp_seq_k fun K12 h12 => cReg ?_
   refine stP hf rfl rfl rfl (pM rfl) fun a hf => stP hf rfl rfl rfl (pA rfl) fun a hf => stP hf rfl rfl rfl (pA rfl) fun a hf => cNil ?_
   refine h12 _ _ ?_
   refine wp_ret ?_
   obtain rfl := Option.some.inj hF
   replace hc := tab_drop2 [.row p_6 c_2 (out.map enc_api_Span) 50 2,.row p_5 tcq_3.1 ((tabR tcq_3.2 r_1).map TR.val) 61 1,.row p_4 tcq_2.1 ((tabR tcq_2.2 r).map TR.val) 61 1] hc
   replace hc := hc.drop k2
   replace hc : Ctx G (.row p_6 c_2 (out.map enc_api_Span) 50 2::.row p_5 tcq_3.1 ((tabR tcq_3.2 r_1).map TR.val) 61 1::(tabL encI_i64 3 1 (tabR tcq_3.2 r_1) Lf)) w := hc
   replace hc := tab_drop [.row p_6 c_2 (out.map enc_api_Span) 50 2,.row p_5 tcq_3.1 ((tabR tcq_3.2 r_1).map TR.val) 61 1] hc
   replace hc := hc.drop k1
   replace hc : Ctx G (.row p_6 c_2 (out.map enc_api_Span) 50 2::Lf) w := hc
   exact fnOut2 (by simp) rfl Try.results77 hf hc (show look _ 4 = _ from rfl) (show look _ 5 = _ from rfl) ⟨p_6,c_2,rfl,hc⟩
  have ho11 : ∀ r,x11 = .out r → r = res := by
   rintro r rfl
   exact Option.some.inj hF
  replace hc := hc.nilRow 50 2
  replace hc := hc.drop k1
  refine cLoop N (loopW (S := S11) (x := x11) ?_ N (([] : List api_Span),0) _ _ ⟨p_1,tcq,p_3,tcq_1,none,0,hf.keep ⟨rfl,rfl,rfl,rfl,rfl,rfl,trivial⟩,hc⟩ hx11)
  clear hF hf hc
  rintro ⟨out,i_2⟩ st11 a w KB11 ⟨p_4,tcq_2,p_5,tcq_3,p_6,c_2,hf,hc⟩ hF hfin11 hK11
  unfold ref05_can_b11 at hF
  refine wp_seq_k fun K13 h13 => wp_seq_k fun K14 h14 => cReg ?_
  refine stP hf rfl rfl rfl (pM rfl) fun a hf => stP hf rfl rfl rfl (pM rfl) fun a hf => stP hf rfl rfl rfl (pLenS Try.underlying44 rfl) fun a hf => stP hf rfl rfl rfl (pLt rfl rfl) fun a hf => cNil ?_
  refine h14 _ _ ?_
  refine cCond (b := (decide (i_2 < ((l.length : Nat) : Int)))) hf rfl (fun hb => ?_) (fun hb => ?_)
  ·replace hF := condT hb hF
   clear hb
   refine wp_skip ?_
   refine h13 _ _ ?_
   refine wp_seq_k fun K15 h15 => wp_block ?_
   refine wp_seq_k fun K16 h16 => cReg ?_
   refine stP hf rfl rfl rfl (pA rfl) fun a hf => cNil ?_
   refine h16 _ _ ?_
   refine wp_seq_k fun K17 h17 => wp_seq_k fun K18 h18 => cReg ?_
   refine stP hf rfl rfl rfl (pA rfl) fun a hf => cNil ?_
   refine h18 _ _ ?_
   refine wp_block ?_
   obtain ⟨x19,hx19,hF⟩ := bnd_some hF
   let S19 : ((List Int) × Int) → Act → World → Prop := (fun (zz : (List Int) × Int) a w => ∃ (p_7 : Option Addr) (tcq_4 : TabH) (p_8 : Option Addr) (tcq_5 : TabH) (p_9 : Option Addr) (c_3 : Nat),Has 101 a [(0,.slice l_p l.length l_c),(1,.int .i64 most),(6,.slice p_7 r.length tcq_4.1),(9,.slice p_8 r_1.length tcq_5.1),(10,.slice p_6 out.length c_2),(11,.int .i64 i_2),(12,.slice p_9 zz.1.length c_3),(13,.int .i64 zz.2)] ∧ Ctx G (.row p_9 c_3 (zz.1.map encI_i64) 3 1::.row p_6 c_2 (out.map enc_api_Span) 50 2::.row p_8 tcq_5.1 ((tabR tcq_5.2 r_1).map TR.val) 61 1::.row p_7 tcq_4.1 ((tabR tcq_4.2 r).map TR.val) 61 1::(tabL encI_i64 3 1 (tabR tcq_5.2 r_1) (tabL encI_i64 3 1 (tabR tcq_4.2 r) Lf))) w)
   have hr19 : ∀ (zz : (List Int) × Int) a w,x19 = .go zz → S19 zz a w → K17 a w := by
    rintro ⟨met,k⟩ a w rfl ⟨p_7,tcq_4,p_8,tcq_5,p_9,c_3,hf,hc⟩
    replace hF := exK_go hF
    refine h17 _ _ ?_
    refine wp_seq_k fun K20 h20 => wp_seq_k fun K21 h21 => cReg ?_
    refine stP hf rfl rfl rfl (pM rfl) fun a hf => stP hf rfl rfl rfl (pLenS Try.underlying61 rfl) fun a hf => stP hf rfl rfl rfl (pEq rfl rfl) fun a hf => cNil ?_
    refine h21 _ _ ?_
    refine cCond (b := (((met.length : Nat) : Int) == 0)) hf rfl (fun hb => ?_) (fun hb => ?_)
    ·replace hF := condT hb hF
     clear hb
     refine wp_seq_k fun K22 h22 => cReg ?_
     refine stP hf rfl rfl rfl (pA rfl) fun a hf => stP hf rfl rfl rfl (pA rfl) fun a hf => cNil ?_
     refine h22 _ _ ?_
     refine wp_ret ?_
     refine xThenR ?_
     refine xBlkR ?_
     refine xThenR ?_
     refine xThenR ?_
     have he := Option.some.inj hF
     rw [← he] at hfin11
     replace hF := ho11 _ hfin11
     refine xBlkR ?_
     refine xThenR ?_
     obtain rfl := hF
     replace hc := hc.nilRow 50 2
     replace hc := tab_drop2 [.row none 0 [] 50 2,.row p_9 c_3 (met.map encI_i64) 3 1,.row p_6 c_2 (out.map enc_api_Span) 50 2,.row p_8 tcq_5.1 ((tabR tcq_5.2 r_1).map TR.val) 61 1,.row p_7 tcq_4.1 ((tabR tcq_4.2 r).map TR.val) 61 1] hc
     replace hc := hc.drop k4
     replace hc : Ctx G (.row none 0 [] 50 2::.row p_9 c_3 (met.map encI_i64) 3 1::.row p_6 c_2 (out.map enc_api_Span) 50 2::.row p_8 tcq_5.1 ((tabR tcq_5.2 r_1).map TR.val) 61 1::(tabL encI_i64 3 1 (tabR tcq_5.2 r_1) Lf)) w := hc
     replace hc := tab_drop [.row none 0 [] 50 2,.row p_9 c_3 (met.map encI_i64) 3 1,.row p_6 c_2 (out.map enc_api_Span) 50 2,.row p_8 tcq_5.1 ((tabR tcq_5.2 r_1).map TR.val) 61 1] hc
     replace hc := hc.drop k3
     replace hc : Ctx G (.row none 0 [] 50 2::.row p_9 c_3 (met.map encI_i64) 3 1::.row p_6 c_2 (out.map enc_api_Span) 50 2::Lf) w := hc
     replace hc := hc.drop k2
     replace hc := hc.drop k1
     exact fnOut2 (by simp) rfl Try.results77 hf hc (show look _ 4 = _ from rfl) (show look _ 5 = _ from rfl) ⟨none,0,rfl,hc⟩
    ·replace hF := condF hb hF
     clear hb
     refine wp_skip ?_
     refine h20 _ _ ?_
     obtain ⟨e_1,he_1,hF⟩ := bnd_some hF
     obtain ⟨g,rfl,qa,qr⟩ := row_atm hc m0 he_1
     obtain ⟨e_2,he_2,hF⟩ := bnd_some hF
     obtain ⟨qa_1,qr_1⟩ := row_atk hc m0 he_2
     obtain ⟨un,hun,hF⟩ := bnd_some hF
     replace hc := hc.nilRow 0 0
     refine regionE (fun θ => [⟨none,none,0,.slice l_p l.length l_c⟩,⟨none,none,1,.int .i64 most⟩,⟨none,none,6,.slice p_7 r.length tcq_4.1⟩,⟨none,none,9,.slice p_8 r_1.length tcq_5.1⟩,⟨none,some 13,10,.slice p_6 out.length c_2⟩,⟨none,none,11,.int .i64 i_2⟩,⟨none,none,12,.slice (some ⟨g,0,none⟩) met.length c_3⟩,⟨some 0,none,87,.slice p_6 out.length c_2⟩,⟨some 1,none,88,.slice (some ⟨g,0,none⟩) met.length c_3⟩,⟨some 2,none,89,.pointer (some ⟨g,(0 : Int).toNat * 1,none⟩)⟩,⟨some 3,none,90,.int .i64 e_1⟩,⟨some 4,none,91,.slice (some ⟨g,0,none⟩) met.length c_3⟩,⟨some 5,none,92,.slice (some ⟨g,0,none⟩) met.length c_3⟩,⟨some 6,none,93,.int .i64 ((met.length : Nat) : Int)⟩,⟨some 7,none,94,.int .i64 (W (((met.length : Nat) : Int) - 1))⟩,⟨some 8,none,95,.pointer (some ⟨g,(W (((met.length : Nat) : Int) - 1)).toNat * 1,none⟩)⟩,⟨some 9,none,96,.int .i64 e_2⟩,⟨some 10,none,97,.agg #[.int .i64 e_1,.int .i64 e_2]⟩,⟨some 11,none,98,.slice (some ⟨(θ 88).b,0,none⟩) 1 1⟩,⟨some 12,none,99,.slice ((θ 96).p) ((out ++ [(⟨e_1,e_2⟩ : api_Span)]).length) ((θ 96).c)⟩,⟨some 13,none,10,.slice ((θ 96).p) ((out ++ [(⟨e_1,e_2⟩ : api_Span)]).length) ((θ 96).c)⟩]) (fun E θ => (bif E 11 then .row (some ⟨(θ 88).b,0,none⟩) 1 (([(⟨e_1,e_2⟩ : api_Span)] : List api_Span).map enc_api_Span) 50 2 else .row none 0 [] 0 0)::.row (some ⟨g,0,none⟩) c_3 (met.map encI_i64) 3 1::(bif E 12 then .row ((θ 96).p) ((θ 96).c) ((out ++ [(⟨e_1,e_2⟩ : api_Span)]).map enc_api_Span) 50 2 else .row p_6 c_2 (out.map enc_api_Span) 50 2)::.row p_8 tcq_5.1 ((tabR tcq_5.2 r_1).map TR.val) 61 1::.row p_7 tcq_4.1 ((tabR tcq_4.2 r).map TR.val) 61 1::(tabL encI_i64 3 1 (tabR tcq_5.2 r_1) (tabL encI_i64 3 1 (tabR tcq_4.2 r) Lf))) [(13,0),(13,12)] (fun a w => ∃ (p_11 : Option Addr) (c_5 : Nat) (b_2 : Nat),Has 101 a [(0,.slice l_p l.length l_c),(1,.int .i64 most),(6,.slice p_7 r.length tcq_4.1),(9,.slice p_8 r_1.length tcq_5.1),(11,.int .i64 i_2),(10,.slice p_11 ((out ++ [(⟨e_1,e_2⟩ : api_Span)]).length) c_5)] ∧ Ctx G (.row (some ⟨b_2,0,none⟩) 1 (([(⟨e_1,e_2⟩ : api_Span)] : List api_Span).map enc_api_Span) 50 2::.row (some ⟨g,0,none⟩) c_3 (met.map encI_i64) 3 1::.row p_11 c_5 ((out ++ [(⟨e_1,e_2⟩ : api_Span)]).map enc_api_Span) 50 2::.row p_8 tcq_5.1 ((tabR tcq_5.2 r_1).map TR.val) 61 1::.row p_7 tcq_4.1 ((tabR tcq_4.2 r).map TR.val) 61 1::(tabL encI_i64 3 1 (tabR tcq_5.2 r_1) (tabL encI_i64 3 1 (tabR tcq_4.2 r) Lf))) w) follows_mx (by kernel_rfl) (by kernel_rfl) (HasE.of hf ⟨rfl,rfl,rfl,rfl,rfl,rfl,rfl,trivial,trivial,trivial,trivial,trivial,trivial,trivial,trivial,trivial,trivial,trivial,trivial,trivial,trivial,trivial⟩) hc ⟨?_,?_,?_,?_,?_,?_,?_,?_,?_,?_,?_,?_,?_,?_,trivial⟩ ?_ ?_
     ·intro E θ a w hD hi hp he hc
      have e13 := hD.f 0 rfl hi
      have hf := he.h0
      replace hf := hf.more he 4 rfl (onN e13)
      refine stP hf rfl rfl rfl (pM rfl) fun a hf => cNil ?_
      refine xThenN ?_
      intro ds u hau
      refine ⟨θ,he.put0 hi hau hf rfl 7 rfl rfl,?_⟩
      exact hc
     ·intro E θ a w hD hi hp he hc
      have hf := he.h0
      replace hf := hf.more he 6 rfl onT
      refine stP hf rfl rfl rfl (pM rfl) fun a hf => cNil ?_
      refine xThenN ?_
      intro ds u hau
      refine ⟨θ,he.put0 hi hau hf rfl 8 rfl rfl,?_⟩
      exact hc
     ·intro E θ a w hD hi hp he hc
      have e1 := hp.of (k := 1) rfl
      have hf := he.h0
      replace hf := hf.more he 8 rfl (onP e1)
      refine stP hf rfl rfl rfl (pIA Try.underlying61 sz_3 rfl rfl qa) fun a hf => cNil ?_
      refine xThenN ?_
      intro ds u hau
      refine ⟨θ,he.put0 hi hau hf rfl 9 rfl rfl,?_⟩
      exact hc
     ·intro E θ a w hD hi hp he hc
      have e2 := hp.of (k := 2) rfl
      have hf := he.h0
      replace hf := hf.more he 9 rfl (onP e2)
      refine stE hf hc rfl rfl rfl (eLd1 sc_3 rfl (cell_row (sz := 1) (i := (0 : Int).toNat) (j := 0) m1 qr rfl)) fun a w hf hc => cNil ?_
      refine xThenN ?_
      intro ds u hau
      refine ⟨θ,he.put0 hi hau hf rfl 10 rfl rfl,?_⟩
      exact hc
     ·intro E θ a w hD hi hp he hc
      have hf := he.h0
      replace hf := hf.more he 6 rfl onT
      refine stP hf rfl rfl rfl (pM rfl) fun a hf => cNil ?_
      refine xThenN ?_
      intro ds u hau
      refine ⟨θ,he.put0 hi hau hf rfl 11 rfl rfl,?_⟩
      exact hc
     ·intro E θ a w hD hi hp he hc
      have hf := he.h0
      replace hf := hf.more he 6 rfl onT
      refine stP hf rfl rfl rfl (pM rfl) fun a hf => cNil ?_
      refine xThenN ?_
      intro ds u hau
      refine ⟨θ,he.put0 hi hau hf rfl 12 rfl rfl,?_⟩
      exact hc
     ·intro E θ a w hD hi hp he hc
      have e5 := hp.of (k := 5) rfl
      have hf := he.h0
      replace hf := hf.more he 12 rfl (onP e5)
      refine stP hf rfl rfl rfl (pLenS Try.underlying61 rfl) fun a hf => cNil ?_
      refine xThenN ?_
      intro ds u hau
      refine ⟨θ,he.put0 hi hau hf rfl 13 rfl rfl,?_⟩
      exact hc
     ·intro E θ a w hD hi hp he hc
      have e6 := hp.of (k := 6) rfl
      have hf := he.h0
      replace hf := hf.more he 13 rfl (onP e6)
      refine stP hf rfl rfl rfl (pSub rfl rfl) fun a hf => cNil ?_
      refine xThenN ?_
      intro ds u hau
      refine ⟨θ,he.put0 hi hau hf rfl 14 rfl rfl,?_⟩
      exact hc
     ·intro E θ a w hD hi hp he hc
      have e4 := hp.of (k := 4) rfl
      have e7 := hp.of (k := 7) rfl
      have hf := he.h0
      replace hf := hf.more he 11 rfl (onP e4)
      replace hf := hf.more he 14 rfl (onP e7)
      refine stP hf rfl rfl rfl (pIA Try.underlying61 sz_3 rfl rfl qa_1) fun a hf => cNil ?_
      refine xThenN ?_
      intro ds u hau
      refine ⟨θ,he.put0 hi hau hf rfl 15 rfl rfl,?_⟩
      exact hc
     ·intro E θ a w hD hi hp he hc
      have e8 := hp.of (k := 8) rfl
      have hf := he.h0
      replace hf := hf.more he 15 rfl (onP e8)
      refine stE hf hc rfl rfl rfl (eLd1 sc_3 rfl (cell_row (sz := 1) (i := (W (((met.length : Nat) : Int) - 1)).toNat) (j := 0) m1 qr_1 rfl)) fun a w hf hc => cNil ?_
      refine xThenN ?_
      intro ds u hau
      refine ⟨θ,he.put0 hi hau hf rfl 16 rfl rfl,?_⟩
      exact hc
     ·intro E θ a w hD hi hp he hc
      have e3 := hp.of (k := 3) rfl
      have e9 := hp.of (k := 9) rfl
      have hf := he.h0
      replace hf := hf.more he 10 rfl (onP e3)
      replace hf := hf.more he 16 rfl (onP e9)
      refine stP hf rfl rfl rfl (pBuildS (cells := [.int .i64 e_1,.int .i64 e_2]) bt_50 rfl rfl) fun a hf => cNil ?_
      refine xThenN ?_
      intro ds u hau
      refine ⟨θ,he.put0 hi hau hf rfl 17 rfl rfl,?_⟩
      exact hc
     ·intro E θ a w hD hi hp he hc
      have e10 := hp.of (k := 10) rfl
      try dsimp only at hc
      rw [hi] at hc
      have hf := he.h0
      replace hf := hf.more he 17 rfl (onP e10)
      refine stBS (rows := ([(⟨e_1,e_2⟩ : api_Span)] : List api_Span).map enc_api_Span) (vs := [(0,.agg #[.int .i64 e_1,.int .i64 e_2])]) hf hc rfl rfl sl_44 rfl ⟨rfl,rfl,rfl,trivial⟩ rfl rfl fun b_1 a w hf hc => cNil ?_
      refine xThenN ?_
      intro ds u hau
      replace hc := hc.drop k1
      refine ⟨(setT θ 88 ⟨b_1,none,0⟩),he.put hi hau hf rfl [] trivial ⟨qq,qq,qq,qq,qq,qq,qq,qq,qq,qq,qq,qq,qq,qq,qq,qq,qq,qq,qq,qq,qq,trivial⟩,?_⟩
      try dsimp only
      rw [updE_self E 11]
      exact hc
     ·intro E θ a w hD hi hp he hc
      have e0 := hp.of (k := 0) rfl
      have e11 := hp.of (k := 11) rfl
      have e13 := hD.f 1 rfl hi
      try dsimp only at hc
      rw [e11,hi] at hc
      have hf := he.h0
      replace hf := hf.more he 7 rfl (onP e0)
      replace hf := hf.more he 18 rfl (onP e11)
      refine stApm (xs := out) (ys := ([(⟨e_1,e_2⟩ : api_Span)] : List api_Span)) hf hc rfl rfl sl_44 rfl rfl rfl rfl rfl one_enc_api_Span (src_row hc m0) (fun _ _ => u2) (by simpa using room_spec hun) fun p_10 c_4 a w hf hc => cNil ?_
      refine xThenN ?_
      intro ds u hau
      refine ⟨(setT θ 96 ⟨0,p_10,c_4⟩),he.put hi hau hf rfl [13] ⟨⟨e13,rfl⟩,trivial⟩ ⟨qq,qq,qq,qq,qq,qq,qq,qq,qq,qq,qq,qq,qq,qq,qq,qq,qq,qq,qq,qq,trivial,trivial⟩,?_⟩
      try dsimp only
      rw [updE_tru 12 e11,updE_self E 12]
      exact hc
     ·intro E θ a w hD hi hp he hc
      have e12 := hp.of (k := 12) rfl
      have hf := he.h0
      replace hf := hf.more he 19 rfl (onP e12)
      refine stP hf rfl rfl rfl (pA rfl) fun a hf => cNil ?_
      refine xThenN ?_
      intro ds u hau
      refine ⟨θ,he.put0 hi hau hf rfl 20 rfl rfl,?_⟩
      exact hc
     ·intro E θ a w hall he hc
      have hf := he.h0
      have e11 := hall 11 rfl
      have e12 := hall 12 rfl
      have e13 := hall 13 rfl
      replace hf := hf.more he 20 rfl (onP e13)
      replace hf := hf.more he 5 rfl (onT)
      replace hf := hf.more he 3 rfl (onT)
      replace hf := hf.more he 2 rfl (onT)
      replace hf := hf.more he 1 rfl (onT)
      replace hf := hf.more he 0 rfl (onT)
      try dsimp only at hc
      rw [e11,e12] at hc
      exact ⟨(θ 96).p,(θ 96).c,(θ 88).b,hf.keep ⟨rfl,rfl,rfl,rfl,rfl,rfl,trivial⟩,hc⟩
     rintro a w ⟨p_11,c_5,b_2,hf,hc⟩
     refine h15 _ _ ?_
     refine cReg ?_
     refine stP hf rfl rfl rfl (pM rfl) fun a hf => stP hf rfl rfl rfl (pAdd rfl rfl) fun a hf => stP hf rfl rfl rfl (pA rfl) fun a hf => cNil ?_
     replace hc := hc.drop k1
     replace hc := hc.drop k0
     exact hK11 ((out ++ [(⟨e_1,e_2⟩ : api_Span)]),W (i_2 + 1)) _ _ (Option.some.inj hF).symm ⟨p_7,tcq_4,p_8,tcq_5,p_11,c_5,hf.keep ⟨rfl,rfl,rfl,rfl,rfl,rfl,trivial⟩,hc⟩
   have ho19 : ∀ r,x19 = .out r → r = st11 := by
    rintro r rfl
    exact Option.some.inj hF
   replace hc := hc.nilRow 3 1
   refine cLoop N (loopW (S := S19) (x := x19) ?_ N (([] : List Int),0) _ _ ⟨p_4,tcq_2,p_5,tcq_3,none,0,hf.keep ⟨rfl,rfl,rfl,rfl,rfl,rfl,rfl,rfl,trivial⟩,hc⟩ hx19)
   clear hF hf hc
   rintro ⟨met,k⟩ st19 a w KB19 ⟨p_7,tcq_4,p_8,tcq_5,p_9,c_3,hf,hc⟩ hF hfin19 hK19
   unfold ref05_can_b19 at hF
   refine wp_seq_k fun K23 h23 => wp_seq_k fun K24 h24 => ?_
   obtain ⟨e_3,he_3,hF⟩ := bnd_some hF
   obtain ⟨b_3,o,qa_2,qp⟩ := h_l.atm he_3
   obtain ⟨e_4,he_4,hF⟩ := bnd_some hF
   obtain ⟨b_4,o_1,qa_3,qp_1⟩ := h_l.atm he_4
   refine cQ hc follows_mx (by kernel_rfl) ?_
   refine qE hf rfl rfl rfl (Pu.ev (pM rfl)) fun a hf => qE hf rfl rfl rfl (Pu.ev (pM rfl)) fun a hf => qE hf rfl rfl rfl (Pu.ev (pM rfl)) fun a hf => qE hf rfl rfl rfl (Pu.ev (pIA Try.underlying44 sz_50 rfl rfl qa_2)) fun a hf => qE hf rfl rfl rfl (Pu.ev (pFA fa_50_1 rfl)) fun a hf => qE hf rfl rfl rfl (eLd1 sc_3 rfl (cell_pc (j := 1) qp rfl)) fun a hf => qE hf rfl rfl rfl (Pu.ev (pM rfl)) fun a hf => qE hf rfl rfl rfl (Pu.ev (pM rfl)) fun a hf => qE hf rfl rfl rfl (Pu.ev (pIA Try.underlying44 sz_50 rfl rfl qa_3)) fun a hf => qE hf rfl rfl rfl (Pu.ev (pFA fa_50_0 rfl)) fun a hf => qE hf rfl rfl rfl (eLd1 sc_3 rfl (cell_pc (j := 0) qp_1 rfl)) fun a hf => qE hf rfl rfl rfl (Pu.ev (pSub rfl rfl)) fun a hf => qE hf rfl rfl rfl (Pu.ev (pLe rfl rfl)) fun a hf => ?_
   intro w hc
   refine h24 _ _ ?_
   refine cCond (b := (decide (k ≤ (W (e_3.Hi - e_4.Lo))))) hf rfl (fun hb => ?_) (fun hb => ?_)
   ·replace hF := condT hb hF
    clear hb
    refine wp_skip ?_
    refine h23 _ _ ?_
    refine wp_seq_k fun K25 h25 => ?_
    have hj25 : ∀ (met_1 : List Int) (p_12 : Option Addr) (tcq_6 : TabH) (p_13 : Option Addr) (tcq_7 : TabH) (p_14 : Option Addr) (c_6 : Nat) a w,Has 101 a [(0,.slice l_p l.length l_c),(1,.int .i64 most),(6,.slice p_12 r.length tcq_6.1),(9,.slice p_13 r_1.length tcq_7.1),(10,.slice p_6 out.length c_2),(11,.int .i64 i_2),(12,.slice p_14 met_1.length c_6),(13,.int .i64 k)] → Ctx G (.row p_14 c_6 (met_1.map encI_i64) 3 1::.row p_6 c_2 (out.map enc_api_Span) 50 2::.row p_13 tcq_7.1 ((tabR tcq_7.2 r_1).map TR.val) 61 1::.row p_12 tcq_6.1 ((tabR tcq_6.2 r).map TR.val) 61 1::(tabL encI_i64 3 1 (tabR tcq_7.2 r_1) (tabL encI_i64 3 1 (tabR tcq_6.2 r) Lf))) w → ref05_can_j25 N k met_1 = some st19 → K25 a w := by
     repeat (clear hF)
     repeat (clear hc)
     repeat (clear hf)
     intro met_1 p_12 tcq_6 p_13 tcq_7 p_14 c_6 a w hf hc hF
     unfold ref05_can_j25 at hF
     refine h25 _ _ ?_
     refine cReg ?_
     refine stP hf rfl rfl rfl (pM rfl) fun a hf => stP hf rfl rfl rfl (pAdd rfl rfl) fun a hf => stP hf rfl rfl rfl (pA rfl) fun a hf => cNil ?_
     exact hK19 (met_1,W (k + 1)) _ _ (Option.some.inj hF).symm ⟨p_12,tcq_6,p_13,tcq_7,p_14,c_6,hf.keep ⟨rfl,rfl,rfl,rfl,rfl,rfl,rfl,rfl,trivial⟩,hc⟩
    refine wp_block ?_
    refine wp_seq_k fun K26 h26 => ?_
    obtain ⟨e_5,he_5,hF⟩ := bnd_some hF
    obtain ⟨g_1,rfl,qa_4,qr_2⟩ := row_atm hc m3 (tabR_getI he_5)
    obtain ⟨e_6,he_6,hF⟩ := bnd_some hF
    obtain ⟨g_2,qa_5,qr_3,qm⟩ := tr_at [.row p_9 c_3 (met.map encI_i64) 3 1,.row p_6 c_2 (out.map enc_api_Span) 50 2,.row p_8 tcq_5.1 ((tabR tcq_5.2 r_1).map TR.val) 61 1,.row (some ⟨g_1,0,none⟩) tcq_4.1 ((tabR tcq_4.2 r).map TR.val) 61 1] (tab_swap [.row p_9 c_3 (met.map encI_i64) 3 1,.row p_6 c_2 (out.map enc_api_Span) 50 2,.row p_8 tcq_5.1 ((tabR tcq_5.2 r_1).map TR.val) 61 1,.row (some ⟨g_1,0,none⟩) tcq_4.1 ((tabR tcq_4.2 r).map TR.val) 61 1] hc) he_5 he_6
    obtain ⟨e_7,he_7,hF⟩ := bnd_some hF
    obtain ⟨g_3,rfl,qa_6,qr_4⟩ := row_atm hc m2 (tabR_getI he_7)
    obtain ⟨e_8,he_8,hF⟩ := bnd_some hF
    obtain ⟨g_4,qa_7,qr_5,qm_1⟩ := tr_at [.row p_9 c_3 (met.map encI_i64) 3 1,.row p_6 c_2 (out.map enc_api_Span) 50 2,.row (some ⟨g_3,0,none⟩) tcq_5.1 ((tabR tcq_5.2 r_1).map TR.val) 61 1,.row (some ⟨g_1,0,none⟩) tcq_4.1 ((tabR tcq_4.2 r).map TR.val) 61 1] hc he_7 he_8
    refine cQ hc follows_mx (by kernel_rfl) ?_
    refine qE hf rfl rfl rfl (Pu.ev (pM rfl)) fun a hf => qE hf rfl rfl rfl (Pu.ev (pM rfl)) fun a hf => qE hf rfl rfl rfl (Pu.ev (pIA Try.underlying195 sz_61 rfl rfl (At.len qa_4 (by simp only [tabR_len,List.length_set])))) fun a hf => qE hf rfl rfl rfl (eLd1 sc_61 rfl (cell_row (sz := 1) (i := i_2.toNat) (j := 0) m3 qr_2 rfl)) fun a hf => qE hf rfl rfl rfl (Pu.ev (pM rfl)) fun a hf => qE hf rfl rfl rfl (Pu.ev (pIA Try.underlying61 sz_3 rfl rfl qa_5)) fun a hf => qE hf rfl rfl rfl (eLd1 sc_3 rfl (cell_row (sz := 1) (i := k.toNat) (j := 0) (List.mem_append_right [.row p_9 c_3 (met.map encI_i64) 3 1,.row p_6 c_2 (out.map enc_api_Span) 50 2,.row (some ⟨g_3,0,none⟩) tcq_5.1 ((tabR tcq_5.2 r_1).map TR.val) 61 1,.row (some ⟨g_1,0,none⟩) tcq_4.1 ((tabR tcq_4.2 r).map TR.val) 61 1] (tab_mswap qm)) qr_3 rfl)) fun a hf => qE hf rfl rfl rfl (Pu.ev (pM rfl)) fun a hf => qE hf rfl rfl rfl (Pu.ev (pM rfl)) fun a hf => qE hf rfl rfl rfl (Pu.ev (pLenS Try.underlying44 rfl)) fun a hf => qE hf rfl rfl rfl (Pu.ev (pSub rfl rfl)) fun a hf => qE hf rfl rfl rfl (Pu.ev (pM rfl)) fun a hf => qE hf rfl rfl rfl (Pu.ev (pSub rfl rfl)) fun a hf => ?_
    refine qE hf rfl rfl rfl (Pu.ev (pIA Try.underlying195 sz_61 rfl rfl (At.len qa_6 (by simp only [tabR_len,List.length_set])))) fun a hf => qE hf rfl rfl rfl (eLd1 sc_61 rfl (cell_row (sz := 1) (i := (W ((W (((l.length : Nat) : Int) - 1)) - i_2)).toNat) (j := 0) m2 qr_4 rfl)) fun a hf => qE hf rfl rfl rfl (Pu.ev (pM rfl)) fun a hf => qE hf rfl rfl rfl (Pu.ev (pIA Try.underlying61 sz_3 rfl rfl qa_7)) fun a hf => qE hf rfl rfl rfl (eLd1 sc_3 rfl (cell_row (sz := 1) (i := k.toNat) (j := 0) (List.mem_append_right [.row p_9 c_3 (met.map encI_i64) 3 1,.row p_6 c_2 (out.map enc_api_Span) 50 2,.row (some ⟨g_3,0,none⟩) tcq_5.1 ((tabR tcq_5.2 r_1).map TR.val) 61 1,.row (some ⟨g_1,0,none⟩) tcq_4.1 ((tabR tcq_4.2 r).map TR.val) 61 1] qm_1) qr_5 rfl)) fun a hf => qE hf rfl rfl rfl (Pu.ev (pAdd rfl rfl)) fun a hf => qE hf rfl rfl rfl (Pu.ev (pM rfl)) fun a hf => qE hf rfl rfl rfl (Pu.ev (pLe rfl rfl)) fun a hf => ?_
    intro w hc
    refine h26 _ _ ?_
    refine cCond (b := (decide ((W (e_6 + e_8)) ≤ most))) hf rfl (fun hb => ?_) (fun hb => ?_)
    ·replace hF := condT hb hF
     clear hb
     refine cReg ?_
     refine stP hf rfl rfl rfl (pM rfl) fun a hf => stP hf rfl rfl rfl (pM rfl) fun a hf => stP hf rfl rfl rfl (pM rfl) fun a hf => ?_
     obtain ⟨e_9,he_9,hF⟩ := bnd_some hF
     obtain ⟨b_5,o_2,qa_8,qp_2⟩ := h_l.atm he_9
     refine stP hf rfl rfl rfl (pIA Try.underlying44 sz_50 rfl rfl qa_8) fun a hf => stP hf rfl rfl rfl (pFA fa_50_0 rfl) fun a hf => stE hf hc rfl rfl rfl (eLd1 sc_3 rfl (cell_pc (j := 0) qp_2 rfl)) fun a w hf hc => stP hf rfl rfl rfl (pM rfl) fun a hf => stP hf rfl rfl rfl (pAdd rfl rfl) fun a hf => stBS (rows := ([W (e_9.Lo + k)] : List Int).map encI_i64) (vs := [(0,.int .i64 (W (e_9.Lo + k)))]) hf hc rfl rfl sl_61 rfl ⟨rfl,rfl,rfl,trivial⟩ rfl rfl fun b_6 a w hf hc => ?_
     obtain ⟨un_1,hun_1,hF⟩ := bnd_some hF
     refine stApm (xs := met) (ys := ([W (e_9.Lo + k)] : List Int)) hf hc rfl rfl sl_61 rfl rfl rfl rfl rfl one_encI_i64 (src_row hc m0) (fun _ _ => u1) (by simpa using room_spec hun_1) fun p_15 c_7 a w hf hc => stP hf rfl rfl rfl (pA rfl) fun a hf => cNil ?_
     replace hc := hc.drop k0
     exact hj25 (met ++ [W (e_9.Lo + k)]) (some ⟨g_1,0,none⟩) tcq_4 (some ⟨g_3,0,none⟩) tcq_5 p_15 c_7 _ _  (hf.keep ⟨rfl,rfl,rfl,rfl,rfl,rfl,rfl,rfl,trivial⟩) hc hF
    ·replace hF := condF hb hF
     clear hb
     refine wp_skip ?_
     exact hj25 met (some ⟨g_1,0,none⟩) tcq_4 (some ⟨g_3,0,none⟩) tcq_5 p_9 c_3 _ _  (hf.keep ⟨rfl,rfl,rfl,rfl,rfl,rfl,rfl,rfl,trivial⟩) hc hF
   ·replace hF := condF hb hF
    clear hb
    refine wp_exit ?_
    refine xThen ?_
    refine xThen ?_
    have he := Option.some.inj hF
    rw [← he] at hfin19
    refine cHit ?_
    exact hr19 _ _ _ hfin19 ⟨p_7,tcq_4,p_8,tcq_5,p_9,c_3,hf.keep ⟨rfl,rfl,rfl,rfl,rfl,rfl,rfl,rfl,trivial⟩,hc⟩
  ·replace hF := condF hb hF
   clear hb
   refine wp_exit ?_
   refine xThen ?_
   refine xThen ?_
   have he := Option.some.inj hF
   rw [← he] at hfin11
   refine cHit ?_
   exact hr11 _ _ _ hfin11 ⟨p_4,tcq_2,p_5,tcq_3,p_6,c_2,hf.keep ⟨rfl,rfl,rfl,rfl,rfl,rfl,trivial⟩,hc⟩
 have ho6 : ∀ r,x6 = .out r → r = res := by
  rintro r rfl
  exact Option.some.inj hF
 replace hc := hc.nilRow 50 2
 refine cLoop N (loopW (S := S6) (x := x6) ?_ N (([] : List api_Span),W (((l.length : Nat) : Int) - 1)) _ _ ⟨none,0,hf.keep ⟨rfl,rfl,rfl,rfl,rfl,trivial⟩,hc⟩ hx6)
 clear hF hf hc
 rintro ⟨back,i_1⟩ st6 a w KB6 ⟨p_2,c_1,hf,hc⟩ hF hfin6 hK6
 unfold ref05_can_b6 at hF
 refine wp_seq_k fun K27 h27 => wp_seq_k fun K28 h28 => cReg ?_
 refine stP hf rfl rfl rfl (pM rfl) fun a hf => stP hf rfl rfl rfl (pGe rfl rfl) fun a hf => cNil ?_
 refine h28 _ _ ?_
 refine cCond (b := (decide (0 ≤ i_1))) hf rfl (fun hb => ?_) (fun hb => ?_)
 ·replace hF := condT hb hF
  clear hb
  refine wp_skip ?_
  refine h27 _ _ ?_
  refine wp_seq_k fun K29 h29 => wp_block ?_
  refine cReg ?_
  refine stP hf rfl rfl rfl (pM rfl) fun a hf => stP hf rfl rfl rfl (pM rfl) fun a hf => stP hf rfl rfl rfl (pM rfl) fun a hf => ?_
  obtain ⟨e_10,he_10,hF⟩ := bnd_some hF
  obtain ⟨b_7,o_3,qa_9,qp_3⟩ := h_l.atm he_10
  refine stP hf rfl rfl rfl (pIA Try.underlying44 sz_50 rfl rfl qa_9) fun a hf => stE hf hc rfl rfl rfl (eLdN (vs := [.int .i64 e_10.Lo,.int .i64 e_10.Hi]) ag_50 rfl rfl (cells_pc qp_3 (n := 2) (o' := 0) rfl)) fun a w hf hc => stBS (rows := ([e_10] : List api_Span).map enc_api_Span) (vs := [(0,.agg #[.int .i64 e_10.Lo,.int .i64 e_10.Hi])]) hf hc rfl rfl sl_44 rfl ⟨rfl,rfl,rfl,trivial⟩ rfl rfl fun b_8 a w hf hc => ?_
  obtain ⟨un_2,hun_2,hF⟩ := bnd_some hF
  refine stApm (xs := back) (ys := ([e_10] : List api_Span)) hf hc rfl rfl sl_44 rfl rfl rfl rfl rfl one_enc_api_Span (src_row hc m0) (fun _ _ => u1) (by simpa using room_spec hun_2) fun p_16 c_8 a w hf hc => stP hf rfl rfl rfl (pA rfl) fun a hf => cNil ?_
  refine h29 _ _ ?_
  refine cReg ?_
  refine stP hf rfl rfl rfl (pM rfl) fun a hf => stP hf rfl rfl rfl (pSub rfl rfl) fun a hf => stP hf rfl rfl rfl (pA rfl) fun a hf => cNil ?_
  replace hc := hc.drop k0
  exact hK6 ((back ++ [e_10]),W (i_1 - 1)) _ _ (Option.some.inj hF).symm ⟨p_16,c_8,hf.keep ⟨rfl,rfl,rfl,rfl,rfl,trivial⟩,hc⟩
 ·replace hF := condF hb hF
  clear hb
  refine wp_exit ?_
  refine xThen ?_
  refine xThen ?_
  have he := Option.some.inj hF
  rw [← he] at hfin6
  refine cHit ?_
  exact hr6 _ _ _ hfin6 ⟨p_2,c_1,hf.keep ⟨rfl,rfl,rfl,rfl,rfl,trivial⟩,hc⟩

def ref05_Can (N : Nat) (r : ref05_Record) (most : Int) : Option ((List api_Span) × Int) :=
 Option.bind (ref05_Passes N r) fun r_0 =>
 cond (r_0.2 != 0)
 (some (([] : List api_Span),r_0.2))
 (cond (ref05_outside most 0 18000)
 (some (([] : List api_Span),4))
 (Option.bind (ref05_can N r_0.1 most) fun r_1 =>
 some (r_1.1,r_1.2)))
theorem ref05_Can_ok {N : Nat} {G : Pers} {Lf : List Ent} {w : World} (r : ref05_Record) (most : Int) {r_Rating_p : Option Addr} {r_Rating_c : Nat} {r_Gaugings_p : Option Addr} {r_Gaugings_c : Nat} (h_r_Rating : Rd G 2 r_Rating_p r_Rating_c (r.Rating.map enc_ref05_Mark)) (h_r_Gaugings : Rd G 4 r_Gaugings_p r_Gaugings_c (r.Gaugings.map enc_ref05_Gauging)) (hc : Ctx G (Lf) w) {res : (List api_Span) × Int} (hF : ref05_Can N r most = some res) : Calls Try.prog 28 #[.agg #[.slice r_Rating_p r.Rating.length r_Rating_c,.slice r_Gaugings_p r.Gaugings.length r_Gaugings_c],.int .i64 most] w (fun e w => ∃ (p'1 : Option Addr) (c'1 : Nat),e = .returned (.tuple #[.slice p'1 res.1.length c'1,.int .i64 res.2]) ∧ Ctx G (.row p'1 c'1 (res.1.map enc_api_Span) 50 2::Lf) w) := by
 unfold ref05_Can at hF
 refine fnIn (args := [.agg #[.slice r_Rating_p r.Rating.length r_Rating_c,.slice r_Gaugings_p r.Gaugings.length r_Gaugings_c],.int .i64 most]) Try.func28 rfl Try.ntmps28 rfl fun a hf => wp_seq_k fun K1 h1 => cReg ?_
 refine stBx (cs := [.slice r_Rating_p r.Rating.length r_Rating_c,.slice r_Gaugings_p r.Gaugings.length r_Gaugings_c]) hf hc rfl rfl rfl rfl fun b_1 a w hf hc => stP hf rfl rfl rfl (pA rfl) fun a hf => stP hf rfl rfl rfl (pA rfl) fun a hf => cNil ?_
 refine h1 _ _ ?_
 refine wp_seq_k fun K2 h2 => cReg ?_
 refine stE hf hc rfl rfl rfl (eLdN (vs := [.slice r_Rating_p r.Rating.length r_Rating_c,.slice r_Gaugings_p r.Gaugings.length r_Gaugings_c]) ag_34 rfl rfl (cells_box (n := 2) m0 rfl)) fun a w hf hc => ?_
 obtain ⟨r_0,hr_0,hF⟩ := bnd_some hF
 refine stC (vs := [.agg #[.slice r_Rating_p r.Rating.length r_Rating_c,.slice r_Gaugings_p r.Gaugings.length r_Gaugings_c]]) (caps := []) hf rfl rfl rfl en_23 rfl rfl rfl rfl (ref05_Passes_ok r h_r_Rating h_r_Gaugings hc hr_0) ?_
 rintro _ w ⟨p_1,c_1,rfl,hc⟩
 refine ⟨_,rfl,fun a hf => ?_⟩
 refine stP hf rfl rfl rfl (pM rfl) fun a hf => stP hf rfl rfl rfl (pX rfl rfl) fun a hf => stP hf rfl rfl rfl (pX rfl rfl) fun a hf => stP hf rfl rfl rfl (pA rfl) fun a hf => stP hf rfl rfl rfl (pA rfl) fun a hf => cNil ?_
 refine h2 _ _ ?_
 refine wp_seq_k fun K3 h3 => wp_seq_k fun K4 h4 => cReg ?_
 refine stP hf rfl rfl rfl (pM rfl) fun a hf => stP hf rfl rfl rfl (pNe rfl rfl) fun a hf => cNil ?_
 refine h4 _ _ ?_
 refine cCond (b := (r_0.2 != 0)) hf rfl (fun hb => ?_) (fun hb => ?_)
 ·replace hF := condT hb hF
  clear hb
  refine wp_seq_k fun K5 h5 => cReg ?_
  refine stP hf rfl rfl rfl (pM rfl) fun a hf => stP hf rfl rfl rfl (pA rfl) fun a hf => stP hf rfl rfl rfl (pA rfl) fun a hf => cNil ?_
  refine h5 _ _ ?_
  refine wp_ret ?_
  refine xThenR ?_
  obtain rfl := Option.some.inj hF
  replace hc := hc.nilRow 50 2
  replace hc := hc.drop k2
  replace hc := hc.drop k1
  exact fnOut2 (by simp) rfl Try.results28 hf hc (show look _ 4 = _ from rfl) (show look _ 5 = _ from rfl) ⟨none,0,rfl,hc⟩
 ·replace hF := condF hb hF
  clear hb
  refine wp_skip ?_
  refine h3 _ _ ?_
  refine wp_seq_k fun K6 h6 => wp_seq_k fun K7 h7 => cReg ?_
  refine stP hf rfl rfl rfl (pM rfl) fun a hf => stE hf hc rfl rfl rfl (eC (v := .bool (ref05_outside most 0 18000)) (vs := [.int .i64 most,.int .i64 0,.int .i64 18000]) (caps := []) en_66 rfl rfl rfl rfl (fun w hc => ref05_outside_ok most 0 18000 hc rfl)) fun a w hf hc => cNil ?_
  refine h7 _ _ ?_
  refine cCond (b := (ref05_outside most 0 18000)) hf rfl (fun hb => ?_) (fun hb => ?_)
  ·replace hF := condT hb hF
   clear hb
   refine wp_seq_k fun K8 h8 => cReg ?_
   refine stP hf rfl rfl rfl (pA rfl) fun a hf => stP hf rfl rfl rfl (pA rfl) fun a hf => cNil ?_
   refine h8 _ _ ?_
   refine wp_ret ?_
   refine xThenR ?_
   obtain rfl := Option.some.inj hF
   replace hc := hc.nilRow 50 2
   replace hc := hc.drop k2
   replace hc := hc.drop k1
   exact fnOut2 (by simp) rfl Try.results28 hf hc (show look _ 4 = _ from rfl) (show look _ 5 = _ from rfl) ⟨none,0,rfl,hc⟩
  ·replace hF := condF hb hF
   clear hb
   refine wp_skip ?_
   refine h6 _ _ ?_
   refine wp_seq_k fun K9 h9 => cReg ?_
   refine stP hf rfl rfl rfl (pM rfl) fun a hf => stP hf rfl rfl rfl (pM rfl) fun a hf => ?_
   obtain ⟨r_1,hr_1,hF⟩ := bnd_some hF
   obtain ⟨G1,hle1,hrd1,hc,hth1⟩ := lend hc k0
   refine stC (vs := [.slice p_1 r_0.1.length c_1,.int .i64 most]) (caps := []) hf rfl rfl rfl en_77 rfl rfl rfl rfl (ref05_can_ok r_0.1 most hrd1 hc hr_1) ?_
   rintro _ w ⟨p_2,c_2,rfl,hc⟩
   refine ⟨_,rfl,fun a hf => ?_⟩
   replace hc := hth1 _ _ hc
   refine stP hf rfl rfl rfl (pX rfl rfl) fun a hf => stP hf rfl rfl rfl (pX rfl rfl) fun a hf => stP hf rfl rfl rfl (pA rfl) fun a hf => stP hf rfl rfl rfl (pA rfl) fun a hf => cNil ?_
   refine h9 _ _ ?_
   refine wp_ret ?_
   obtain rfl := Option.some.inj hF
   replace hc := hc.drop k2
   replace hc := hc.drop k0
   exact fnOut2 (by simp) rfl Try.results28 hf hc (show look _ 4 = _ from rfl) (show look _ 5 = _ from rfl) ⟨p_2,c_2,rfl,hc⟩

def ref05_Between_j21 (N : Nat) (r_2 : api_Ratio) (up : Int) : Option (api_Span × Int) :=
 Option.bind (nz r_2.D) fun un_1 =>
 some ((⟨W (r_2.N.tdiv r_2.D),up⟩ : api_Span),0)
def ref05_Between_j14 (N : Nat) (r : ref05_Record) (most : Int) (stage : Int) (days_1 : List api_Span) (place_1 : Int) : Option (api_Span × Int) :=
 Option.bind (ref05_can N days_1 most) fun r_1 =>
 cond (r_1.2 != 0)
 (some ((⟨0,0⟩ : api_Span),r_1.2))
 (Option.bind (getI r_1.1 place_1) fun e_1 =>
 Option.bind (ref05_flow N r.Rating (W (stage - e_1.Hi))) fun r_2 =>
 Option.bind (getI r_1.1 place_1) fun e_2 =>
 Option.bind (ref05_flow N r.Rating (W (stage - e_2.Lo))) fun r_3 =>
 Option.bind (nz r_3.D) fun un =>
 cond (decide ((W ((W (r_3.N.tdiv r_3.D)) * r_3.D)) < r_3.N))
 (ref05_Between_j21 N r_2 (W ((W (r_3.N.tdiv r_3.D)) + 1)))
 (ref05_Between_j21 N r_2 (W (r_3.N.tdiv r_3.D))))
def ref05_Between_j29 (N : Nat) (r_0 : (List api_Span) × Int) (i_1 : Int) (days_2 : List api_Span) (place_2 : Int) : Option (Step ((List api_Span) × Int × Int) (api_Span × Int)) :=
 Option.bind (getI r_0.1 i_1) fun e_3 =>
 Option.bind (room ((days_2 ++ [e_3])).length) fun un_3 =>
 some (.cont ((days_2 ++ [e_3]),place_2,W (i_1 + 1)))
def ref05_Between_b13 (N : Nat) (r : ref05_Record) (day : Int) (r_0 : (List api_Span) × Int) (days : List api_Span) (place : Int) (i_1 : Int) : Option (Step ((List api_Span) × Int × Int) (api_Span × Int)) :=
 cond (decide (i_1 < ((r_0.1.length : Nat) : Int)))
 (Option.bind (cond (decide (place < 0)) (Option.bind (getI r.Gaugings i_1) fun e_4 =>
 some (decide (day ≤ e_4.Day))) (some false)) fun t_1 =>
 cond t_1
 (Option.bind (getI r.Gaugings i_1) fun e_5 =>
 cond (decide (day < e_5.Day))
 (Option.bind (room ((days ++ [(⟨(-300),300⟩ : api_Span)])).length) fun un_4 =>
 ref05_Between_j29 N r_0 i_1 (days ++ [(⟨(-300),300⟩ : api_Span)]) ((days.length : Nat) : Int))
 (ref05_Between_j29 N r_0 i_1 days ((days.length : Nat) : Int)))
 (ref05_Between_j29 N r_0 i_1 days place))
 (some (.brk (days,place,i_1)))
def ref05_Between (N : Nat) (r : ref05_Record) (most : Int) (day : Int) (stage : Int) : Option (api_Span × Int) :=
 Option.bind (ref05_Passes N r) fun r_0 =>
 cond (r_0.2 != 0)
 (some ((⟨0,0⟩ : api_Span),r_0.2))
 (cond (((ref05_outside most 0 18000) || (ref05_outside day 0 40000)) || (ref05_outside stage (-2000) 2000))
 (some ((⟨0,0⟩ : api_Span),4))
 (Option.bind (loopO (fun s13 => ref05_Between_b13 N r day r_0 s13.1 s13.2.1 s13.2.2) N (([] : List api_Span),(-1),0)) fun x13 =>
 exK x13 (fun s13 => cond (decide (s13.2.1 < 0))
 (Option.bind (room ((s13.1 ++ [(⟨(-300),300⟩ : api_Span)])).length) fun un_2 =>
 ref05_Between_j14 N r most stage (s13.1 ++ [(⟨(-300),300⟩ : api_Span)]) ((s13.1.length : Nat) : Int))
 (ref05_Between_j14 N r most stage s13.1 s13.2.1)) some))
theorem ref05_Between_ok {N : Nat} {G : Pers} {Lf : List Ent} {w : World} (r : ref05_Record) (most : Int) (day : Int) (stage : Int) {r_Rating_p : Option Addr} {r_Rating_c : Nat} {r_Gaugings_p : Option Addr} {r_Gaugings_c : Nat} (h_r_Rating : Rd G 2 r_Rating_p r_Rating_c (r.Rating.map enc_ref05_Mark)) (h_r_Gaugings : Rd G 4 r_Gaugings_p r_Gaugings_c (r.Gaugings.map enc_ref05_Gauging)) (hc : Ctx G (Lf) w) {res : api_Span × Int} (hF : ref05_Between N r most day stage = some res) : Calls Try.prog 30 #[.agg #[.slice r_Rating_p r.Rating.length r_Rating_c,.slice r_Gaugings_p r.Gaugings.length r_Gaugings_c],.int .i64 most,.int .i64 day,.int .i64 stage] w (fun e w => e = .returned (.tuple #[.agg #[.int .i64 res.1.Lo,.int .i64 res.1.Hi],.int .i64 res.2]) ∧ Ctx G (Lf) w) := by
 unfold ref05_Between at hF
 refine fnIn (args := [.agg #[.slice r_Rating_p r.Rating.length r_Rating_c,.slice r_Gaugings_p r.Gaugings.length r_Gaugings_c],.int .i64 most,.int .i64 day,.int .i64 stage]) Try.func30 rfl Try.ntmps30 rfl fun a hf => wp_seq_k fun K1 h1 => cReg ?_
 refine stBx (cs := [.slice r_Rating_p r.Rating.length r_Rating_c,.slice r_Gaugings_p r.Gaugings.length r_Gaugings_c]) hf hc rfl rfl rfl rfl fun b_1 a w hf hc => stAl (cs := [.int .i64 0,.int .i64 0]) hf hc rfl rfl zr_50 rfl fun b_2 a w hf hc => stP hf rfl rfl rfl (pA rfl) fun a hf => cNil ?_
 refine h1 _ _ ?_
 refine wp_seq_k fun K2 h2 => cReg ?_
 refine stE hf hc rfl rfl rfl (eLdN (vs := [.slice r_Rating_p r.Rating.length r_Rating_c,.slice r_Gaugings_p r.Gaugings.length r_Gaugings_c]) ag_34 rfl rfl (cells_box (n := 2) m1 rfl)) fun a w hf hc => ?_
 obtain ⟨r_0,hr_0,hF⟩ := bnd_some hF
 refine stC (vs := [.agg #[.slice r_Rating_p r.Rating.length r_Rating_c,.slice r_Gaugings_p r.Gaugings.length r_Gaugings_c]]) (caps := []) hf rfl rfl rfl en_23 rfl rfl rfl rfl (ref05_Passes_ok r h_r_Rating h_r_Gaugings hc hr_0) ?_
 rintro _ w ⟨p_1,c_1,rfl,hc⟩
 refine ⟨_,rfl,fun a hf => ?_⟩
 refine stP hf rfl rfl rfl (pM rfl) fun a hf => stP hf rfl rfl rfl (pX rfl rfl) fun a hf => stP hf rfl rfl rfl (pX rfl rfl) fun a hf => stP hf rfl rfl rfl (pA rfl) fun a hf => stP hf rfl rfl rfl (pA rfl) fun a hf => cNil ?_
 refine h2 _ _ ?_
 refine wp_seq_k fun K3 h3 => wp_seq_k fun K4 h4 => cReg ?_
 refine stP hf rfl rfl rfl (pM rfl) fun a hf => stP hf rfl rfl rfl (pNe rfl rfl) fun a hf => cNil ?_
 refine h4 _ _ ?_
 refine cCond (b := (r_0.2 != 0)) hf rfl (fun hb => ?_) (fun hb => ?_)
 ·replace hF := condT hb hF
  clear hb
  refine wp_seq_k fun K5 h5 => cReg ?_
  refine stP hf rfl rfl rfl (pBuildS (cells := [.int .i64 0,.int .i64 0]) bt_50 rfl rfl) fun a hf => stP hf rfl rfl rfl (pM rfl) fun a hf => stSt (vs := [.int .i64 0,.int .i64 0]) hf hc rfl rfl rfl rfl sz_50 rfl rfl u1 fun w hc => stP hf rfl rfl rfl (pA rfl) fun a hf => cNil ?_
  refine h5 _ _ ?_
  refine wp_ret ?_
  refine xThenR ?_
  obtain rfl := Option.some.inj hF
  replace hc := hc.drop k2
  replace hc := hc.drop k0
  exact fnOut2 (by simp) rfl Try.results30 hf hc (rv_cellN (vs := [.int .i64 0,.int .i64 0]) ag_50 rfl rfl (cells_box (n := 2) m0 rfl)) (show look _ 9 = _ from rfl) ⟨rfl,(hc.drop k0)⟩
 ·replace hF := condF hb hF
  clear hb
  refine wp_skip ?_
  refine h3 _ _ ?_
  refine wp_seq_k fun K6 h6 => wp_seq_k fun K7 h7 => cReg ?_
  refine stP hf rfl rfl rfl (pM rfl) fun a hf => stE hf hc rfl rfl rfl (eC (v := .bool (ref05_outside most 0 18000)) (vs := [.int .i64 most,.int .i64 0,.int .i64 18000]) (caps := []) en_66 rfl rfl rfl rfl (fun w hc => ref05_outside_ok most 0 18000 hc rfl)) fun a w hf hc => stP hf rfl rfl rfl (pM rfl) fun a hf => stCut 3 (fun a w => Has 137 a [(1,.int .i64 most),(2,.int .i64 day),(3,.int .i64 stage),(4,.pointer (some ⟨b_1,0,none⟩)),(8,.pointer (some ⟨b_2,0,none⟩)),(10,.slice p_1 r_0.1.length c_1),(28,.int .i64 most),(29,.bool (ref05_outside most 0 18000)),(30,.bool (ref05_outside most 0 18000)),(33,.bool ((ref05_outside most 0 18000) || (ref05_outside day 0 40000)))] ∧ Ctx G (.row p_1 c_1 (r_0.1.map enc_api_Span) 50 2::.box b_2 [.int .i64 0,.int .i64 0] 50::.box b_1 [.slice r_Rating_p r.Rating.length r_Rating_c,.slice r_Gaugings_p r.Gaugings.length r_Gaugings_c] 34::Lf) w) ?_ ?_
  ·cases hb : (ref05_outside most 0 18000)
   ·rw [hb] at hf
    refine stP hf rfl rfl rfl (pM rfl) fun a hf => stE hf hc rfl rfl rfl (eC (v := .bool (ref05_outside day 0 40000)) (vs := [.int .i64 day,.int .i64 0,.int .i64 40000]) (caps := []) en_66 rfl rfl rfl rfl (fun w hc => ref05_outside_ok day 0 40000 hc rfl)) fun a w hf hc => stP hf rfl rfl rfl (pPf rfl rfl) fun a hf => cNil ⟨hf.keep ⟨rfl,rfl,rfl,rfl,rfl,rfl,rfl,rfl,rfl,rfl,trivial⟩,hc⟩
   ·rw [hb] at hf
    refine stS hf rfl rfl rfl fun a hf => stS hf rfl rfl rfl fun a hf => stP hf rfl rfl rfl (pPt rfl rfl) fun a hf => cNil ⟨hf.keep ⟨rfl,rfl,rfl,rfl,rfl,rfl,rfl,rfl,rfl,rfl,trivial⟩,hc⟩
  intro a w ⟨hf,hc⟩
  refine stP hf rfl rfl rfl (pM rfl) fun a hf => stCut 3 (fun a w => Has 137 a [(1,.int .i64 most),(2,.int .i64 day),(3,.int .i64 stage),(4,.pointer (some ⟨b_1,0,none⟩)),(8,.pointer (some ⟨b_2,0,none⟩)),(10,.slice p_1 r_0.1.length c_1),(28,.int .i64 most),(29,.bool (ref05_outside most 0 18000)),(30,.bool (ref05_outside most 0 18000)),(33,.bool ((ref05_outside most 0 18000) || (ref05_outside day 0 40000))),(34,.bool ((ref05_outside most 0 18000) || (ref05_outside day 0 40000))),(37,.bool (((ref05_outside most 0 18000) || (ref05_outside day 0 40000)) || (ref05_outside stage (-2000) 2000)))] ∧ Ctx G (.row p_1 c_1 (r_0.1.map enc_api_Span) 50 2::.box b_2 [.int .i64 0,.int .i64 0] 50::.box b_1 [.slice r_Rating_p r.Rating.length r_Rating_c,.slice r_Gaugings_p r.Gaugings.length r_Gaugings_c] 34::Lf) w) ?_ ?_
  ·cases hb : ((ref05_outside most 0 18000) || (ref05_outside day 0 40000))
   ·rw [hb] at hf
    refine stP hf rfl rfl rfl (pM rfl) fun a hf => stE hf hc rfl rfl rfl (eC (v := .bool (ref05_outside stage (-2000) 2000)) (vs := [.int .i64 stage,.int .i64 (-2000),.int .i64 2000]) (caps := []) en_66 rfl rfl rfl rfl (fun w hc => ref05_outside_ok stage (-2000) 2000 hc rfl)) fun a w hf hc => stP hf rfl rfl rfl (pPf rfl rfl) fun a hf => cNil ⟨hf.keep ⟨rfl,rfl,rfl,rfl,rfl,rfl,rfl,rfl,rfl,rfl,rfl,rfl,trivial⟩,hc⟩
   ·rw [hb] at hf
    refine stS hf rfl rfl rfl fun a hf => stS hf rfl rfl rfl fun a hf => stP hf rfl rfl rfl (pPt rfl rfl) fun a hf => cNil ⟨hf.keep ⟨rfl,rfl,rfl,rfl,rfl,rfl,rfl,rfl,rfl,rfl,rfl,rfl,trivial⟩,hc⟩
  intro a w ⟨hf,hc⟩
  refine cNil ?_
  refine h7 _ _ ?_
  refine cCond (b := (((ref05_outside most 0 18000) || (ref05_outside day 0 40000)) || (ref05_outside stage (-2000) 2000))) hf rfl (fun hb => ?_) (fun hb => ?_)
  ·replace hF := condT hb hF
   clear hb
   refine wp_seq_k fun K8 h8 => cReg ?_
   refine stP hf rfl rfl rfl (pBuildS (cells := [.int .i64 0,.int .i64 0]) bt_50 rfl rfl) fun a hf => stSt (vs := [.int .i64 0,.int .i64 0]) hf hc rfl rfl rfl rfl sz_50 rfl rfl u1 fun w hc => stP hf rfl rfl rfl (pA rfl) fun a hf => cNil ?_
   refine h8 _ _ ?_
   refine wp_ret ?_
   refine xThenR ?_
   obtain rfl := Option.some.inj hF
   replace hc := hc.drop k2
   replace hc := hc.drop k0
   exact fnOut2 (by simp) rfl Try.results30 hf hc (rv_cellN (vs := [.int .i64 0,.int .i64 0]) ag_50 rfl rfl (cells_box (n := 2) m0 rfl)) (show look _ 9 = _ from rfl) ⟨rfl,(hc.drop k0)⟩
  ·replace hF := condF hb hF
   clear hb
   refine wp_skip ?_
   refine h6 _ _ ?_
   refine wp_seq_k fun K9 h9 => cReg ?_
   refine stP hf rfl rfl rfl (pA rfl) fun a hf => cNil ?_
   refine h9 _ _ ?_
   refine wp_seq_k fun K10 h10 => cReg ?_
   refine stP hf rfl rfl rfl (pA rfl) fun a hf => cNil ?_
   refine h10 _ _ ?_
   refine wp_seq_k fun K11 h11 => wp_seq_k fun K12 h12 => cReg ?_
   refine stP hf rfl rfl rfl (pA rfl) fun a hf => cNil ?_
   refine h12 _ _ ?_
   refine wp_block ?_
   obtain ⟨x13,hx13,hF⟩ := bnd_some hF
   let S13 : ((List api_Span) × Int × Int) → Act → World → Prop := (fun (zz : (List api_Span) × Int × Int) a w => ∃ (p_2 : Option Addr) (c_2 : Nat) (p_3 : Option Addr) (c_3 : Nat),Has 137 a [(1,.int .i64 most),(2,.int .i64 day),(3,.int .i64 stage),(4,.pointer (some ⟨b_1,0,none⟩)),(8,.pointer (some ⟨b_2,0,none⟩)),(10,.slice p_2 r_0.1.length c_2),(12,.slice p_3 zz.1.length c_3),(13,.int .i64 zz.2.1),(14,.int .i64 zz.2.2)] ∧ Ctx G (.row p_3 c_3 (zz.1.map enc_api_Span) 50 2::.row p_2 c_2 (r_0.1.map enc_api_Span) 50 2::.box b_2 [.int .i64 0,.int .i64 0] 50::.box b_1 [.slice r_Rating_p r.Rating.length r_Rating_c,.slice r_Gaugings_p r.Gaugings.length r_Gaugings_c] 34::Lf) w)
   have hr13 : ∀ (zz : (List api_Span) × Int × Int) a w,x13 = .go zz → S13 zz a w → K11 a w := by
    rintro ⟨days,place,i_1⟩ a w rfl ⟨p_2,c_2,p_3,c_3,hf,hc⟩
    replace hF := exK_go hF
    refine h11 _ _ ?_
    refine wp_seq_k fun K14 h14 => ?_
    have hj14 : ∀ (days_1 : List api_Span) (place_1 : Int) (p_4 : Option Addr) (c_4 : Nat) a w,Has 137 a [(1,.int .i64 most),(3,.int .i64 stage),(4,.pointer (some ⟨b_1,0,none⟩)),(8,.pointer (some ⟨b_2,0,none⟩)),(12,.slice p_4 days_1.length c_4),(13,.int .i64 place_1)] → Ctx G (.row p_4 c_4 (days_1.map enc_api_Span) 50 2::.box b_2 [.int .i64 0,.int .i64 0] 50::.box b_1 [.slice r_Rating_p r.Rating.length r_Rating_c,.slice r_Gaugings_p r.Gaugings.length r_Gaugings_c] 34::Lf) w → ref05_Between_j14 N r most stage days_1 place_1 = some res → K14 a w := by
     repeat (clear hF)
     repeat (clear hc)
     repeat (clear hf)
     intro days_1 place_1 p_4 c_4 a w hf hc hF
     unfold ref05_Between_j14 at hF
     refine h14 _ _ ?_
     refine wp_seq_k fun K15 h15 => cReg ?_
     refine stP hf rfl rfl rfl (pM rfl) fun a hf => stP hf rfl rfl rfl (pM rfl) fun a hf => ?_
     obtain ⟨r_1,hr_1,hF⟩ := bnd_some hF
     obtain ⟨G1,hle1,hrd1,hc,hth1⟩ := lend hc k0
     refine stC (vs := [.slice p_4 days_1.length c_4,.int .i64 most]) (caps := []) hf rfl rfl rfl en_77 rfl rfl rfl rfl (ref05_can_ok days_1 most hrd1 hc hr_1) ?_
     rintro _ w ⟨p_5,c_5,rfl,hc⟩
     refine ⟨_,rfl,fun a hf => ?_⟩
     replace hc := hth1 _ _ hc
     refine stP hf rfl rfl rfl (pM rfl) fun a hf => stP hf rfl rfl rfl (pX rfl rfl) fun a hf => stP hf rfl rfl rfl (pX rfl rfl) fun a hf => stP hf rfl rfl rfl (pA rfl) fun a hf => stP hf rfl rfl rfl (pA rfl) fun a hf => cNil ?_
     refine h15 _ _ ?_
     refine wp_seq_k fun K16 h16 => wp_seq_k fun K17 h17 => cReg ?_
     refine stP hf rfl rfl rfl (pM rfl) fun a hf => stP hf rfl rfl rfl (pNe rfl rfl) fun a hf => cNil ?_
     refine h17 _ _ ?_
     refine cCond (b := (r_1.2 != 0)) hf rfl (fun hb => ?_) (fun hb => ?_)
     ·replace hF := condT hb hF
      clear hb
      refine wp_seq_k fun K18 h18 => cReg ?_
      refine stP hf rfl rfl rfl (pBuildS (cells := [.int .i64 0,.int .i64 0]) bt_50 rfl rfl) fun a hf => stP hf rfl rfl rfl (pM rfl) fun a hf => stSt (vs := [.int .i64 0,.int .i64 0]) hf hc rfl rfl rfl rfl sz_50 rfl rfl u2 fun w hc => stP hf rfl rfl rfl (pA rfl) fun a hf => cNil ?_
      refine h18 _ _ ?_
      refine wp_ret ?_
      refine xThenR ?_
      obtain rfl := Option.some.inj hF
      replace hc := hc.drop k3
      replace hc := hc.drop k1
      replace hc := hc.drop k0
      exact fnOut2 (by simp) rfl Try.results30 hf hc (rv_cellN (vs := [.int .i64 0,.int .i64 0]) ag_50 rfl rfl (cells_box (n := 2) m0 rfl)) (show look _ 9 = _ from rfl) ⟨rfl,(hc.drop k0)⟩
     ·replace hF := condF hb hF
      clear hb
      refine wp_skip ?_
      refine h16 _ _ ?_
      refine wp_seq_k fun K19 h19 => ?_
      obtain ⟨e_1,he_1,hF⟩ := bnd_some hF
      obtain ⟨g,rfl,qa,qr⟩ := row_atm hc m1 he_1
      obtain ⟨r_2,hr_2,hF⟩ := bnd_some hF
      obtain ⟨e_2,he_2,hF⟩ := bnd_some hF
      obtain ⟨qa_1,qr_1⟩ := row_atk hc m1 he_2
      obtain ⟨r_3,hr_3,hF⟩ := bnd_some hF
      replace hc := hc.nilRow 0 0
      replace hc := hc.nilRow 0 0
      refine regionE (fun θ => [⟨none,none,3,.int .i64 stage⟩,⟨none,none,4,.pointer (some ⟨b_1,0,none⟩)⟩,⟨none,none,8,.pointer (some ⟨b_2,0,none⟩)⟩,⟨none,none,13,.int .i64 place_1⟩,⟨none,none,15,.slice (some ⟨g,0,none⟩) r_1.1.length c_5⟩,⟨some 0,none,96,.pointer (some ⟨b_1,0,none⟩)⟩,⟨some 1,none,97,.slice r_Rating_p r.Rating.length r_Rating_c⟩,⟨some 2,none,98,.int .i64 stage⟩,⟨some 3,none,99,.slice (some ⟨g,0,none⟩) r_1.1.length c_5⟩,⟨some 4,none,100,.int .i64 place_1⟩,⟨some 5,none,101,.pointer (some ⟨g,place_1.toNat * 2,none⟩)⟩,⟨some 6,none,102,.pointer (some ⟨g,place_1.toNat * 2 + 1,none⟩)⟩,⟨some 7,none,103,.int .i64 e_1.Hi⟩,⟨some 8,none,104,.int .i64 (W (stage - e_1.Hi))⟩,⟨some 9,none,105,.agg #[.int .i64 r_2.N,.int .i64 r_2.D]⟩,⟨some 10,none,106,.pointer (some ⟨b_1,0,none⟩)⟩,⟨some 11,none,107,.slice r_Rating_p r.Rating.length r_Rating_c⟩,⟨some 12,none,108,.int .i64 stage⟩,⟨some 13,none,109,.slice (some ⟨g,0,none⟩) r_1.1.length c_5⟩,⟨some 14,none,110,.int .i64 place_1⟩,⟨some 15,none,111,.pointer (some ⟨g,place_1.toNat * 2,none⟩)⟩,⟨some 16,none,112,.pointer (some ⟨g,place_1.toNat * 2 + 0,none⟩)⟩,⟨some 17,none,113,.int .i64 e_2.Lo⟩,⟨some 18,none,114,.int .i64 (W (stage - e_2.Lo))⟩,⟨some 19,none,115,.agg #[.int .i64 r_3.N,.int .i64 r_3.D]⟩,⟨some 20,none,16,.pointer (some ⟨(θ 160).b,0,none⟩)⟩,⟨some 21,none,17,.pointer (some ⟨(θ 168).b,0,none⟩)⟩]) (fun E θ => (bif E 23 then .box (θ 168).b [.int .i64 r_3.N,.int .i64 r_3.D] 37 else bif E 21 then .box (θ 168).b [.int .i64 0,.int .i64 0] 37 else .row none 0 [] 0 0)::(bif E 22 then .box (θ 160).b [.int .i64 r_2.N,.int .i64 r_2.D] 37 else bif E 20 then .box (θ 160).b [.int .i64 0,.int .i64 0] 37 else .row none 0 [] 0 0)::.row p_4 c_4 (days_1.map enc_api_Span) 50 2::.row (some ⟨g,0,none⟩) c_5 (r_1.1.map enc_api_Span) 50 2::.box b_2 [.int .i64 0,.int .i64 0] 50::.box b_1 [.slice r_Rating_p r.Rating.length r_Rating_c,.slice r_Gaugings_p r.Gaugings.length r_Gaugings_c] 34::Lf) [(22,20),(23,21)] (fun a w => ∃ (b_5 : Nat) (b_6 : Nat),Has 137 a [(8,.pointer (some ⟨b_2,0,none⟩)),(16,.pointer (some ⟨b_5,0,none⟩)),(17,.pointer (some ⟨b_6,0,none⟩))] ∧ Ctx G (.box b_6 [.int .i64 r_3.N,.int .i64 r_3.D] 37::.box b_5 [.int .i64 r_2.N,.int .i64 r_2.D] 37::.row p_4 c_4 (days_1.map enc_api_Span) 50 2::.row (some ⟨g,0,none⟩) c_5 (r_1.1.map enc_api_Span) 50 2::.box b_2 [.int .i64 0,.int .i64 0] 50::.box b_1 [.slice r_Rating_p r.Rating.length r_Rating_c,.slice r_Gaugings_p r.Gaugings.length r_Gaugings_c] 34::Lf) w) follows_mx (by kernel_rfl) (by kernel_rfl) (HasE.of hf ⟨rfl,rfl,rfl,rfl,rfl,trivial,trivial,trivial,trivial,trivial,trivial,trivial,trivial,trivial,trivial,trivial,trivial,trivial,trivial,trivial,trivial,trivial,trivial,trivial,trivial,trivial,trivial,trivial⟩) hc ⟨?_,?_,?_,?_,?_,?_,?_,?_,?_,?_,?_,?_,?_,?_,?_,?_,?_,?_,?_,?_,?_,?_,?_,?_,trivial⟩ ?_ ?_
      ·intro E θ a w hD hi hp he hc
       have hf := he.h0
       replace hf := hf.more he 1 rfl onT
       refine stP hf rfl rfl rfl (pFA fa_34_0 rfl) fun a hf => cNil ?_
       refine xThenN ?_
       intro ds u hau
       refine ⟨θ,he.put0 hi hau hf rfl 5 rfl rfl,?_⟩
       exact hc
      ·intro E θ a w hD hi hp he hc
       have e0 := hp.of (k := 0) rfl
       have hf := he.h0
       replace hf := hf.more he 5 rfl (onP e0)
       refine stE hf hc rfl rfl rfl (eLd1 sc_31 rfl (cell_box m5 rfl)) fun a w hf hc => cNil ?_
       refine xThenN ?_
       intro ds u hau
       refine ⟨θ,he.put0 hi hau hf rfl 6 rfl rfl,?_⟩
       exact hc
      ·intro E θ a w hD hi hp he hc
       have hf := he.h0
       replace hf := hf.more he 0 rfl onT
       refine stP hf rfl rfl rfl (pM rfl) fun a hf => cNil ?_
       refine xThenN ?_
       intro ds u hau
       refine ⟨θ,he.put0 hi hau hf rfl 7 rfl rfl,?_⟩
       exact hc
      ·intro E θ a w hD hi hp he hc
       have hf := he.h0
       replace hf := hf.more he 4 rfl onT
       refine stP hf rfl rfl rfl (pM rfl) fun a hf => cNil ?_
       refine xThenN ?_
       intro ds u hau
       refine ⟨θ,he.put0 hi hau hf rfl 8 rfl rfl,?_⟩
       exact hc
      ·intro E θ a w hD hi hp he hc
       have hf := he.h0
       replace hf := hf.more he 3 rfl onT
       refine stP hf rfl rfl rfl (pM rfl) fun a hf => cNil ?_
       refine xThenN ?_
       intro ds u hau
       refine ⟨θ,he.put0 hi hau hf rfl 9 rfl rfl,?_⟩
       exact hc
      ·intro E θ a w hD hi hp he hc
       have e3 := hp.of (k := 3) rfl
       have e4 := hp.of (k := 4) rfl
       have hf := he.h0
       replace hf := hf.more he 8 rfl (onP e3)
       replace hf := hf.more he 9 rfl (onP e4)
       refine stP hf rfl rfl rfl (pIA Try.underlying44 sz_50 rfl rfl qa) fun a hf => cNil ?_
       refine xThenN ?_
       intro ds u hau
       refine ⟨θ,he.put0 hi hau hf rfl 10 rfl rfl,?_⟩
       exact hc
      ·intro E θ a w hD hi hp he hc
       have e5 := hp.of (k := 5) rfl
       have hf := he.h0
       replace hf := hf.more he 10 rfl (onP e5)
       refine stP hf rfl rfl rfl (pFA fa_50_1 rfl) fun a hf => cNil ?_
       refine xThenN ?_
       intro ds u hau
       refine ⟨θ,he.put0 hi hau hf rfl 11 rfl rfl,?_⟩
       exact hc
      ·intro E θ a w hD hi hp he hc
       have e6 := hp.of (k := 6) rfl
       have hf := he.h0
       replace hf := hf.more he 11 rfl (onP e6)
       refine stE hf hc rfl rfl rfl (eLd1 sc_3 rfl (cell_row (sz := 2) (i := place_1.toNat) (j := 1) m3 qr rfl)) fun a w hf hc => cNil ?_
       refine xThenN ?_
       intro ds u hau
       refine ⟨θ,he.put0 hi hau hf rfl 12 rfl rfl,?_⟩
       exact hc
      ·intro E θ a w hD hi hp he hc
       have e2 := hp.of (k := 2) rfl
       have e7 := hp.of (k := 7) rfl
       have hf := he.h0
       replace hf := hf.more he 7 rfl (onP e2)
       replace hf := hf.more he 12 rfl (onP e7)
       refine stP hf rfl rfl rfl (pSub rfl rfl) fun a hf => cNil ?_
       refine xThenN ?_
       intro ds u hau
       refine ⟨θ,he.put0 hi hau hf rfl 13 rfl rfl,?_⟩
       exact hc
      ·intro E θ a w hD hi hp he hc
       have e1 := hp.of (k := 1) rfl
       have e8 := hp.of (k := 8) rfl
       have hf := he.h0
       replace hf := hf.more he 6 rfl (onP e1)
       replace hf := hf.more he 13 rfl (onP e8)
       refine stE hf hc rfl rfl rfl (eC (v := .agg #[.int .i64 r_2.N,.int .i64 r_2.D]) (vs := [.slice r_Rating_p r.Rating.length r_Rating_c,.int .i64 (W (stage - e_1.Hi))]) (caps := []) en_70 rfl rfl rfl rfl (fun w hc => ref05_flow_ok r.Rating (W (stage - e_1.Hi)) h_r_Rating hc hr_2)) fun a w hf hc => cNil ?_
       refine xThenN ?_
       intro ds u hau
       refine ⟨θ,he.put0 hi hau hf rfl 14 rfl rfl,?_⟩
       exact hc
      ·intro E θ a w hD hi hp he hc
       have hf := he.h0
       replace hf := hf.more he 1 rfl onT
       refine stP hf rfl rfl rfl (pFA fa_34_0 rfl) fun a hf => cNil ?_
       refine xThenN ?_
       intro ds u hau
       refine ⟨θ,he.put0 hi hau hf rfl 15 rfl rfl,?_⟩
       exact hc
      ·intro E θ a w hD hi hp he hc
       have e10 := hp.of (k := 10) rfl
       have hf := he.h0
       replace hf := hf.more he 15 rfl (onP e10)
       refine stE hf hc rfl rfl rfl (eLd1 sc_31 rfl (cell_box m5 rfl)) fun a w hf hc => cNil ?_
       refine xThenN ?_
       intro ds u hau
       refine ⟨θ,he.put0 hi hau hf rfl 16 rfl rfl,?_⟩
       exact hc
      ·intro E θ a w hD hi hp he hc
       have hf := he.h0
       replace hf := hf.more he 0 rfl onT
       refine stP hf rfl rfl rfl (pM rfl) fun a hf => cNil ?_
       refine xThenN ?_
       intro ds u hau
       refine ⟨θ,he.put0 hi hau hf rfl 17 rfl rfl,?_⟩
       exact hc
      ·intro E θ a w hD hi hp he hc
       have hf := he.h0
       replace hf := hf.more he 4 rfl onT
       refine stP hf rfl rfl rfl (pM rfl) fun a hf => cNil ?_
       refine xThenN ?_
       intro ds u hau
       refine ⟨θ,he.put0 hi hau hf rfl 18 rfl rfl,?_⟩
       exact hc
      ·intro E θ a w hD hi hp he hc
       have hf := he.h0
       replace hf := hf.more he 3 rfl onT
       refine stP hf rfl rfl rfl (pM rfl) fun a hf => cNil ?_
       refine xThenN ?_
       intro ds u hau
       refine ⟨θ,he.put0 hi hau hf rfl 19 rfl rfl,?_⟩
       exact hc
      ·intro E θ a w hD hi hp he hc
       have e13 := hp.of (k := 13) rfl
       have e14 := hp.of (k := 14) rfl
       have hf := he.h0
       replace hf := hf.more he 18 rfl (onP e13)
       replace hf := hf.more he 19 rfl (onP e14)
       refine stP hf rfl rfl rfl (pIA Try.underlying44 sz_50 rfl rfl qa_1) fun a hf => cNil ?_
       refine xThenN ?_
       intro ds u hau
       refine ⟨θ,he.put0 hi hau hf rfl 20 rfl rfl,?_⟩
       exact hc
      ·intro E θ a w hD hi hp he hc
       have e15 := hp.of (k := 15) rfl
       have hf := he.h0
       replace hf := hf.more he 20 rfl (onP e15)
       refine stP hf rfl rfl rfl (pFA fa_50_0 rfl) fun a hf => cNil ?_
       refine xThenN ?_
       intro ds u hau
       refine ⟨θ,he.put0 hi hau hf rfl 21 rfl rfl,?_⟩
       exact hc
      ·intro E θ a w hD hi hp he hc
       have e16 := hp.of (k := 16) rfl
       have hf := he.h0
       replace hf := hf.more he 21 rfl (onP e16)
       refine stE hf hc rfl rfl rfl (eLd1 sc_3 rfl (cell_row (sz := 2) (i := place_1.toNat) (j := 0) m3 qr_1 rfl)) fun a w hf hc => cNil ?_
       refine xThenN ?_
       intro ds u hau
       refine ⟨θ,he.put0 hi hau hf rfl 22 rfl rfl,?_⟩
       exact hc
      ·intro E θ a w hD hi hp he hc
       have e12 := hp.of (k := 12) rfl
       have e17 := hp.of (k := 17) rfl
       have hf := he.h0
       replace hf := hf.more he 17 rfl (onP e12)
       replace hf := hf.more he 22 rfl (onP e17)
       refine stP hf rfl rfl rfl (pSub rfl rfl) fun a hf => cNil ?_
       refine xThenN ?_
       intro ds u hau
       refine ⟨θ,he.put0 hi hau hf rfl 23 rfl rfl,?_⟩
       exact hc
      ·intro E θ a w hD hi hp he hc
       have e11 := hp.of (k := 11) rfl
       have e18 := hp.of (k := 18) rfl
       have hf := he.h0
       replace hf := hf.more he 16 rfl (onP e11)
       replace hf := hf.more he 23 rfl (onP e18)
       refine stE hf hc rfl rfl rfl (eC (v := .agg #[.int .i64 r_3.N,.int .i64 r_3.D]) (vs := [.slice r_Rating_p r.Rating.length r_Rating_c,.int .i64 (W (stage - e_2.Lo))]) (caps := []) en_70 rfl rfl rfl rfl (fun w hc => ref05_flow_ok r.Rating (W (stage - e_2.Lo)) h_r_Rating hc hr_3)) fun a w hf hc => cNil ?_
       refine xThenN ?_
       intro ds u hau
       refine ⟨θ,he.put0 hi hau hf rfl 24 rfl rfl,?_⟩
       exact hc
      ·intro E θ a w hD hi hp he hc
       have e22 := hD.f 0 rfl hi
       try dsimp only at hc
       rw [hi,e22] at hc
       have hf := he.h0
       refine stAl (cs := [.int .i64 0,.int .i64 0]) hf hc rfl rfl zr_37 rfl fun b_3 a w hf hc => cNil ?_
       refine xThenN ?_
       intro ds u hau
       replace hc := hc.drop k2
       replace hc := hc.pick k0
       replace hc := hc.pick k1
       refine ⟨(setT θ 160 ⟨b_3,none,0⟩),he.put hi hau hf rfl [] trivial ⟨qq,qq,qq,qq,qq,qq,qq,qq,qq,qq,qq,qq,qq,qq,qq,qq,qq,qq,qq,qq,qq,qq,qq,qq,qq,qq,qq,trivial⟩,?_⟩
       try dsimp only
       rw [updE_self E 20,updE_fls 20 e22 rfl]
       exact hc
      ·intro E θ a w hD hi hp he hc
       have e23 := hD.f 1 rfl hi
       try dsimp only at hc
       rw [hi,e23] at hc
       have hf := he.h0
       refine stAl (cs := [.int .i64 0,.int .i64 0]) hf hc rfl rfl zr_37 rfl fun b_4 a w hf hc => cNil ?_
       refine xThenN ?_
       intro ds u hau
       replace hc := hc.drop k1
       refine ⟨(setT θ 168 ⟨b_4,none,0⟩),he.put hi hau hf rfl [] trivial ⟨qq,qq,qq,qq,qq,qq,qq,qq,qq,qq,qq,qq,qq,qq,qq,qq,qq,qq,qq,qq,qq,qq,qq,qq,qq,qq,qq,trivial⟩,?_⟩
       try dsimp only
       rw [updE_self E 21,updE_fls 21 e23 rfl]
       exact hc
      ·intro E θ a w hD hi hp he hc
       have e9 := hp.of (k := 9) rfl
       have e20 := hp.of (k := 20) rfl
       try dsimp only at hc
       rw [e20,hi] at hc
       have hf := he.h0
       replace hf := hf.more he 14 rfl (onP e9)
       replace hf := hf.more he 25 rfl (onP e20)
       refine stSt (vs := [.int .i64 r_2.N,.int .i64 r_2.D]) hf hc rfl rfl rfl rfl sz_37 rfl rfl u1 fun w hc => cNil ?_
       refine xThenN ?_
       intro ds u hau
       refine ⟨θ,he.stay0 hi hau hf rfl,?_⟩
       try dsimp only
       rw [updE_tru 22 e20,updE_self E 22]
       exact hc
      ·intro E θ a w hD hi hp he hc
       have e19 := hp.of (k := 19) rfl
       have e21 := hp.of (k := 21) rfl
       try dsimp only at hc
       rw [e21,hi] at hc
       have hf := he.h0
       replace hf := hf.more he 24 rfl (onP e19)
       replace hf := hf.more he 26 rfl (onP e21)
       refine stSt (vs := [.int .i64 r_3.N,.int .i64 r_3.D]) hf hc rfl rfl rfl rfl sz_37 rfl rfl u0 fun w hc => cNil ?_
       refine xThenN ?_
       intro ds u hau
       refine ⟨θ,he.stay0 hi hau hf rfl,?_⟩
       try dsimp only
       rw [updE_tru 23 e21,updE_self E 23]
       exact hc
      ·intro E θ a w hall he hc
       have hf := he.h0
       have e20 := hall 20 rfl
       have e21 := hall 21 rfl
       have e22 := hall 22 rfl
       have e23 := hall 23 rfl
       replace hf := hf.more he 26 rfl (onP e21)
       replace hf := hf.more he 25 rfl (onP e20)
       replace hf := hf.more he 2 rfl (onT)
       try dsimp only at hc
       rw [e20,e21,e22,e23] at hc
       exact ⟨(θ 160).b,(θ 168).b,hf.keep ⟨rfl,rfl,rfl,trivial⟩,hc⟩
      rintro a w ⟨b_5,b_6,hf,hc⟩
      refine h19 _ _ ?_
      refine wp_seq_k fun K20 h20 => cReg ?_
      refine stP hf rfl rfl rfl (pFA fa_37_0 rfl) fun a hf => stE hf hc rfl rfl rfl (eLd1 sc_3 rfl (cell_box m0 rfl)) fun a w hf hc => stP hf rfl rfl rfl (pFA fa_37_1 rfl) fun a hf => stE hf hc rfl rfl rfl (eLd1 sc_3 rfl (cell_box m0 rfl)) fun a w hf hc => ?_
      obtain ⟨un,hun,hF⟩ := bnd_some hF
      refine stP hf rfl rfl rfl (pQuo rfl rfl (nz_spec hun)) fun a hf => stP hf rfl rfl rfl (pA rfl) fun a hf => cNil ?_
      refine h20 _ _ ?_
      refine wp_seq_k fun K21 h21 => ?_
      have hj21 : ∀ (up : Int) a w,Has 137 a [(8,.pointer (some ⟨b_2,0,none⟩)),(16,.pointer (some ⟨b_5,0,none⟩)),(18,.int .i64 up)] → Ctx G (.box b_5 [.int .i64 r_2.N,.int .i64 r_2.D] 37::.box b_2 [.int .i64 0,.int .i64 0] 50::Lf) w → ref05_Between_j21 N r_2 up = some res → K21 a w := by
       repeat (clear hF)
       repeat (clear hc)
       repeat (clear hf)
       intro up a w hf hc hF
       unfold ref05_Between_j21 at hF
       refine h21 _ _ ?_
       refine wp_seq_k fun K22 h22 => cReg ?_
       refine stP hf rfl rfl rfl (pFA fa_37_0 rfl) fun a hf => stE hf hc rfl rfl rfl (eLd1 sc_3 rfl (cell_box m0 rfl)) fun a w hf hc => stP hf rfl rfl rfl (pFA fa_37_1 rfl) fun a hf => stE hf hc rfl rfl rfl (eLd1 sc_3 rfl (cell_box m0 rfl)) fun a w hf hc => ?_
       obtain ⟨un_1,hun_1,hF⟩ := bnd_some hF
       refine stP hf rfl rfl rfl (pQuo rfl rfl (nz_spec hun_1)) fun a hf => stP hf rfl rfl rfl (pM rfl) fun a hf => stP hf rfl rfl rfl (pBuildS (cells := [.int .i64 (W (r_2.N.tdiv r_2.D)),.int .i64 up]) bt_50 rfl rfl) fun a hf => stSt (vs := [.int .i64 (W (r_2.N.tdiv r_2.D)),.int .i64 up]) hf hc rfl rfl rfl rfl sz_50 rfl rfl u1 fun w hc => stP hf rfl rfl rfl (pA rfl) fun a hf => cNil ?_
       refine h22 _ _ ?_
       refine wp_ret ?_
       obtain rfl := Option.some.inj hF
       replace hc := hc.drop k0
       exact fnOut2 (by simp) rfl Try.results30 hf hc (rv_cellN (vs := [.int .i64 (W (r_2.N.tdiv r_2.D)),.int .i64 up]) ag_50 rfl rfl (cells_box (n := 2) m0 rfl)) (show look _ 9 = _ from rfl) ⟨rfl,(hc.drop k0)⟩
      refine wp_seq_k fun K23 h23 => cReg ?_
      refine stP hf rfl rfl rfl (pM rfl) fun a hf => stP hf rfl rfl rfl (pFA fa_37_1 rfl) fun a hf => stE hf hc rfl rfl rfl (eLd1 sc_3 rfl (cell_box m0 rfl)) fun a w hf hc => stP hf rfl rfl rfl (pMul rfl rfl) fun a hf => stP hf rfl rfl rfl (pFA fa_37_0 rfl) fun a hf => stE hf hc rfl rfl rfl (eLd1 sc_3 rfl (cell_box m0 rfl)) fun a w hf hc => stP hf rfl rfl rfl (pLt rfl rfl) fun a hf => cNil ?_
      refine h23 _ _ ?_
      refine cCond (b := (decide ((W ((W (r_3.N.tdiv r_3.D)) * r_3.D)) < r_3.N))) hf rfl (fun hb => ?_) (fun hb => ?_)
      ·replace hF := condT hb hF
       clear hb
       refine cReg ?_
       refine stP hf rfl rfl rfl (pM rfl) fun a hf => stP hf rfl rfl rfl (pAdd rfl rfl) fun a hf => stP hf rfl rfl rfl (pA rfl) fun a hf => cNil ?_
       replace hc := hc.drop k5
       replace hc := hc.drop k3
       replace hc := hc.drop k2
       replace hc := hc.drop k0
       exact hj21 (W ((W (r_3.N.tdiv r_3.D)) + 1)) _ _  (hf.keep ⟨rfl,rfl,rfl,trivial⟩) hc hF
      ·replace hF := condF hb hF
       clear hb
       refine wp_skip ?_
       replace hc := hc.drop k5
       replace hc := hc.drop k3
       replace hc := hc.drop k2
       replace hc := hc.drop k0
       exact hj21 (W (r_3.N.tdiv r_3.D)) _ _  (hf.keep ⟨rfl,rfl,rfl,trivial⟩) hc hF
    refine wp_seq_k fun K24 h24 => cReg ?_
    refine stP hf rfl rfl rfl (pM rfl) fun a hf => stP hf rfl rfl rfl (pLt rfl rfl) fun a hf => cNil ?_
    refine h24 _ _ ?_
    refine cCond (b := (decide (place < 0))) hf rfl (fun hb => ?_) (fun hb => ?_)
    ·replace hF := condT hb hF
     clear hb
     refine wp_seq_k fun K25 h25 => cReg ?_
     refine stP hf rfl rfl rfl (pM rfl) fun a hf => stP hf rfl rfl rfl (pLenS Try.underlying44 rfl) fun a hf => stP hf rfl rfl rfl (pA rfl) fun a hf => cNil ?_
     refine h25 _ _ ?_
     refine cReg ?_
     refine stP hf rfl rfl rfl (pM rfl) fun a hf => stP hf rfl rfl rfl (pBuildS (cells := [.int .i64 (-300),.int .i64 300]) bt_50 rfl rfl) fun a hf => stBS (rows := ([(⟨(-300),300⟩ : api_Span)] : List api_Span).map enc_api_Span) (vs := [(0,.agg #[.int .i64 (-300),.int .i64 300])]) hf hc rfl rfl sl_44 rfl ⟨rfl,rfl,rfl,trivial⟩ rfl rfl fun b_7 a w hf hc => ?_
     obtain ⟨un_2,hun_2,hF⟩ := bnd_some hF
     refine stApm (xs := days) (ys := ([(⟨(-300),300⟩ : api_Span)] : List api_Span)) hf hc rfl rfl sl_44 rfl rfl rfl rfl rfl one_enc_api_Span (src_row hc m0) (fun _ _ => u1) (by simpa using room_spec hun_2) fun p_6 c_6 a w hf hc => stP hf rfl rfl rfl (pA rfl) fun a hf => cNil ?_
     replace hc := hc.drop k2
     replace hc := hc.drop k0
     exact hj14 (days ++ [(⟨(-300),300⟩ : api_Span)]) ((days.length : Nat) : Int) p_6 c_6 _ _  (hf.keep ⟨rfl,rfl,rfl,rfl,rfl,rfl,trivial⟩) hc hF
    ·replace hF := condF hb hF
     clear hb
     refine wp_skip ?_
     replace hc := hc.drop k1
     exact hj14 days place p_3 c_3 _ _  (hf.keep ⟨rfl,rfl,rfl,rfl,rfl,rfl,trivial⟩) hc hF
   have ho13 : ∀ r,x13 = .out r → r = res := by
    rintro r rfl
    exact Option.some.inj hF
   replace hc := hc.nilRow 50 2
   refine cLoop N (loopW (S := S13) (x := x13) ?_ N (([] : List api_Span),(-1),0) _ _ ⟨p_1,c_1,none,0,hf.keep ⟨rfl,rfl,rfl,rfl,rfl,rfl,rfl,rfl,rfl,trivial⟩,hc⟩ hx13)
   clear hF hf hc
   rintro ⟨days,place,i_1⟩ st13 a w KB13 ⟨p_2,c_2,p_3,c_3,hf,hc⟩ hF hfin13 hK13
   unfold ref05_Between_b13 at hF
   refine wp_seq_k fun K26 h26 => wp_seq_k fun K27 h27 => cReg ?_
   refine stP hf rfl rfl rfl (pM rfl) fun a hf => stP hf rfl rfl rfl (pM rfl) fun a hf => stP hf rfl rfl rfl (pLenS Try.underlying44 rfl) fun a hf => stP hf rfl rfl rfl (pLt rfl rfl) fun a hf => cNil ?_
   refine h27 _ _ ?_
   refine cCond (b := (decide (i_1 < ((r_0.1.length : Nat) : Int)))) hf rfl (fun hb => ?_) (fun hb => ?_)
   ·replace hF := condT hb hF
    clear hb
    refine wp_skip ?_
    refine h26 _ _ ?_
    refine wp_seq_k fun K28 h28 => wp_block ?_
    refine wp_seq_k fun K29 h29 => ?_
    have hj29 : ∀ (days_2 : List api_Span) (place_2 : Int) (p_7 : Option Addr) (c_7 : Nat) a w,Has 137 a [(1,.int .i64 most),(2,.int .i64 day),(3,.int .i64 stage),(4,.pointer (some ⟨b_1,0,none⟩)),(8,.pointer (some ⟨b_2,0,none⟩)),(10,.slice p_2 r_0.1.length c_2),(12,.slice p_7 days_2.length c_7),(13,.int .i64 place_2),(14,.int .i64 i_1)] → Ctx G (.row p_7 c_7 (days_2.map enc_api_Span) 50 2::.row p_2 c_2 (r_0.1.map enc_api_Span) 50 2::.box b_2 [.int .i64 0,.int .i64 0] 50::.box b_1 [.slice r_Rating_p r.Rating.length r_Rating_c,.slice r_Gaugings_p r.Gaugings.length r_Gaugings_c] 34::Lf) w → ref05_Between_j29 N r_0 i_1 days_2 place_2 = some st13 → K29 a w := by
     repeat (clear hF)
     repeat (clear hc)
     repeat (clear hf)
     intro days_2 place_2 p_7 c_7 a w hf hc hF
     unfold ref05_Between_j29 at hF
     refine h29 _ _ ?_
     refine cReg ?_
     refine stP hf rfl rfl rfl (pM rfl) fun a hf => stP hf rfl rfl rfl (pM rfl) fun a hf => stP hf rfl rfl rfl (pM rfl) fun a hf => ?_
     obtain ⟨e_3,he_3,hF⟩ := bnd_some hF
     obtain ⟨g_1,rfl,qa_2,qr_2⟩ := row_atm hc m1 he_3
     refine stP hf rfl rfl rfl (pIA Try.underlying44 sz_50 rfl rfl qa_2) fun a hf => stE hf hc rfl rfl rfl (eLdN (vs := [.int .i64 e_3.Lo,.int .i64 e_3.Hi]) ag_50 rfl rfl (cells_rw (sz := 2) (i := i_1.toNat) m1 qr_2 (n := 2) (o' := 0) rfl)) fun a w hf hc => stBS (rows := ([e_3] : List api_Span).map enc_api_Span) (vs := [(0,.agg #[.int .i64 e_3.Lo,.int .i64 e_3.Hi])]) hf hc rfl rfl sl_44 rfl ⟨rfl,rfl,rfl,trivial⟩ rfl rfl fun b_8 a w hf hc => ?_
     obtain ⟨un_3,hun_3,hF⟩ := bnd_some hF
     refine stApm (xs := days_2) (ys := ([e_3] : List api_Span)) hf hc rfl rfl sl_44 rfl rfl rfl rfl rfl one_enc_api_Span (src_row hc m0) (fun _ _ => u1) (by simpa using room_spec hun_3) fun p_8 c_8 a w hf hc => stP hf rfl rfl rfl (pA rfl) fun a hf => cNil ?_
     refine h28 _ _ ?_
     refine cReg ?_
     refine stP hf rfl rfl rfl (pM rfl) fun a hf => stP hf rfl rfl rfl (pAdd rfl rfl) fun a hf => stP hf rfl rfl rfl (pA rfl) fun a hf => cNil ?_
     replace hc := hc.drop k0
     exact hK13 ((days_2 ++ [e_3]),place_2,W (i_1 + 1)) _ _ (Option.some.inj hF).symm ⟨(some ⟨g_1,0,none⟩),c_2,p_8,c_8,hf.keep ⟨rfl,rfl,rfl,rfl,rfl,rfl,rfl,rfl,rfl,trivial⟩,hc⟩
    refine wp_seq_k fun K30 h30 => cReg ?_
    refine stP hf rfl rfl rfl (pM rfl) fun a hf => stP hf rfl rfl rfl (pLt rfl rfl) fun a hf => stP hf rfl rfl rfl (pM rfl) fun a hf => ?_
    obtain ⟨t_1,ht_1,hF⟩ := bnd_some hF
    refine stCut 9 (fun a w => Has 137 a [(1,.int .i64 most),(2,.int .i64 day),(3,.int .i64 stage),(4,.pointer (some ⟨b_1,0,none⟩)),(8,.pointer (some ⟨b_2,0,none⟩)),(10,.slice p_2 r_0.1.length c_2),(12,.slice p_3 days.length c_3),(13,.int .i64 place),(14,.int .i64 i_1),(45,.int .i64 place),(46,.bool (decide (place < 0))),(47,.bool (decide (place < 0))),(56,.bool t_1)] ∧ Ctx G (.row p_3 c_3 (days.map enc_api_Span) 50 2::.row p_2 c_2 (r_0.1.map enc_api_Span) 50 2::.box b_2 [.int .i64 0,.int .i64 0] 50::.box b_1 [.slice r_Rating_p r.Rating.length r_Rating_c,.slice r_Gaugings_p r.Gaugings.length r_Gaugings_c] 34::Lf) w) ?_ ?_
    ·cases hb : (decide (place < 0))
     ·rw [hb] at hf
      have hF := condF hb ht_1
      obtain rfl := Option.some.inj hF
      refine stS hf rfl rfl rfl fun a hf => stS hf rfl rfl rfl fun a hf => stS hf rfl rfl rfl fun a hf => stS hf rfl rfl rfl fun a hf => stS hf rfl rfl rfl fun a hf => stS hf rfl rfl rfl fun a hf => stS hf rfl rfl rfl fun a hf => stS hf rfl rfl rfl fun a hf => stP hf rfl rfl rfl (pPf rfl rfl) fun a hf => cNil ⟨hf.keep ⟨rfl,rfl,rfl,rfl,rfl,rfl,rfl,rfl,rfl,rfl,rfl,rfl,rfl,trivial⟩,hc⟩
     ·rw [hb] at hf
      have hF := condT hb ht_1
      refine stP hf rfl rfl rfl (pFA fa_34_1 rfl) fun a hf => stE hf hc rfl rfl rfl (eLd1 sc_32 rfl (cell_box m3 rfl)) fun a w hf hc => stP hf rfl rfl rfl (pM rfl) fun a hf => ?_
      obtain ⟨e_4,he_4,hF⟩ := bnd_some hF
      obtain ⟨b_9,o,qa_3,qp⟩ := h_r_Gaugings.atm he_4
      refine stP hf rfl rfl rfl (pIA Try.underlying32 sz_129 rfl rfl qa_3) fun a hf => stP hf rfl rfl rfl (pFA fa_129_0 rfl) fun a hf => stE hf hc rfl rfl rfl (eLd1 sc_3 rfl (cell_pc (j := 0) qp rfl)) fun a w hf hc => stP hf rfl rfl rfl (pM rfl) fun a hf => stP hf rfl rfl rfl (pGe rfl rfl) fun a hf => stP hf rfl rfl rfl (pPt rfl rfl) fun a hf => ?_
      obtain rfl := Option.some.inj hF
      exact cNil ⟨hf.keep ⟨rfl,rfl,rfl,rfl,rfl,rfl,rfl,rfl,rfl,rfl,rfl,rfl,rfl,trivial⟩,hc⟩
    intro a w ⟨hf,hc⟩
    refine cNil ?_
    refine h30 _ _ ?_
    refine cCond (b := t_1) hf rfl (fun hb => ?_) (fun hb => ?_)
    ·replace hF := condT hb hF
     clear hb
     refine wp_seq_k fun K31 h31 => cReg ?_
     refine stP hf rfl rfl rfl (pM rfl) fun a hf => stP hf rfl rfl rfl (pLenS Try.underlying44 rfl) fun a hf => stP hf rfl rfl rfl (pA rfl) fun a hf => cNil ?_
     refine h31 _ _ ?_
     refine wp_seq_k fun K32 h32 => cReg ?_
     refine stP hf rfl rfl rfl (pFA fa_34_1 rfl) fun a hf => stE hf hc rfl rfl rfl (eLd1 sc_32 rfl (cell_box m3 rfl)) fun a w hf hc => stP hf rfl rfl rfl (pM rfl) fun a hf => ?_
     obtain ⟨e_5,he_5,hF⟩ := bnd_some hF
     obtain ⟨b_10,o_1,qa_4,qp_1⟩ := h_r_Gaugings.atm he_5
     refine stP hf rfl rfl rfl (pIA Try.underlying32 sz_129 rfl rfl qa_4) fun a hf => stP hf rfl rfl rfl (pFA fa_129_0 rfl) fun a hf => stE hf hc rfl rfl rfl (eLd1 sc_3 rfl (cell_pc (j := 0) qp_1 rfl)) fun a w hf hc => stP hf rfl rfl rfl (pM rfl) fun a hf => stP hf rfl rfl rfl (pGt rfl rfl) fun a hf => cNil ?_
     refine h32 _ _ ?_
     refine cCond (b := (decide (day < e_5.Day))) hf rfl (fun hb => ?_) (fun hb => ?_)
     ·replace hF := condT hb hF
      clear hb
      refine cReg ?_
      refine stP hf rfl rfl rfl (pM rfl) fun a hf => stP hf rfl rfl rfl (pBuildS (cells := [.int .i64 (-300),.int .i64 300]) bt_50 rfl rfl) fun a hf => stBS (rows := ([(⟨(-300),300⟩ : api_Span)] : List api_Span).map enc_api_Span) (vs := [(0,.agg #[.int .i64 (-300),.int .i64 300])]) hf hc rfl rfl sl_44 rfl ⟨rfl,rfl,rfl,trivial⟩ rfl rfl fun b_11 a w hf hc => ?_
      obtain ⟨un_4,hun_4,hF⟩ := bnd_some hF
      refine stApm (xs := days) (ys := ([(⟨(-300),300⟩ : api_Span)] : List api_Span)) hf hc rfl rfl sl_44 rfl rfl rfl rfl rfl one_enc_api_Span (src_row hc m0) (fun _ _ => u1) (by simpa using room_spec hun_4) fun p_9 c_9 a w hf hc => stP hf rfl rfl rfl (pA rfl) fun a hf => cNil ?_
      replace hc := hc.drop k0
      exact hj29 (days ++ [(⟨(-300),300⟩ : api_Span)]) ((days.length : Nat) : Int) p_9 c_9 _ _  (hf.keep ⟨rfl,rfl,rfl,rfl,rfl,rfl,rfl,rfl,rfl,trivial⟩) hc hF
     ·replace hF := condF hb hF
      clear hb
      refine wp_skip ?_
      exact hj29 days ((days.length : Nat) : Int) p_3 c_3 _ _  (hf.keep ⟨rfl,rfl,rfl,rfl,rfl,rfl,rfl,rfl,rfl,trivial⟩) hc hF
    ·replace hF := condF hb hF
     clear hb
     refine wp_skip ?_
     exact hj29 days place p_3 c_3 _ _  (hf.keep ⟨rfl,rfl,rfl,rfl,rfl,rfl,rfl,rfl,rfl,trivial⟩) hc hF
   ·replace hF := condF hb hF
    clear hb
    refine wp_exit ?_
    refine xThen ?_
    refine xThen ?_
    have he := Option.some.inj hF
    rw [← he] at hfin13
    refine cHit ?_
    exact hr13 _ _ _ hfin13 ⟨p_2,c_2,p_3,c_3,hf.keep ⟨rfl,rfl,rfl,rfl,rfl,rfl,rfl,rfl,rfl,trivial⟩,hc⟩

def kit_Same_shift_Mark_b7 (N : Nat) (a_ : List shift_Mark) (b_ : List shift_Mark) (i_1 : Int) : Option (Step (Int) (Bool)) :=
 cond (decide (i_1 < ((a_.length : Nat) : Int)))
 (Option.bind (getI a_ i_1) fun e_1 =>
 Option.bind (getI b_ i_1) fun e_2 =>
 cond (!(e_1.Stage == e_2.Stage && e_1.Flow == e_2.Flow))
 (some (.ret false))
 (some (.cont (W (i_1 + 1)))))
 (some (.brk i_1))
def kit_Same_shift_Mark (N : Nat) (a_ : List shift_Mark) (b_ : List shift_Mark) : Option (Bool) :=
 cond (((a_.length : Nat) : Int) != ((b_.length : Nat) : Int))
 (some false)
 (Option.bind (loopO (fun s7 => kit_Same_shift_Mark_b7 N a_ b_ s7) N 0) fun x7 =>
 exK x7 (fun s7 => some true) some)
theorem kit_Same_shift_Mark_ok {N : Nat} {G : Pers} {Lf : List Ent} {w : World} (a_ : List shift_Mark) (b_ : List shift_Mark) {a__p : Option Addr} {a__c : Nat} {b__p : Option Addr} {b__c : Nat} (h_a_ : Rd G 2 a__p a__c (a_.map enc_shift_Mark)) (h_b_ : Rd G 2 b__p b__c (b_.map enc_shift_Mark)) (hc : Ctx G (Lf) w) {res : Bool} (hF : kit_Same_shift_Mark N a_ b_ = some res) : Calls Try.prog 74 #[.slice a__p a_.length a__c,.slice b__p b_.length b__c] w (fun e w => e = .returned (.bool res) ∧ Ctx G (Lf) w) := by
 unfold kit_Same_shift_Mark at hF
 refine fnIn (args := [.slice a__p a_.length a__c,.slice b__p b_.length b__c]) Try.func74 rfl Try.ntmps74 rfl fun a hf => wp_seq_k fun K1 h1 => cReg ?_
 refine stP hf rfl rfl rfl (pA rfl) fun a hf => cNil ?_
 refine h1 _ _ ?_
 refine wp_seq_k fun K2 h2 => wp_seq_k fun K3 h3 => cReg ?_
 refine stP hf rfl rfl rfl (pM rfl) fun a hf => stP hf rfl rfl rfl (pLenS Try.underlying22 rfl) fun a hf => stP hf rfl rfl rfl (pM rfl) fun a hf => stP hf rfl rfl rfl (pLenS Try.underlying22 rfl) fun a hf => stP hf rfl rfl rfl (pNe rfl rfl) fun a hf => cNil ?_
 refine h3 _ _ ?_
 refine cCond (b := (((a_.length : Nat) : Int) != ((b_.length : Nat) : Int))) hf rfl (fun hb => ?_) (fun hb => ?_)
 ·replace hF := condT hb hF
  clear hb
  refine wp_seq_k fun K4 h4 => cReg ?_
  refine stP hf rfl rfl rfl (pA rfl) fun a hf => cNil ?_
  refine h4 _ _ ?_
  refine wp_ret ?_
  refine xThenR ?_
  obtain rfl := Option.some.inj hF
  exact fnOut1 (by simp) rfl Try.results74 hf hc (show look _ 4 = _ from rfl) ⟨rfl,hc⟩
 ·replace hF := condF hb hF
  clear hb
  refine wp_skip ?_
  refine h2 _ _ ?_
  refine wp_seq_k fun K5 h5 => wp_seq_k fun K6 h6 => cReg ?_
  refine stP hf rfl rfl rfl (pA rfl) fun a hf => cNil ?_
  refine h6 _ _ ?_
  refine wp_block ?_
  obtain ⟨x7,hx7,hF⟩ := bnd_some hF
  let S7 : Int → Act → World → Prop := (fun (zz : Int) a w => Has 26 a [(0,.slice a__p a_.length a__c),(1,.slice b__p b_.length b__c),(5,.int .i64 zz)] ∧ Ctx G (Lf) w)
  have hr7 : ∀ (zz : Int) a w,x7 = .go zz → S7 zz a w → K5 a w := by
   rintro i_1 a w rfl ⟨hf,hc⟩
   replace hF := exK_go hF
   refine h5 _ _ ?_
   refine wp_seq_k fun K8 h8 => cReg ?_
   refine stP hf rfl rfl rfl (pA rfl) fun a hf => cNil ?_
   refine h8 _ _ ?_
   refine wp_ret ?_
   obtain rfl := Option.some.inj hF
   exact fnOut1 (by simp) rfl Try.results74 hf hc (show look _ 4 = _ from rfl) ⟨rfl,hc⟩
  have ho7 : ∀ r,x7 = .out r → r = res := by
   rintro r rfl
   exact Option.some.inj hF
  refine cLoop N (loopW (S := S7) (x := x7) ?_ N 0 _ _ ⟨hf.keep ⟨rfl,rfl,rfl,trivial⟩,hc⟩ hx7)
  clear hF hf hc
  rintro i_1 st7 a w KB7 ⟨hf,hc⟩ hF hfin7 hK7
  unfold kit_Same_shift_Mark_b7 at hF
  refine wp_seq_k fun K9 h9 => wp_seq_k fun K10 h10 => cReg ?_
  refine stP hf rfl rfl rfl (pM rfl) fun a hf => stP hf rfl rfl rfl (pM rfl) fun a hf => stP hf rfl rfl rfl (pLenS Try.underlying22 rfl) fun a hf => stP hf rfl rfl rfl (pLt rfl rfl) fun a hf => cNil ?_
  refine h10 _ _ ?_
  refine cCond (b := (decide (i_1 < ((a_.length : Nat) : Int)))) hf rfl (fun hb => ?_) (fun hb => ?_)
  ·replace hF := condT hb hF
   clear hb
   refine wp_skip ?_
   refine h9 _ _ ?_
   refine wp_seq_k fun K11 h11 => wp_block ?_
   refine wp_seq_k fun K12 h12 => ?_
   obtain ⟨e_1,he_1,hF⟩ := bnd_some hF
   obtain ⟨b_1,o,qa,qp⟩ := h_a_.atm he_1
   obtain ⟨e_2,he_2,hF⟩ := bnd_some hF
   obtain ⟨b_2,o_1,qa_1,qp_1⟩ := h_b_.atm he_2
   refine cQ hc follows_mx (by kernel_rfl) ?_
   refine qE hf rfl rfl rfl (Pu.ev (pM rfl)) fun a hf => qE hf rfl rfl rfl (Pu.ev (pM rfl)) fun a hf => qE hf rfl rfl rfl (Pu.ev (pIA Try.underlying22 sz_77 rfl rfl qa)) fun a hf => qE hf rfl rfl rfl (eLdN (vs := [.int .i64 e_1.Stage,.int .i64 e_1.Flow]) ag_77 rfl rfl (cells_pc qp (n := 2) (o' := 0) rfl)) fun a hf => qE hf rfl rfl rfl (Pu.ev (pM rfl)) fun a hf => qE hf rfl rfl rfl (Pu.ev (pM rfl)) fun a hf => qE hf rfl rfl rfl (Pu.ev (pIA Try.underlying22 sz_77 rfl rfl qa_1)) fun a hf => qE hf rfl rfl rfl (eLdN (vs := [.int .i64 e_2.Stage,.int .i64 e_2.Flow]) ag_77 rfl rfl (cells_pc qp_1 (n := 2) (o' := 0) rfl)) fun a hf => qE hf rfl rfl rfl (Pu.ev (pNeA ge_77 rfl rfl (eqs_77 _ _ _ _))) fun a hf => ?_
   intro w hc
   refine h12 _ _ ?_
   refine cCond (b := (!(e_1.Stage == e_2.Stage && e_1.Flow == e_2.Flow))) hf rfl (fun hb => ?_) (fun hb => ?_)
   ·replace hF := condT hb hF
    clear hb
    refine wp_seq_k fun K13 h13 => cReg ?_
    refine stP hf rfl rfl rfl (pA rfl) fun a hf => cNil ?_
    refine h13 _ _ ?_
    refine wp_ret ?_
    refine xBlkR ?_
    refine xThenR ?_
    refine xThenR ?_
    have he := Option.some.inj hF
    rw [← he] at hfin7
    replace hF := ho7 _ hfin7
    refine xBlkR ?_
    refine xThenR ?_
    obtain rfl := hF
    exact fnOut1 (by simp) rfl Try.results74 hf hc (show look _ 4 = _ from rfl) ⟨rfl,hc⟩
   ·replace hF := condF hb hF
    clear hb
    refine wp_skip ?_
    refine h11 _ _ ?_
    refine cReg ?_
    refine stP hf rfl rfl rfl (pM rfl) fun a hf => stP hf rfl rfl rfl (pAdd rfl rfl) fun a hf => stP hf rfl rfl rfl (pA rfl) fun a hf => cNil ?_
    exact hK7 (W (i_1 + 1)) _ _ (Option.some.inj hF).symm ⟨hf.keep ⟨rfl,rfl,rfl,trivial⟩,hc⟩
  ·replace hF := condF hb hF
   clear hb
   refine wp_exit ?_
   refine xThen ?_
   refine xThen ?_
   have he := Option.some.inj hF
   rw [← he] at hfin7
   refine cHit ?_
   exact hr7 _ _ _ hfin7 ⟨hf.keep ⟨rfl,rfl,rfl,trivial⟩,hc⟩

def kit_Same_shift_Gauging_b7 (N : Nat) (a_ : List shift_Gauging) (b_ : List shift_Gauging) (i_1 : Int) : Option (Step (Int) (Bool)) :=
 cond (decide (i_1 < ((a_.length : Nat) : Int)))
 (Option.bind (getI a_ i_1) fun e_1 =>
 Option.bind (getI b_ i_1) fun e_2 =>
 cond (!(e_1.Day == e_2.Day && e_1.Stage == e_2.Stage && e_1.Flow.Lo == e_2.Flow.Lo && e_1.Flow.Hi == e_2.Flow.Hi))
 (some (.ret false))
 (some (.cont (W (i_1 + 1)))))
 (some (.brk i_1))
def kit_Same_shift_Gauging (N : Nat) (a_ : List shift_Gauging) (b_ : List shift_Gauging) : Option (Bool) :=
 cond (((a_.length : Nat) : Int) != ((b_.length : Nat) : Int))
 (some false)
 (Option.bind (loopO (fun s7 => kit_Same_shift_Gauging_b7 N a_ b_ s7) N 0) fun x7 =>
 exK x7 (fun s7 => some true) some)
theorem kit_Same_shift_Gauging_ok {N : Nat} {G : Pers} {Lf : List Ent} {w : World} (a_ : List shift_Gauging) (b_ : List shift_Gauging) {a__p : Option Addr} {a__c : Nat} {b__p : Option Addr} {b__c : Nat} (h_a_ : Rd G 4 a__p a__c (a_.map enc_shift_Gauging)) (h_b_ : Rd G 4 b__p b__c (b_.map enc_shift_Gauging)) (hc : Ctx G (Lf) w) {res : Bool} (hF : kit_Same_shift_Gauging N a_ b_ = some res) : Calls Try.prog 75 #[.slice a__p a_.length a__c,.slice b__p b_.length b__c] w (fun e w => e = .returned (.bool res) ∧ Ctx G (Lf) w) := by
 unfold kit_Same_shift_Gauging at hF
 refine fnIn (args := [.slice a__p a_.length a__c,.slice b__p b_.length b__c]) Try.func75 rfl Try.ntmps75 rfl fun a hf => wp_seq_k fun K1 h1 => cReg ?_
 refine stP hf rfl rfl rfl (pA rfl) fun a hf => cNil ?_
 refine h1 _ _ ?_
 refine wp_seq_k fun K2 h2 => wp_seq_k fun K3 h3 => cReg ?_
 refine stP hf rfl rfl rfl (pM rfl) fun a hf => stP hf rfl rfl rfl (pLenS Try.underlying23 rfl) fun a hf => stP hf rfl rfl rfl (pM rfl) fun a hf => stP hf rfl rfl rfl (pLenS Try.underlying23 rfl) fun a hf => stP hf rfl rfl rfl (pNe rfl rfl) fun a hf => cNil ?_
 refine h3 _ _ ?_
 refine cCond (b := (((a_.length : Nat) : Int) != ((b_.length : Nat) : Int))) hf rfl (fun hb => ?_) (fun hb => ?_)
 ·replace hF := condT hb hF
  clear hb
  refine wp_seq_k fun K4 h4 => cReg ?_
  refine stP hf rfl rfl rfl (pA rfl) fun a hf => cNil ?_
  refine h4 _ _ ?_
  refine wp_ret ?_
  refine xThenR ?_
  obtain rfl := Option.some.inj hF
  exact fnOut1 (by simp) rfl Try.results75 hf hc (show look _ 4 = _ from rfl) ⟨rfl,hc⟩
 ·replace hF := condF hb hF
  clear hb
  refine wp_skip ?_
  refine h2 _ _ ?_
  refine wp_seq_k fun K5 h5 => wp_seq_k fun K6 h6 => cReg ?_
  refine stP hf rfl rfl rfl (pA rfl) fun a hf => cNil ?_
  refine h6 _ _ ?_
  refine wp_block ?_
  obtain ⟨x7,hx7,hF⟩ := bnd_some hF
  let S7 : Int → Act → World → Prop := (fun (zz : Int) a w => Has 26 a [(0,.slice a__p a_.length a__c),(1,.slice b__p b_.length b__c),(5,.int .i64 zz)] ∧ Ctx G (Lf) w)
  have hr7 : ∀ (zz : Int) a w,x7 = .go zz → S7 zz a w → K5 a w := by
   rintro i_1 a w rfl ⟨hf,hc⟩
   replace hF := exK_go hF
   refine h5 _ _ ?_
   refine wp_seq_k fun K8 h8 => cReg ?_
   refine stP hf rfl rfl rfl (pA rfl) fun a hf => cNil ?_
   refine h8 _ _ ?_
   refine wp_ret ?_
   obtain rfl := Option.some.inj hF
   exact fnOut1 (by simp) rfl Try.results75 hf hc (show look _ 4 = _ from rfl) ⟨rfl,hc⟩
  have ho7 : ∀ r,x7 = .out r → r = res := by
   rintro r rfl
   exact Option.some.inj hF
  refine cLoop N (loopW (S := S7) (x := x7) ?_ N 0 _ _ ⟨hf.keep ⟨rfl,rfl,rfl,trivial⟩,hc⟩ hx7)
  clear hF hf hc
  rintro i_1 st7 a w KB7 ⟨hf,hc⟩ hF hfin7 hK7
  unfold kit_Same_shift_Gauging_b7 at hF
  refine wp_seq_k fun K9 h9 => wp_seq_k fun K10 h10 => cReg ?_
  refine stP hf rfl rfl rfl (pM rfl) fun a hf => stP hf rfl rfl rfl (pM rfl) fun a hf => stP hf rfl rfl rfl (pLenS Try.underlying23 rfl) fun a hf => stP hf rfl rfl rfl (pLt rfl rfl) fun a hf => cNil ?_
  refine h10 _ _ ?_
  refine cCond (b := (decide (i_1 < ((a_.length : Nat) : Int)))) hf rfl (fun hb => ?_) (fun hb => ?_)
  ·replace hF := condT hb hF
   clear hb
   refine wp_skip ?_
   refine h9 _ _ ?_
   refine wp_seq_k fun K11 h11 => wp_block ?_
   refine wp_seq_k fun K12 h12 => ?_
   obtain ⟨e_1,he_1,hF⟩ := bnd_some hF
   obtain ⟨b_1,o,qa,qp⟩ := h_a_.atm he_1
   obtain ⟨e_2,he_2,hF⟩ := bnd_some hF
   obtain ⟨b_2,o_1,qa_1,qp_1⟩ := h_b_.atm he_2
   refine cQ hc follows_mx (by kernel_rfl) ?_
   refine qE hf rfl rfl rfl (Pu.ev (pM rfl)) fun a hf => qE hf rfl rfl rfl (Pu.ev (pM rfl)) fun a hf => qE hf rfl rfl rfl (Pu.ev (pIA Try.underlying23 sz_71 rfl rfl qa)) fun a hf => qE hf rfl rfl rfl (eLdN (vs := [.int .i64 e_1.Day,.int .i64 e_1.Stage,.int .i64 e_1.Flow.Lo,.int .i64 e_1.Flow.Hi]) ag_71 rfl rfl (cells_pc qp (n := 4) (o' := 0) rfl)) fun a hf => qE hf rfl rfl rfl (Pu.ev (pM rfl)) fun a hf => qE hf rfl rfl rfl (Pu.ev (pM rfl)) fun a hf => qE hf rfl rfl rfl (Pu.ev (pIA Try.underlying23 sz_71 rfl rfl qa_1)) fun a hf => qE hf rfl rfl rfl (eLdN (vs := [.int .i64 e_2.Day,.int .i64 e_2.Stage,.int .i64 e_2.Flow.Lo,.int .i64 e_2.Flow.Hi]) ag_71 rfl rfl (cells_pc qp_1 (n := 4) (o' := 0) rfl)) fun a hf => qE hf rfl rfl rfl (Pu.ev (pNeA ge_71 rfl rfl (eqs_71 _ _ _ _ _ _ _ _))) fun a hf => ?_
   intro w hc
   refine h12 _ _ ?_
   refine cCond (b := (!(e_1.Day == e_2.Day && e_1.Stage == e_2.Stage && e_1.Flow.Lo == e_2.Flow.Lo && e_1.Flow.Hi == e_2.Flow.Hi))) hf rfl (fun hb => ?_) (fun hb => ?_)
   ·replace hF := condT hb hF
    clear hb
    refine wp_seq_k fun K13 h13 => cReg ?_
    refine stP hf rfl rfl rfl (pA rfl) fun a hf => cNil ?_
    refine h13 _ _ ?_
    refine wp_ret ?_
    refine xBlkR ?_
    refine xThenR ?_
    refine xThenR ?_
    have he := Option.some.inj hF
    rw [← he] at hfin7
    replace hF := ho7 _ hfin7
    refine xBlkR ?_
    refine xThenR ?_
    obtain rfl := hF
    exact fnOut1 (by simp) rfl Try.results75 hf hc (show look _ 4 = _ from rfl) ⟨rfl,hc⟩
   ·replace hF := condF hb hF
    clear hb
    refine wp_skip ?_
    refine h11 _ _ ?_
    refine cReg ?_
    refine stP hf rfl rfl rfl (pM rfl) fun a hf => stP hf rfl rfl rfl (pAdd rfl rfl) fun a hf => stP hf rfl rfl rfl (pA rfl) fun a hf => cNil ?_
    exact hK7 (W (i_1 + 1)) _ _ (Option.some.inj hF).symm ⟨hf.keep ⟨rfl,rfl,rfl,trivial⟩,hc⟩
  ·replace hF := condF hb hF
   clear hb
   refine wp_exit ?_
   refine xThen ?_
   refine xThen ?_
   have he := Option.some.inj hF
   rw [← he] at hfin7
   refine cHit ?_
   exact hr7 _ _ _ hfin7 ⟨hf.keep ⟨rfl,rfl,rfl,trivial⟩,hc⟩

def law05_same (N : Nat) (a_ : shift_Record) (b_ : shift_Record) : Option (Bool) :=
 Option.bind (kit_Same_shift_Mark N a_.Rating b_.Rating) fun r =>
 Option.bind (cond r (Option.bind (kit_Same_shift_Gauging N a_.Gaugings b_.Gaugings) fun r_1 =>
 some r_1) (some false)) fun t_1 =>
 some t_1
theorem law05_same_ok {N : Nat} {G : Pers} {Lf : List Ent} {w : World} (a_ : shift_Record) (b_ : shift_Record) {a__Rating_p : Option Addr} {a__Rating_c : Nat} {a__Gaugings_p : Option Addr} {a__Gaugings_c : Nat} {b__Rating_p : Option Addr} {b__Rating_c : Nat} {b__Gaugings_p : Option Addr} {b__Gaugings_c : Nat} (h_a__Rating : Rd G 2 a__Rating_p a__Rating_c (a_.Rating.map enc_shift_Mark)) (h_a__Gaugings : Rd G 4 a__Gaugings_p a__Gaugings_c (a_.Gaugings.map enc_shift_Gauging)) (h_b__Rating : Rd G 2 b__Rating_p b__Rating_c (b_.Rating.map enc_shift_Mark)) (h_b__Gaugings : Rd G 4 b__Gaugings_p b__Gaugings_c (b_.Gaugings.map enc_shift_Gauging)) (hc : Ctx G (Lf) w) {res : Bool} (hF : law05_same N a_ b_ = some res) : Calls Try.prog 25 #[.agg #[.slice a__Rating_p a_.Rating.length a__Rating_c,.slice a__Gaugings_p a_.Gaugings.length a__Gaugings_c],.agg #[.slice b__Rating_p b_.Rating.length b__Rating_c,.slice b__Gaugings_p b_.Gaugings.length b__Gaugings_c]] w (fun e w => e = .returned (.bool res) ∧ Ctx G (Lf) w) := by
 unfold law05_same at hF
 refine fnIn (args := [.agg #[.slice a__Rating_p a_.Rating.length a__Rating_c,.slice a__Gaugings_p a_.Gaugings.length a__Gaugings_c],.agg #[.slice b__Rating_p b_.Rating.length b__Rating_c,.slice b__Gaugings_p b_.Gaugings.length b__Gaugings_c]]) Try.func25 rfl Try.ntmps25 rfl fun a hf => wp_seq_k fun K1 h1 => cReg ?_
 refine stBx (cs := [.slice a__Rating_p a_.Rating.length a__Rating_c,.slice a__Gaugings_p a_.Gaugings.length a__Gaugings_c]) hf hc rfl rfl rfl rfl fun b_1 a w hf hc => stBx (cs := [.slice b__Rating_p b_.Rating.length b__Rating_c,.slice b__Gaugings_p b_.Gaugings.length b__Gaugings_c]) hf hc rfl rfl rfl rfl fun b_2 a w hf hc => stP hf rfl rfl rfl (pA rfl) fun a hf => cNil ?_
 refine h1 _ _ ?_
 refine wp_seq_k fun K2 h2 => cReg ?_
 refine stP hf rfl rfl rfl (pFA fa_25_0 rfl) fun a hf => stE hf hc rfl rfl rfl (eLd1 sc_22 rfl (cell_box m1 rfl)) fun a w hf hc => stP hf rfl rfl rfl (pFA fa_25_0 rfl) fun a hf => stE hf hc rfl rfl rfl (eLd1 sc_22 rfl (cell_box m0 rfl)) fun a w hf hc => ?_
 obtain ⟨r,hr,hF⟩ := bnd_some hF
 refine stE hf hc rfl rfl rfl (eC (v := .bool r) (vs := [.slice a__Rating_p a_.Rating.length a__Rating_c,.slice b__Rating_p b_.Rating.length b__Rating_c]) (caps := []) en_74 rfl rfl rfl rfl (fun w hc => kit_Same_shift_Mark_ok a_.Rating b_.Rating h_a__Rating h_b__Rating hc hr)) fun a w hf hc => stP hf rfl rfl rfl (pM rfl) fun a hf => ?_
 obtain ⟨t_1,ht_1,hF⟩ := bnd_some hF
 refine stCut 6 (fun a w => Has 17 a [(2,.pointer (some ⟨b_1,0,none⟩)),(3,.pointer (some ⟨b_2,0,none⟩)),(4,.bool false),(5,.pointer (some ⟨b_1,0,none⟩)),(6,.slice a__Rating_p a_.Rating.length a__Rating_c),(7,.pointer (some ⟨b_2,0,none⟩)),(8,.slice b__Rating_p b_.Rating.length b__Rating_c),(9,.bool r),(10,.bool r),(16,.bool t_1)] ∧ Ctx G (.box b_2 [.slice b__Rating_p b_.Rating.length b__Rating_c,.slice b__Gaugings_p b_.Gaugings.length b__Gaugings_c] 25::.box b_1 [.slice a__Rating_p a_.Rating.length a__Rating_c,.slice a__Gaugings_p a_.Gaugings.length a__Gaugings_c] 25::Lf) w) ?_ ?_
 ·cases hb : r
  ·rw [hb] at hf
   have hF := condF hb ht_1
   obtain rfl := Option.some.inj hF
   refine stS hf rfl rfl rfl fun a hf => stS hf rfl rfl rfl fun a hf => stS hf rfl rfl rfl fun a hf => stS hf rfl rfl rfl fun a hf => stS hf rfl rfl rfl fun a hf => stP hf rfl rfl rfl (pPf rfl rfl) fun a hf => cNil ⟨hf.keep ⟨rfl,rfl,rfl,rfl,rfl,rfl,rfl,rfl,rfl,rfl,trivial⟩,hc⟩
  ·rw [hb] at hf
   have hF := condT hb ht_1
   refine stP hf rfl rfl rfl (pFA fa_25_1 rfl) fun a hf => stE hf hc rfl rfl rfl (eLd1 sc_23 rfl (cell_box m1 rfl)) fun a w hf hc => stP hf rfl rfl rfl (pFA fa_25_1 rfl) fun a hf => stE hf hc rfl rfl rfl (eLd1 sc_23 rfl (cell_box m0 rfl)) fun a w hf hc => ?_
   obtain ⟨r_1,hr_1,hF⟩ := bnd_some hF
   refine stE hf hc rfl rfl rfl (eC (v := .bool r_1) (vs := [.slice a__Gaugings_p a_.Gaugings.length a__Gaugings_c,.slice b__Gaugings_p b_.Gaugings.length b__Gaugings_c]) (caps := []) en_75 rfl rfl rfl rfl (fun w hc => kit_Same_shift_Gauging_ok a_.Gaugings b_.Gaugings h_a__Gaugings h_b__Gaugings hc hr_1)) fun a w hf hc => stP hf rfl rfl rfl (pPt rfl rfl) fun a hf => ?_
   obtain rfl := Option.some.inj hF
   exact cNil ⟨hf.keep ⟨rfl,rfl,rfl,rfl,rfl,rfl,rfl,rfl,rfl,rfl,trivial⟩,hc⟩
 intro a w ⟨hf,hc⟩
 refine stP hf rfl rfl rfl (pA rfl) fun a hf => cNil ?_
 refine h2 _ _ ?_
 refine wp_ret ?_
 obtain rfl := Option.some.inj hF
 replace hc := hc.drop k1
 replace hc := hc.drop k0
 exact fnOut1 (by simp) rfl Try.results25 hf hc (show look _ 4 = _ from rfl) ⟨rfl,hc⟩

def law05_ShiftSeasons (N : Nat) (r : shift_Record) (most : Int) (day : Int) (stage : Int) : Option (Bool) :=
 Option.bind (cond ((decide (15 < ((r.Rating.length : Nat) : Int))) || (decide (35 < ((r.Gaugings.length : Nat) : Int)))) (some true) (Option.bind (law05_wide N r) fun r_0 =>
 some r_0)) fun t_1 =>
 cond t_1
 (Option.bind (law05_awake N) fun r_1 =>
 some r_1)
 (Option.bind (law05_CopyRecord N r) fun r_2 =>
 Option.bind (shift_Can N r_2 most) fun r_3 =>
 Option.bind (law05_Record N r) fun r_4 =>
 Option.bind (ref05_Can N r_4 most) fun r_5 =>
 Option.bind (kit_Same_api_Span N r_3.1 r_5.1) fun r_6 =>
 cond ((!r_6) || (r_3.2 != r_5.2))
 (some false)
 (Option.bind (shift_Between N r_2 most day stage) fun r_7 =>
 Option.bind (law05_Record N r) fun r_8 =>
 Option.bind (ref05_Between N r_8 most day stage) fun r_9 =>
 Option.bind (cond ((r_7.1.Lo == r_9.1.Lo && r_7.1.Hi == r_9.1.Hi) && (r_7.2 == r_9.2)) (Option.bind (law05_same N r_2 r) fun r_10 =>
 some r_10) (some false)) fun t_2 =>
 Option.bind (cond t_2 (Option.bind (law05_awake N) fun r_11 =>
 some r_11) (some false)) fun t_3 =>
 some t_3))
theorem law05_ShiftSeasons_ok {N : Nat} {G : Pers} {Lf : List Ent} {w : World} (r : shift_Record) (most : Int) (day : Int) (stage : Int) {r_Rating_p : Option Addr} {r_Rating_c : Nat} {r_Gaugings_p : Option Addr} {r_Gaugings_c : Nat} (h_r_Rating : Rd G 2 r_Rating_p r_Rating_c (r.Rating.map enc_shift_Mark)) (h_r_Gaugings : Rd G 4 r_Gaugings_p r_Gaugings_c (r.Gaugings.map enc_shift_Gauging)) (hc : Ctx G (Lf) w) {res : Bool} (hF : law05_ShiftSeasons N r most day stage = some res) : Calls Try.prog 4 #[.agg #[.slice r_Rating_p r.Rating.length r_Rating_c,.slice r_Gaugings_p r.Gaugings.length r_Gaugings_c],.int .i64 most,.int .i64 day,.int .i64 stage] w (fun e w => e = .returned (.bool res) ∧ Ctx G (Lf) w) := by
 unfold law05_ShiftSeasons at hF
 refine fnIn (args := [.agg #[.slice r_Rating_p r.Rating.length r_Rating_c,.slice r_Gaugings_p r.Gaugings.length r_Gaugings_c],.int .i64 most,.int .i64 day,.int .i64 stage]) Try.func4 rfl Try.ntmps4 rfl fun a hf => wp_seq_k fun K1 h1 => cReg ?_
 refine stBx (cs := [.slice r_Rating_p r.Rating.length r_Rating_c,.slice r_Gaugings_p r.Gaugings.length r_Gaugings_c]) hf hc rfl rfl rfl rfl fun b_1 a w hf hc => stP hf rfl rfl rfl (pA rfl) fun a hf => cNil ?_
 refine h1 _ _ ?_
 refine wp_seq_k fun K2 h2 => wp_seq_k fun K3 h3 => cReg ?_
 refine stP hf rfl rfl rfl (pFA fa_25_0 rfl) fun a hf => stE hf hc rfl rfl rfl (eLd1 sc_22 rfl (cell_box m0 rfl)) fun a w hf hc => stP hf rfl rfl rfl (pLenS Try.underlying22 rfl) fun a hf => stP hf rfl rfl rfl (pGt rfl rfl) fun a hf => stP hf rfl rfl rfl (pM rfl) fun a hf => stCut 5 (fun a w => Has 88 a [(1,.int .i64 most),(2,.int .i64 day),(3,.int .i64 stage),(4,.pointer (some ⟨b_1,0,none⟩)),(16,.pointer (some ⟨b_1,0,none⟩)),(17,.slice r_Rating_p r.Rating.length r_Rating_c),(18,.int .i64 ((r.Rating.length : Nat) : Int)),(19,.bool (decide (15 < ((r.Rating.length : Nat) : Int)))),(20,.bool (decide (15 < ((r.Rating.length : Nat) : Int)))),(25,.bool ((decide (15 < ((r.Rating.length : Nat) : Int))) || (decide (35 < ((r.Gaugings.length : Nat) : Int)))))] ∧ Ctx G (.box b_1 [.slice r_Rating_p r.Rating.length r_Rating_c,.slice r_Gaugings_p r.Gaugings.length r_Gaugings_c] 25::Lf) w) ?_ ?_
 ·cases hb : (decide (15 < ((r.Rating.length : Nat) : Int)))
  ·rw [hb] at hf
   refine stP hf rfl rfl rfl (pFA fa_25_1 rfl) fun a hf => stE hf hc rfl rfl rfl (eLd1 sc_23 rfl (cell_box m0 rfl)) fun a w hf hc => stP hf rfl rfl rfl (pLenS Try.underlying23 rfl) fun a hf => stP hf rfl rfl rfl (pGt rfl rfl) fun a hf => stP hf rfl rfl rfl (pPf rfl rfl) fun a hf => cNil ⟨hf.keep ⟨rfl,rfl,rfl,rfl,rfl,rfl,rfl,rfl,rfl,rfl,trivial⟩,hc⟩
  ·rw [hb] at hf
   refine stS hf rfl rfl rfl fun a hf => stS hf rfl rfl rfl fun a hf => stS hf rfl rfl rfl fun a hf => stS hf rfl rfl rfl fun a hf => stP hf rfl rfl rfl (pPt rfl rfl) fun a hf => cNil ⟨hf.keep ⟨rfl,rfl,rfl,rfl,rfl,rfl,rfl,rfl,rfl,rfl,trivial⟩,hc⟩
 intro a w ⟨hf,hc⟩
 refine stP hf rfl rfl rfl (pM rfl) fun a hf => ?_
 obtain ⟨t_1,ht_1,hF⟩ := bnd_some hF
 refine stCut 3 (fun a w => Has 88 a [(1,.int .i64 most),(2,.int .i64 day),(3,.int .i64 stage),(4,.pointer (some ⟨b_1,0,none⟩)),(16,.pointer (some ⟨b_1,0,none⟩)),(17,.slice r_Rating_p r.Rating.length r_Rating_c),(18,.int .i64 ((r.Rating.length : Nat) : Int)),(19,.bool (decide (15 < ((r.Rating.length : Nat) : Int)))),(20,.bool (decide (15 < ((r.Rating.length : Nat) : Int)))),(25,.bool ((decide (15 < ((r.Rating.length : Nat) : Int))) || (decide (35 < ((r.Gaugings.length : Nat) : Int))))),(26,.bool ((decide (15 < ((r.Rating.length : Nat) : Int))) || (decide (35 < ((r.Gaugings.length : Nat) : Int))))),(29,.bool t_1)] ∧ Ctx G (.box b_1 [.slice r_Rating_p r.Rating.length r_Rating_c,.slice r_Gaugings_p r.Gaugings.length r_Gaugings_c] 25::Lf) w) ?_ ?_
 ·cases hb : ((decide (15 < ((r.Rating.length : Nat) : Int))) || (decide (35 < ((r.Gaugings.length : Nat) : Int))))
  ·rw [hb] at hf
   have hF := condF hb ht_1
   refine stE hf hc rfl rfl rfl (eLdN (vs := [.slice r_Rating_p r.Rating.length r_Rating_c,.slice r_Gaugings_p r.Gaugings.length r_Gaugings_c]) ag_25 rfl rfl (cells_box (n := 2) m0 rfl)) fun a w hf hc => ?_
   obtain ⟨r_0,hr_0,hF⟩ := bnd_some hF
   refine stE hf hc rfl rfl rfl (eC (v := .bool r_0) (vs := [.agg #[.slice r_Rating_p r.Rating.length r_Rating_c,.slice r_Gaugings_p r.Gaugings.length r_Gaugings_c]]) (caps := []) en_26 rfl rfl rfl rfl (fun w hc => law05_wide_ok r h_r_Rating h_r_Gaugings hc hr_0)) fun a w hf hc => stP hf rfl rfl rfl (pPf rfl rfl) fun a hf => ?_
   obtain rfl := Option.some.inj hF
   exact cNil ⟨hf.keep ⟨rfl,rfl,rfl,rfl,rfl,rfl,rfl,rfl,rfl,rfl,rfl,rfl,trivial⟩,hc⟩
  ·rw [hb] at hf
   have hF := condT hb ht_1
   obtain rfl := Option.some.inj hF
   refine stS hf rfl rfl rfl fun a hf => stS hf rfl rfl rfl fun a hf => stP hf rfl rfl rfl (pPt rfl rfl) fun a hf => cNil ⟨hf.keep ⟨rfl,rfl,rfl,rfl,rfl,rfl,rfl,rfl,rfl,rfl,rfl,rfl,trivial⟩,hc⟩
 intro a w ⟨hf,hc⟩
 refine cNil ?_
 refine h3 _ _ ?_
 refine cCond (b := t_1) hf rfl (fun hb => ?_) (fun hb => ?_)
 ·replace hF := condT hb hF
  clear hb
  refine wp_seq_k fun K4 h4 => cReg ?_
  obtain ⟨r_1,hr_1,hF⟩ := bnd_some hF
  refine stE hf hc rfl rfl rfl (eC (v := .bool r_1) (vs := []) (caps := []) en_12 rfl rfl rfl rfl (fun w hc => law05_awake_ok hc hr_1)) fun a w hf hc => stP hf rfl rfl rfl (pA rfl) fun a hf => cNil ?_
  refine h4 _ _ ?_
  refine wp_ret ?_
  refine xThenR ?_
  obtain rfl := Option.some.inj hF
  replace hc := hc.drop k0
  exact fnOut1 (by simp) rfl Try.results4 hf hc (show look _ 8 = _ from rfl) ⟨rfl,hc⟩
 ·replace hF := condF hb hF
  clear hb
  refine wp_skip ?_
  refine h2 _ _ ?_
  refine wp_seq_k fun K5 h5 => cReg ?_
  refine stE hf hc rfl rfl rfl (eLdN (vs := [.slice r_Rating_p r.Rating.length r_Rating_c,.slice r_Gaugings_p r.Gaugings.length r_Gaugings_c]) ag_25 rfl rfl (cells_box (n := 2) m0 rfl)) fun a w hf hc => ?_
  obtain ⟨r_2,hr_2,hF⟩ := bnd_some hF
  refine stC (vs := [.agg #[.slice r_Rating_p r.Rating.length r_Rating_c,.slice r_Gaugings_p r.Gaugings.length r_Gaugings_c]]) (caps := []) hf rfl rfl rfl en_13 rfl rfl rfl rfl (law05_CopyRecord_ok r h_r_Rating h_r_Gaugings hc hr_2) ?_
  rintro _ w ⟨p_1,c_1,p_2,c_2,rfl,hc⟩
  refine ⟨_,rfl,fun a hf => ?_⟩
  refine stAl (cs := [.slice none 0 0,.slice none 0 0]) hf hc rfl rfl zr_25 rfl fun b_2 a w hf hc => stSt (vs := [.slice p_1 r_2.Rating.length c_1,.slice p_2 r_2.Gaugings.length c_2]) hf hc rfl rfl rfl rfl sz_25 rfl rfl u0 fun w hc => cNil ?_
  refine h5 _ _ ?_
  refine wp_seq_k fun K6 h6 => cReg ?_
  refine stE hf hc rfl rfl rfl (eLdN (vs := [.slice p_1 r_2.Rating.length c_1,.slice p_2 r_2.Gaugings.length c_2]) ag_25 rfl rfl (cells_box (n := 2) m0 rfl)) fun a w hf hc => stP hf rfl rfl rfl (pM rfl) fun a hf => ?_
  obtain ⟨r_3,hr_3,hF⟩ := bnd_some hF
  obtain ⟨G1,hle1,hrd1,hc,hth1⟩ := lend hc k1
  obtain ⟨G2,hle2,hrd2,hc,hth2⟩ := lend hc k1
  refine stC (vs := [.agg #[.slice p_1 r_2.Rating.length c_1,.slice p_2 r_2.Gaugings.length c_2],.int .i64 most]) (caps := []) hf rfl rfl rfl en_27 rfl rfl rfl rfl (shift_Can_ok r_2 most (hrd1.mono hle2) hrd2 hc hr_3) ?_
  rintro _ w ⟨p_3,c_3,rfl,hc⟩
  refine ⟨_,rfl,fun a hf => ?_⟩
  replace hc := hth2 _ _ hc
  replace hc := hth1 _ _ hc
  refine stP hf rfl rfl rfl (pM rfl) fun a hf => stP hf rfl rfl rfl (pX rfl rfl) fun a hf => stP hf rfl rfl rfl (pX rfl rfl) fun a hf => stP hf rfl rfl rfl (pA rfl) fun a hf => stP hf rfl rfl rfl (pA rfl) fun a hf => cNil ?_
  refine h6 _ _ ?_
  refine wp_seq_k fun K7 h7 => cReg ?_
  refine stE hf hc rfl rfl rfl (eLdN (vs := [.slice r_Rating_p r.Rating.length r_Rating_c,.slice r_Gaugings_p r.Gaugings.length r_Gaugings_c]) ag_25 rfl rfl (cells_box (n := 2) m4 rfl)) fun a w hf hc => ?_
  obtain ⟨r_4,hr_4,hF⟩ := bnd_some hF
  refine stC (vs := [.agg #[.slice r_Rating_p r.Rating.length r_Rating_c,.slice r_Gaugings_p r.Gaugings.length r_Gaugings_c]]) (caps := []) hf rfl rfl rfl en_16 rfl rfl rfl rfl (law05_Record_ok r h_r_Rating h_r_Gaugings hc hr_4) ?_
  rintro _ w ⟨p_4,c_4,p_5,c_5,rfl,hc⟩
  refine ⟨_,rfl,fun a hf => ?_⟩
  refine stP hf rfl rfl rfl (pM rfl) fun a hf => ?_
  obtain ⟨r_5,hr_5,hF⟩ := bnd_some hF
  obtain ⟨G1,hle1,hrd1,hc,hth1⟩ := lend hc k0
  obtain ⟨G2,hle2,hrd2,hc,hth2⟩ := lend hc k0
  refine stC (vs := [.agg #[.slice p_4 r_4.Rating.length c_4,.slice p_5 r_4.Gaugings.length c_5],.int .i64 most]) (caps := []) hf rfl rfl rfl en_28 rfl rfl rfl rfl (ref05_Can_ok r_4 most (hrd1.mono hle2) hrd2 hc hr_5) ?_
  rintro _ w ⟨p_6,c_6,rfl,hc⟩
  refine ⟨_,rfl,fun a hf => ?_⟩
  replace hc := hth2 _ _ hc
  replace hc := hth1 _ _ hc
  refine stP hf rfl rfl rfl (pM rfl) fun a hf => stP hf rfl rfl rfl (pX rfl rfl) fun a hf => stP hf rfl rfl rfl (pX rfl rfl) fun a hf => stP hf rfl rfl rfl (pA rfl) fun a hf => stP hf rfl rfl rfl (pA rfl) fun a hf => cNil ?_
  refine h7 _ _ ?_
  refine wp_seq_k fun K8 h8 => wp_seq_k fun K9 h9 => cReg ?_
  refine stP hf rfl rfl rfl (pM rfl) fun a hf => stP hf rfl rfl rfl (pM rfl) fun a hf => ?_
  obtain ⟨r_6,hr_6,hF⟩ := bnd_some hF
  refine stE hf hc rfl rfl rfl (eC (v := .bool r_6) (vs := [.slice p_3 r_3.1.length c_3,.slice p_6 r_5.1.length c_6]) (caps := []) en_24 rfl rfl rfl rfl (fun w hc => by obtain ⟨G1,hle1,hrd1,hc,hth1⟩ := lend hc k5; obtain ⟨G2,hle2,hrd2,hc,hth2⟩ := lend hc k2; exact (kit_Same_api_Span_ok r_3.1 r_5.1 (hrd1.mono hle2) hrd2 hc hr_6).mono fun e w h => ⟨h.1,((hth1 _ _ ((hth2 _ _ h.2).unpick k2)).unpick k5)⟩)) fun a w hf hc => stP hf rfl rfl rfl (pNot rfl) fun a hf => stP hf rfl rfl rfl (pM rfl) fun a hf => stCut 4 (fun a w => Has 88 a [(1,.int .i64 most),(2,.int .i64 day),(3,.int .i64 stage),(4,.pointer (some ⟨b_1,0,none⟩)),(9,.pointer (some ⟨b_2,0,none⟩)),(10,.slice p_3 r_3.1.length c_3),(11,.int .i64 r_3.2),(12,.slice p_6 r_5.1.length c_6),(13,.int .i64 r_5.2),(46,.slice p_3 r_3.1.length c_3),(47,.slice p_6 r_5.1.length c_6),(48,.bool r_6),(49,.bool (!r_6)),(50,.bool (!r_6)),(54,.bool ((!r_6) || (r_3.2 != r_5.2)))] ∧ Ctx G (.row p_4 c_4 (r_4.Rating.map enc_ref05_Mark) 134 2::.row p_5 c_5 (r_4.Gaugings.map enc_ref05_Gauging) 129 4::.row p_6 c_6 (r_5.1.map enc_api_Span) 50 2::.row p_1 c_1 (r_2.Rating.map enc_shift_Mark) 77 2::.row p_2 c_2 (r_2.Gaugings.map enc_shift_Gauging) 71 4::.row p_3 c_3 (r_3.1.map enc_api_Span) 50 2::.box b_2 [.slice p_1 r_2.Rating.length c_1,.slice p_2 r_2.Gaugings.length c_2] 25::.box b_1 [.slice r_Rating_p r.Rating.length r_Rating_c,.slice r_Gaugings_p r.Gaugings.length r_Gaugings_c] 25::Lf) w) ?_ ?_
  ·cases hb : (!r_6)
   ·rw [hb] at hf
    refine stP hf rfl rfl rfl (pM rfl) fun a hf => stP hf rfl rfl rfl (pM rfl) fun a hf => stP hf rfl rfl rfl (pNe rfl rfl) fun a hf => stP hf rfl rfl rfl (pPf rfl rfl) fun a hf => cNil ⟨hf.keep ⟨rfl,rfl,rfl,rfl,rfl,rfl,rfl,rfl,rfl,rfl,rfl,rfl,rfl,rfl,rfl,trivial⟩,hc⟩
   ·rw [hb] at hf
    refine stS hf rfl rfl rfl fun a hf => stS hf rfl rfl rfl fun a hf => stS hf rfl rfl rfl fun a hf => stP hf rfl rfl rfl (pPt rfl rfl) fun a hf => cNil ⟨hf.keep ⟨rfl,rfl,rfl,rfl,rfl,rfl,rfl,rfl,rfl,rfl,rfl,rfl,rfl,rfl,rfl,trivial⟩,hc⟩
  intro a w ⟨hf,hc⟩
  refine cNil ?_
  refine h9 _ _ ?_
  refine cCond (b := ((!r_6) || (r_3.2 != r_5.2))) hf rfl (fun hb => ?_) (fun hb => ?_)
  ·replace hF := condT hb hF
   clear hb
   refine wp_seq_k fun K10 h10 => cReg ?_
   refine stP hf rfl rfl rfl (pA rfl) fun a hf => cNil ?_
   refine h10 _ _ ?_
   refine wp_ret ?_
   refine xThenR ?_
   obtain rfl := Option.some.inj hF
   replace hc := hc.drop k7
   replace hc := hc.drop k6
   replace hc := hc.drop k5
   replace hc := hc.drop k4
   replace hc := hc.drop k3
   replace hc := hc.drop k2
   replace hc := hc.drop k1
   replace hc := hc.drop k0
   exact fnOut1 (by simp) rfl Try.results4 hf hc (show look _ 8 = _ from rfl) ⟨rfl,hc⟩
  ·replace hF := condF hb hF
   clear hb
   refine wp_skip ?_
   refine h8 _ _ ?_
   refine wp_seq_k fun K11 h11 => cReg ?_
   refine stE hf hc rfl rfl rfl (eLdN (vs := [.slice p_1 r_2.Rating.length c_1,.slice p_2 r_2.Gaugings.length c_2]) ag_25 rfl rfl (cells_box (n := 2) m6 rfl)) fun a w hf hc => stP hf rfl rfl rfl (pM rfl) fun a hf => stP hf rfl rfl rfl (pM rfl) fun a hf => stP hf rfl rfl rfl (pM rfl) fun a hf => ?_
   obtain ⟨r_7,hr_7,hF⟩ := bnd_some hF
   refine stE hf hc rfl rfl rfl (eC (v := .tuple #[.agg #[.int .i64 r_7.1.Lo,.int .i64 r_7.1.Hi],.int .i64 r_7.2]) (vs := [.agg #[.slice p_1 r_2.Rating.length c_1,.slice p_2 r_2.Gaugings.length c_2],.int .i64 most,.int .i64 day,.int .i64 stage]) (caps := []) en_29 rfl rfl rfl rfl (fun w hc => by obtain ⟨G1,hle1,hrd1,hc,hth1⟩ := lend hc k3; obtain ⟨G2,hle2,hrd2,hc,hth2⟩ := lend hc k3; exact (shift_Between_ok r_2 most day stage (hrd1.mono hle2) hrd2 hc hr_7).mono fun e w h => ⟨h.1,((hth1 _ _ ((hth2 _ _ h.2).unpick k3)).unpick k3)⟩)) fun a w hf hc => stP hf rfl rfl rfl (pM rfl) fun a hf => stP hf rfl rfl rfl (pX rfl rfl) fun a hf => stP hf rfl rfl rfl (pX rfl rfl) fun a hf => stAl (cs := [.int .i64 0,.int .i64 0]) hf hc rfl rfl zr_50 rfl fun b_3 a w hf hc => stSt (vs := [.int .i64 r_7.1.Lo,.int .i64 r_7.1.Hi]) hf hc rfl rfl rfl rfl sz_50 rfl rfl u0 fun w hc => stP hf rfl rfl rfl (pA rfl) fun a hf => cNil ?_
   refine h11 _ _ ?_
   refine wp_seq_k fun K12 h12 => cReg ?_
   refine stE hf hc rfl rfl rfl (eLdN (vs := [.slice r_Rating_p r.Rating.length r_Rating_c,.slice r_Gaugings_p r.Gaugings.length r_Gaugings_c]) ag_25 rfl rfl (cells_box (n := 2) m8 rfl)) fun a w hf hc => ?_
   obtain ⟨r_8,hr_8,hF⟩ := bnd_some hF
   refine stC (vs := [.agg #[.slice r_Rating_p r.Rating.length r_Rating_c,.slice r_Gaugings_p r.Gaugings.length r_Gaugings_c]]) (caps := []) hf rfl rfl rfl en_16 rfl rfl rfl rfl (law05_Record_ok r h_r_Rating h_r_Gaugings hc hr_8) ?_
   rintro _ w ⟨p_7,c_7,p_8,c_8,rfl,hc⟩
   refine ⟨_,rfl,fun a hf => ?_⟩
   refine stP hf rfl rfl rfl (pM rfl) fun a hf => stP hf rfl rfl rfl (pM rfl) fun a hf => stP hf rfl rfl rfl (pM rfl) fun a hf => ?_
   obtain ⟨r_9,hr_9,hF⟩ := bnd_some hF
   refine stE hf hc rfl rfl rfl (eC (v := .tuple #[.agg #[.int .i64 r_9.1.Lo,.int .i64 r_9.1.Hi],.int .i64 r_9.2]) (vs := [.agg #[.slice p_7 r_8.Rating.length c_7,.slice p_8 r_8.Gaugings.length c_8],.int .i64 most,.int .i64 day,.int .i64 stage]) (caps := []) en_30 rfl rfl rfl rfl (fun w hc => by obtain ⟨G1,hle1,hrd1,hc,hth1⟩ := lend hc k0; obtain ⟨G2,hle2,hrd2,hc,hth2⟩ := lend hc k0; exact (ref05_Between_ok r_8 most day stage (hrd1.mono hle2) hrd2 hc hr_9).mono fun e w h => ⟨h.1,((hth1 _ _ ((hth2 _ _ h.2).unpick k0)).unpick k0)⟩)) fun a w hf hc => stP hf rfl rfl rfl (pM rfl) fun a hf => stP hf rfl rfl rfl (pX rfl rfl) fun a hf => stP hf rfl rfl rfl (pX rfl rfl) fun a hf => stAl (cs := [.int .i64 0,.int .i64 0]) hf hc rfl rfl zr_50 rfl fun b_4 a w hf hc => stSt (vs := [.int .i64 r_9.1.Lo,.int .i64 r_9.1.Hi]) hf hc rfl rfl rfl rfl sz_50 rfl rfl u0 fun w hc => stP hf rfl rfl rfl (pA rfl) fun a hf => cNil ?_
   refine h12 _ _ ?_
   refine wp_seq_k fun K13 h13 => cReg ?_
   refine stE hf hc rfl rfl rfl (eLdN (vs := [.int .i64 r_7.1.Lo,.int .i64 r_7.1.Hi]) ag_50 rfl rfl (cells_box (n := 2) m3 rfl)) fun a w hf hc => stE hf hc rfl rfl rfl (eLdN (vs := [.int .i64 r_9.1.Lo,.int .i64 r_9.1.Hi]) ag_50 rfl rfl (cells_box (n := 2) m0 rfl)) fun a w hf hc => stP hf rfl rfl rfl (pEqA ge_50 rfl rfl (eqs_50 _ _ _ _)) fun a hf => stP hf rfl rfl rfl (pM rfl) fun a hf => stCut 4 (fun a w => Has 88 a [(4,.pointer (some ⟨b_1,0,none⟩)),(9,.pointer (some ⟨b_2,0,none⟩)),(11,.int .i64 r_7.2),(13,.int .i64 r_9.2),(14,.pointer (some ⟨b_3,0,none⟩)),(15,.pointer (some ⟨b_4,0,none⟩)),(72,.agg #[.int .i64 r_7.1.Lo,.int .i64 r_7.1.Hi]),(73,.agg #[.int .i64 r_9.1.Lo,.int .i64 r_9.1.Hi]),(74,.bool (r_7.1.Lo == r_9.1.Lo && r_7.1.Hi == r_9.1.Hi)),(75,.bool (r_7.1.Lo == r_9.1.Lo && r_7.1.Hi == r_9.1.Hi)),(79,.bool ((r_7.1.Lo == r_9.1.Lo && r_7.1.Hi == r_9.1.Hi) && (r_7.2 == r_9.2)))] ∧ Ctx G (.box b_4 [.int .i64 r_9.1.Lo,.int .i64 r_9.1.Hi] 50::.row p_7 c_7 (r_8.Rating.map enc_ref05_Mark) 134 2::.row p_8 c_8 (r_8.Gaugings.map enc_ref05_Gauging) 129 4::.box b_3 [.int .i64 r_7.1.Lo,.int .i64 r_7.1.Hi] 50::.row p_4 c_4 (r_4.Rating.map enc_ref05_Mark) 134 2::.row p_5 c_5 (r_4.Gaugings.map enc_ref05_Gauging) 129 4::.row p_6 c_6 (r_5.1.map enc_api_Span) 50 2::.row p_1 c_1 (r_2.Rating.map enc_shift_Mark) 77 2::.row p_2 c_2 (r_2.Gaugings.map enc_shift_Gauging) 71 4::.row p_3 c_3 (r_3.1.map enc_api_Span) 50 2::.box b_2 [.slice p_1 r_2.Rating.length c_1,.slice p_2 r_2.Gaugings.length c_2] 25::.box b_1 [.slice r_Rating_p r.Rating.length r_Rating_c,.slice r_Gaugings_p r.Gaugings.length r_Gaugings_c] 25::Lf) w) ?_ ?_
   ·cases hb : (r_7.1.Lo == r_9.1.Lo && r_7.1.Hi == r_9.1.Hi)
    ·rw [hb] at hf
     refine stS hf rfl rfl rfl fun a hf => stS hf rfl rfl rfl fun a hf => stS hf rfl rfl rfl fun a hf => stP hf rfl rfl rfl (pPf rfl rfl) fun a hf => cNil ⟨hf.keep ⟨rfl,rfl,rfl,rfl,rfl,rfl,rfl,rfl,rfl,rfl,rfl,trivial⟩,hc⟩
    ·rw [hb] at hf
     refine stP hf rfl rfl rfl (pM rfl) fun a hf => stP hf rfl rfl rfl (pM rfl) fun a hf => stP hf rfl rfl rfl (pEq rfl rfl) fun a hf => stP hf rfl rfl rfl (pPt rfl rfl) fun a hf => cNil ⟨hf.keep ⟨rfl,rfl,rfl,rfl,rfl,rfl,rfl,rfl,rfl,rfl,rfl,trivial⟩,hc⟩
   intro a w ⟨hf,hc⟩
   refine stP hf rfl rfl rfl (pM rfl) fun a hf => ?_
   obtain ⟨t_2,ht_2,hF⟩ := bnd_some hF
   refine stCut 4 (fun a w => Has 88 a [(4,.pointer (some ⟨b_1,0,none⟩)),(9,.pointer (some ⟨b_2,0,none⟩)),(11,.int .i64 r_7.2),(13,.int .i64 r_9.2),(14,.pointer (some ⟨b_3,0,none⟩)),(15,.pointer (some ⟨b_4,0,none⟩)),(72,.agg #[.int .i64 r_7.1.Lo,.int .i64 r_7.1.Hi]),(73,.agg #[.int .i64 r_9.1.Lo,.int .i64 r_9.1.Hi]),(74,.bool (r_7.1.Lo == r_9.1.Lo && r_7.1.Hi == r_9.1.Hi)),(75,.bool (r_7.1.Lo == r_9.1.Lo && r_7.1.Hi == r_9.1.Hi)),(79,.bool ((r_7.1.Lo == r_9.1.Lo && r_7.1.Hi == r_9.1.Hi) && (r_7.2 == r_9.2))),(80,.bool ((r_7.1.Lo == r_9.1.Lo && r_7.1.Hi == r_9.1.Hi) && (r_7.2 == r_9.2))),(84,.bool t_2)] ∧ Ctx G (.box b_4 [.int .i64 r_9.1.Lo,.int .i64 r_9.1.Hi] 50::.row p_7 c_7 (r_8.Rating.map enc_ref05_Mark) 134 2::.row p_8 c_8 (r_8.Gaugings.map enc_ref05_Gauging) 129 4::.box b_3 [.int .i64 r_7.1.Lo,.int .i64 r_7.1.Hi] 50::.row p_4 c_4 (r_4.Rating.map enc_ref05_Mark) 134 2::.row p_5 c_5 (r_4.Gaugings.map enc_ref05_Gauging) 129 4::.row p_6 c_6 (r_5.1.map enc_api_Span) 50 2::.row p_1 c_1 (r_2.Rating.map enc_shift_Mark) 77 2::.row p_2 c_2 (r_2.Gaugings.map enc_shift_Gauging) 71 4::.row p_3 c_3 (r_3.1.map enc_api_Span) 50 2::.box b_2 [.slice p_1 r_2.Rating.length c_1,.slice p_2 r_2.Gaugings.length c_2] 25::.box b_1 [.slice r_Rating_p r.Rating.length r_Rating_c,.slice r_Gaugings_p r.Gaugings.length r_Gaugings_c] 25::Lf) w) ?_ ?_
   ·cases hb : ((r_7.1.Lo == r_9.1.Lo && r_7.1.Hi == r_9.1.Hi) && (r_7.2 == r_9.2))
    ·rw [hb] at hf
     have hF := condF hb ht_2
     obtain rfl := Option.some.inj hF
     refine stS hf rfl rfl rfl fun a hf => stS hf rfl rfl rfl fun a hf => stS hf rfl rfl rfl fun a hf => stP hf rfl rfl rfl (pPf rfl rfl) fun a hf => cNil ⟨hf.keep ⟨rfl,rfl,rfl,rfl,rfl,rfl,rfl,rfl,rfl,rfl,rfl,rfl,rfl,trivial⟩,hc⟩
    ·rw [hb] at hf
     have hF := condT hb ht_2
     refine stE hf hc rfl rfl rfl (eLdN (vs := [.slice p_1 r_2.Rating.length c_1,.slice p_2 r_2.Gaugings.length c_2]) ag_25 rfl rfl (cells_box (n := 2) m10 rfl)) fun a w hf hc => stE hf hc rfl rfl rfl (eLdN (vs := [.slice r_Rating_p r.Rating.length r_Rating_c,.slice r_Gaugings_p r.Gaugings.length r_Gaugings_c]) ag_25 rfl rfl (cells_box (n := 2) m11 rfl)) fun a w hf hc => ?_
     obtain ⟨r_10,hr_10,hF⟩ := bnd_some hF
     refine stE hf hc rfl rfl rfl (eC (v := .bool r_10) (vs := [.agg #[.slice p_1 r_2.Rating.length c_1,.slice p_2 r_2.Gaugings.length c_2],.agg #[.slice r_Rating_p r.Rating.length r_Rating_c,.slice r_Gaugings_p r.Gaugings.length r_Gaugings_c]]) (caps := []) en_25 rfl rfl rfl rfl (fun w hc => by obtain ⟨G1,hle1,hrd1,hc,hth1⟩ := lend hc k7; obtain ⟨G2,hle2,hrd2,hc,hth2⟩ := lend hc k7; exact (law05_same_ok r_2 r (hrd1.mono hle2) hrd2 ((h_r_Rating.mono hle1).mono hle2) ((h_r_Gaugings.mono hle1).mono hle2) hc hr_10).mono fun e w h => ⟨h.1,((hth1 _ _ ((hth2 _ _ h.2).unpick k7)).unpick k7)⟩)) fun a w hf hc => stP hf rfl rfl rfl (pPt rfl rfl) fun a hf => ?_
     obtain rfl := Option.some.inj hF
     exact cNil ⟨hf.keep ⟨rfl,rfl,rfl,rfl,rfl,rfl,rfl,rfl,rfl,rfl,rfl,rfl,rfl,trivial⟩,hc⟩
   intro a w ⟨hf,hc⟩
   refine stP hf rfl rfl rfl (pM rfl) fun a hf => ?_
   obtain ⟨t_3,ht_3,hF⟩ := bnd_some hF
   refine stCut 2 (fun a w => Has 88 a [(4,.pointer (some ⟨b_1,0,none⟩)),(9,.pointer (some ⟨b_2,0,none⟩)),(11,.int .i64 r_7.2),(13,.int .i64 r_9.2),(14,.pointer (some ⟨b_3,0,none⟩)),(15,.pointer (some ⟨b_4,0,none⟩)),(72,.agg #[.int .i64 r_7.1.Lo,.int .i64 r_7.1.Hi]),(73,.agg #[.int .i64 r_9.1.Lo,.int .i64 r_9.1.Hi]),(74,.bool (r_7.1.Lo == r_9.1.Lo && r_7.1.Hi == r_9.1.Hi)),(75,.bool (r_7.1.Lo == r_9.1.Lo && r_7.1.Hi == r_9.1.Hi)),(79,.bool ((r_7.1.Lo == r_9.1.Lo && r_7.1.Hi == r_9.1.Hi) && (r_7.2 == r_9.2))),(80,.bool ((r_7.1.Lo == r_9.1.Lo && r_7.1.Hi == r_9.1.Hi) && (r_7.2 == r_9.2))),(84,.bool t_2),(85,.bool t_2),(87,.bool t_3)] ∧ Ctx G (.box b_4 [.int .i64 r_9.1.Lo,.int .i64 r_9.1.Hi] 50::.row p_7 c_7 (r_8.Rating.map enc_ref05_Mark) 134 2::.row p_8 c_8 (r_8.Gaugings.map enc_ref05_Gauging) 129 4::.box b_3 [.int .i64 r_7.1.Lo,.int .i64 r_7.1.Hi] 50::.row p_4 c_4 (r_4.Rating.map enc_ref05_Mark) 134 2::.row p_5 c_5 (r_4.Gaugings.map enc_ref05_Gauging) 129 4::.row p_6 c_6 (r_5.1.map enc_api_Span) 50 2::.row p_1 c_1 (r_2.Rating.map enc_shift_Mark) 77 2::.row p_2 c_2 (r_2.Gaugings.map enc_shift_Gauging) 71 4::.row p_3 c_3 (r_3.1.map enc_api_Span) 50 2::.box b_2 [.slice p_1 r_2.Rating.length c_1,.slice p_2 r_2.Gaugings.length c_2] 25::.box b_1 [.slice r_Rating_p r.Rating.length r_Rating_c,.slice r_Gaugings_p r.Gaugings.length r_Gaugings_c] 25::Lf) w) ?_ ?_
   ·cases hb : t_2
    ·rw [hb] at hf
     have hF := condF hb ht_3
     obtain rfl := Option.some.inj hF
     refine stS hf rfl rfl rfl fun a hf => stP hf rfl rfl rfl (pPf rfl rfl) fun a hf => cNil ⟨hf.keep ⟨rfl,rfl,rfl,rfl,rfl,rfl,rfl,rfl,rfl,rfl,rfl,rfl,rfl,rfl,rfl,trivial⟩,hc⟩
    ·rw [hb] at hf
     have hF := condT hb ht_3
     obtain ⟨r_11,hr_11,hF⟩ := bnd_some hF
     refine stE hf hc rfl rfl rfl (eC (v := .bool r_11) (vs := []) (caps := []) en_12 rfl rfl rfl rfl (fun w hc => law05_awake_ok hc hr_11)) fun a w hf hc => stP hf rfl rfl rfl (pPt rfl rfl) fun a hf => ?_
     obtain rfl := Option.some.inj hF
     exact cNil ⟨hf.keep ⟨rfl,rfl,rfl,rfl,rfl,rfl,rfl,rfl,rfl,rfl,rfl,rfl,rfl,rfl,rfl,trivial⟩,hc⟩
   intro a w ⟨hf,hc⟩
   refine stP hf rfl rfl rfl (pA rfl) fun a hf => cNil ?_
   refine h13 _ _ ?_
   refine wp_ret ?_
   obtain rfl := Option.some.inj hF
   replace hc := hc.drop k11
   replace hc := hc.drop k10
   replace hc := hc.drop k9
   replace hc := hc.drop k8
   replace hc := hc.drop k7
   replace hc := hc.drop k6
   replace hc := hc.drop k5
   replace hc := hc.drop k4
   replace hc := hc.drop k3
   replace hc := hc.drop k2
   replace hc := hc.drop k1
   replace hc := hc.drop k0
   exact fnOut1 (by simp) rfl Try.results4 hf hc (show look _ 8 = _ from rfl) ⟨rfl,hc⟩

end Go.Nilo
