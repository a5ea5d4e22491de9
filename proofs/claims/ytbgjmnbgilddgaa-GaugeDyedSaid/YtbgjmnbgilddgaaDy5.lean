/-
  What functions of the Go text compute, as plain functions, and that they do, part 5 of 5. Conditions: what each theorem names.
-/
import Derived.Test.YtbgjmnbgilddgaaDy4
import Derived.Test.YtbgjmnbgilddgaaProg
set_option linter.unusedVariables false
set_option maxRecDepth 100000
set_option maxHeartbeats 4000000
namespace Go.Nilo
open Go.Proofs


def law03_GaugeDyed (N : Nat) (numbers : List Int) (truth : List Int) : Option (Bool) :=
  Option.bind (kit_New N numbers) fun r =>
  Option.bind (law03_Dyed N (⟨numbers, r.1, r.2⟩ : kit_Stream)) fun r_1 =>
  Option.bind (kit_New N truth) fun r_2 =>
  Option.bind (kit_Stream_Within N (⟨truth, r_2.1, r_2.2⟩ : kit_Stream) r_1.1.Rate.Lo r_1.1.Rate.Hi) fun r_3 =>
  Option.bind (kit_Stream_Within N (⟨truth, r_3.2.1, r_3.2.2⟩ : kit_Stream) r_1.1.Strong.Lo r_1.1.Strong.Hi) fun r_4 =>
  Option.bind (kit_Stream_Within N (⟨truth, r_4.2.1, r_4.2.2⟩ : kit_Stream) r_1.1.Found.Lo r_1.1.Found.Hi) fun r_5 =>
  Option.bind (kit_Stream_Within N (⟨truth, r_5.2.1, r_5.2.2⟩ : kit_Stream) r_1.1.Clean.Lo r_1.1.Clean.Hi) fun r_6 =>
  Option.bind (gauge_Thinned N r_1.1) fun r_7 =>
  cond ((r_7.2 != 0) || (decide (r_5.1 ≤ r_6.1)))
  (some false)
  (cond ((decide ((W (r_3.1 * (W (r_4.1 - r_5.1)))) < (W (r_7.1.Lo * (W (r_5.1 - r_6.1)))))) || (decide ((W (r_7.1.Hi * (W (r_5.1 - r_6.1)))) < (W (r_3.1 * (W (r_4.1 - r_5.1)))))))
  (some false)
  (Option.bind (law03_span N r_3.1 r_3.1) fun r_8 =>
  Option.bind (law03_span N r_4.1 r_4.1) fun r_9 =>
  Option.bind (law03_span N r_5.1 r_5.1) fun r_10 =>
  Option.bind (law03_span N r_6.1 r_6.1) fun r_11 =>
  Option.bind (gauge_Thinned N (⟨r_8, r_9, r_10, r_11⟩ : gauge_Dye)) fun r_12 =>
  Option.bind (law03_span N (W (2 * r_3.1)) (W (2 * r_3.1))) fun r_13 =>
  Option.bind (gauge_Thinned N (⟨r_13, r_9, r_10, r_11⟩ : gauge_Dye)) fun r_14 =>
  cond (((((((r_12.2 != 0) || (r_14.2 != 0)) || (decide (1 < (W (r_12.1.Hi - r_12.1.Lo))))) || (decide (r_12.1.Lo < r_7.1.Lo))) || (decide (r_7.1.Hi < r_12.1.Hi))) || (decide (r_14.1.Lo < (W (2 * r_12.1.Lo))))) || (decide ((W (2 * r_12.1.Hi)) < r_14.1.Hi)))
  (some false)
  (Option.bind (gauge_Thinned N (⟨r_1.1.Rate, r_1.1.Strong, r_1.1.Found, (⟨r_1.1.Clean.Lo, r_1.1.Found.Lo⟩ : api_Span)⟩ : gauge_Dye)) fun r_15 =>
  Option.bind (law03_span N 0 0) fun r_16 =>
  Option.bind (gauge_Thinned N (⟨r_8, r_9, r_9, r_16⟩ : gauge_Dye)) fun r_17 =>
  Option.bind (cond (((r_15.2 == 7) && (r_17.2 == 0)) && (r_17.1.Lo == 0 && r_17.1.Hi == 0)) (Option.bind (law03_awake N) fun r_18 =>
  some r_18) (some false)) fun t_1 =>
  some t_1)))
theorem law03_GaugeDyed_ok {N : Nat} {G : Pers} {Lf : List Ent} {w : World} (numbers : List Int) (truth : List Int) {numbers_p : Option Addr} {numbers_c : Nat} {truth_p : Option Addr} {truth_c : Nat} (h_numbers : Rd G 1 numbers_p numbers_c (numbers.map encI_u8)) (h_truth : Rd G 1 truth_p truth_c (truth.map encI_u8)) (hc : Ctx G (Lf) w) {res : Bool} (hF : law03_GaugeDyed N numbers truth = some res) : Calls Try.prog 3 #[.slice numbers_p numbers.length numbers_c, .slice truth_p truth.length truth_c] w (fun e w => e = .returned (.bool res) ∧ Ctx G (Lf) w) := by
  unfold law03_GaugeDyed at hF
  refine fnIn (args := [.slice numbers_p numbers.length numbers_c, .slice truth_p truth.length truth_c]) Try.func3 rfl Try.ntmps3 rfl fun a hf => ?_
  refine wp_seq_k fun K1 h1 => ?_
  refine cReg ?_
  refine stP hf rfl rfl rfl (pA rfl) fun a hf => ?_
  refine cNil ?_
  refine h1 _ _ ?_
  refine wp_seq_k fun K2 h2 => ?_
  refine cReg ?_
  refine stP hf rfl rfl rfl (pM rfl) fun a hf => ?_
  obtain ⟨r, hr, hF⟩ := bnd_some hF
  refine stC (vs := [.slice numbers_p numbers.length numbers_c]) (caps := []) hf rfl rfl rfl en_11 rfl rfl rfl rfl (kit_New_ok numbers h_numbers hc hr) ?_
  rintro _ w ⟨b_1, rfl, hc⟩
  refine ⟨_, rfl, fun a hf => ?_⟩
  obtain ⟨r_1, hr_1, hF⟩ := bnd_some hF
  refine stC (vs := [.pointer (some ⟨b_1, 0, none⟩)]) (caps := []) hf rfl rfl rfl en_10 rfl rfl rfl rfl (law03_Dyed_ok (⟨numbers, r.1, r.2⟩ : kit_Stream) h_numbers (hc.pick k0) hr_1) ?_
  rintro _ w ⟨rfl, hc⟩
  refine ⟨_, rfl, fun a hf => ?_⟩
  refine stAl (cs := [.int .i64 0, .int .i64 0, .int .i64 0, .int .i64 0, .int .i64 0, .int .i64 0, .int .i64 0, .int .i64 0]) hf hc rfl rfl zr_26 rfl fun b_2 a w hf hc => ?_
  refine stSt (vs := [.int .i64 r_1.1.Rate.Lo, .int .i64 r_1.1.Rate.Hi, .int .i64 r_1.1.Strong.Lo, .int .i64 r_1.1.Strong.Hi, .int .i64 r_1.1.Found.Lo, .int .i64 r_1.1.Found.Hi, .int .i64 r_1.1.Clean.Lo, .int .i64 r_1.1.Clean.Hi]) hf hc rfl rfl rfl rfl sz_26 rfl rfl u0 fun w hc => ?_
  refine cNil ?_
  refine h2 _ _ ?_
  refine wp_seq_k fun K3 h3 => ?_
  refine cReg ?_
  refine stP hf rfl rfl rfl (pM rfl) fun a hf => ?_
  obtain ⟨r_2, hr_2, hF⟩ := bnd_some hF
  refine stC (vs := [.slice truth_p truth.length truth_c]) (caps := []) hf rfl rfl rfl en_11 rfl rfl rfl rfl (kit_New_ok truth h_truth hc hr_2) ?_
  rintro _ w ⟨b_3, rfl, hc⟩
  refine ⟨_, rfl, fun a hf => ?_⟩
  refine stP hf rfl rfl rfl (pA rfl) fun a hf => ?_
  refine cNil ?_
  refine h3 _ _ ?_
  refine wp_seq_k fun K4 h4 => ?_
  obtain ⟨r_3, hr_3, hF⟩ := bnd_some hF
  obtain ⟨r_4, hr_4, hF⟩ := bnd_some hF
  refine regionE (fun θ => [⟨none, none, 5, .pointer (some ⟨b_2, 0, none⟩)⟩, ⟨none, none, 6, .pointer (some ⟨b_3, 0, none⟩)⟩, ⟨some 0, none, 24, .pointer (some ⟨b_3, 0, none⟩)⟩, ⟨some 1, none, 25, .pointer (some ⟨b_2, 0, none⟩)⟩, ⟨some 2, none, 26, .pointer (some ⟨b_2, 0, none⟩)⟩, ⟨some 3, none, 27, .int .i64 r_1.1.Rate.Lo⟩, ⟨some 4, none, 28, .pointer (some ⟨b_2, 0, none⟩)⟩, ⟨some 5, none, 29, .pointer (some ⟨b_2, 1, none⟩)⟩, ⟨some 6, none, 30, .int .i64 r_1.1.Rate.Hi⟩, ⟨some 7, none, 31, .int .i64 r_3.1⟩, ⟨some 8, none, 32, .pointer (some ⟨b_3, 0, none⟩)⟩, ⟨some 9, none, 33, .pointer (some ⟨b_2, 2, none⟩)⟩, ⟨some 10, none, 34, .pointer (some ⟨b_2, 2, none⟩)⟩, ⟨some 11, none, 35, .int .i64 r_1.1.Strong.Lo⟩, ⟨some 12, none, 36, .pointer (some ⟨b_2, 2, none⟩)⟩, ⟨some 13, none, 37, .pointer (some ⟨b_2, 3, none⟩)⟩, ⟨some 14, none, 38, .int .i64 r_1.1.Strong.Hi⟩, ⟨some 15, none, 39, .int .i64 r_4.1⟩, ⟨some 16, none, 7, .int .i64 r_3.1⟩, ⟨some 17, none, 8, .int .i64 r_4.1⟩]) (fun E θ => (bif E 15 then .box b_3 [.slice truth_p truth.length truth_c, .int .i64 r_4.2.1, .int .i64 r_4.2.2] 104 else bif E 7 then .box b_3 [.slice truth_p truth.length truth_c, .int .i64 r_3.2.1, .int .i64 r_3.2.2] 104 else .box b_3 [.slice truth_p truth.length truth_c, .int .i64 r_2.1, .int .i64 r_2.2] 104) :: .box b_2 [.int .i64 r_1.1.Rate.Lo, .int .i64 r_1.1.Rate.Hi, .int .i64 r_1.1.Strong.Lo, .int .i64 r_1.1.Strong.Hi, .int .i64 r_1.1.Found.Lo, .int .i64 r_1.1.Found.Hi, .int .i64 r_1.1.Clean.Lo, .int .i64 r_1.1.Clean.Hi] 26 :: .box b_1 [.slice numbers_p numbers.length numbers_c, .int .i64 r_1.2.1, .int .i64 r_1.2.2] 104 :: Lf) [(15, 7)] (fun a w => Has 202 a [(5, .pointer (some ⟨b_2, 0, none⟩)), (6, .pointer (some ⟨b_3, 0, none⟩)), (7, .int .i64 r_3.1), (8, .int .i64 r_4.1)] ∧ Ctx G (.box b_3 [.slice truth_p truth.length truth_c, .int .i64 r_4.2.1, .int .i64 r_4.2.2] 104 :: .box b_2 [.int .i64 r_1.1.Rate.Lo, .int .i64 r_1.1.Rate.Hi, .int .i64 r_1.1.Strong.Lo, .int .i64 r_1.1.Strong.Hi, .int .i64 r_1.1.Found.Lo, .int .i64 r_1.1.Found.Hi, .int .i64 r_1.1.Clean.Lo, .int .i64 r_1.1.Clean.Hi] 26 :: .box b_1 [.slice numbers_p numbers.length numbers_c, .int .i64 r_1.2.1, .int .i64 r_1.2.2] 104 :: Lf) w) mixed (by kernel_rfl) (by kernel_rfl) (HasE.of hf ⟨rfl, rfl, trivial, trivial, trivial, trivial, trivial, trivial, trivial, trivial, trivial, trivial, trivial, trivial, trivial, trivial, trivial, trivial, trivial, trivial, trivial⟩) hc ⟨?_, ?_, ?_, ?_, ?_, ?_, ?_, ?_, ?_, ?_, ?_, ?_, ?_, ?_, ?_, ?_, ?_, ?_, trivial⟩ ?_ ?_
  · intro E θ a w hD hi hp he hc
    have hf := he.h0
    replace hf := hf.more he 1 rfl (onT)
    refine stP hf rfl rfl rfl (pM rfl) fun a hf => ?_
    refine cNil ?_
    refine xThenN ?_
    intro ds u hau
    refine ⟨θ, he.put hi hau hf rfl [] trivial ⟨⟨rfl, rfl⟩, ⟨rfl, rfl⟩, ⟨rfl, rfl⟩, ⟨rfl, rfl⟩, ⟨rfl, rfl⟩, ⟨rfl, rfl⟩, ⟨rfl, rfl⟩, ⟨rfl, rfl⟩, ⟨rfl, rfl⟩, ⟨rfl, rfl⟩, ⟨rfl, rfl⟩, ⟨rfl, rfl⟩, ⟨rfl, rfl⟩, ⟨rfl, rfl⟩, ⟨rfl, rfl⟩, ⟨rfl, rfl⟩, ⟨rfl, rfl⟩, ⟨rfl, rfl⟩, ⟨rfl, rfl⟩, ⟨rfl, rfl⟩, trivial⟩, ?_⟩
    exact hc
  · intro E θ a w hD hi hp he hc
    have hf := he.h0
    replace hf := hf.more he 0 rfl (onT)
    refine stP hf rfl rfl rfl (pFA fa_26_0 rfl) fun a hf => ?_
    refine cNil ?_
    refine xThenN ?_
    intro ds u hau
    refine ⟨θ, he.put hi hau hf rfl [] trivial ⟨⟨rfl, rfl⟩, ⟨rfl, rfl⟩, ⟨rfl, rfl⟩, ⟨rfl, rfl⟩, ⟨rfl, rfl⟩, ⟨rfl, rfl⟩, ⟨rfl, rfl⟩, ⟨rfl, rfl⟩, ⟨rfl, rfl⟩, ⟨rfl, rfl⟩, ⟨rfl, rfl⟩, ⟨rfl, rfl⟩, ⟨rfl, rfl⟩, ⟨rfl, rfl⟩, ⟨rfl, rfl⟩, ⟨rfl, rfl⟩, ⟨rfl, rfl⟩, ⟨rfl, rfl⟩, ⟨rfl, rfl⟩, ⟨rfl, rfl⟩, trivial⟩, ?_⟩
    exact hc
  · intro E θ a w hD hi hp he hc
    have e1 := hp.of (k := 1) rfl
    have hf := he.h0
    replace hf := hf.more he 3 rfl (onP e1)
    refine stP hf rfl rfl rfl (pFA fa_24_0 rfl) fun a hf => ?_
    refine cNil ?_
    refine xThenN ?_
    intro ds u hau
    refine ⟨θ, he.put hi hau hf rfl [] trivial ⟨⟨rfl, rfl⟩, ⟨rfl, rfl⟩, ⟨rfl, rfl⟩, ⟨rfl, rfl⟩, ⟨rfl, rfl⟩, ⟨rfl, rfl⟩, ⟨rfl, rfl⟩, ⟨rfl, rfl⟩, ⟨rfl, rfl⟩, ⟨rfl, rfl⟩, ⟨rfl, rfl⟩, ⟨rfl, rfl⟩, ⟨rfl, rfl⟩, ⟨rfl, rfl⟩, ⟨rfl, rfl⟩, ⟨rfl, rfl⟩, ⟨rfl, rfl⟩, ⟨rfl, rfl⟩, ⟨rfl, rfl⟩, ⟨rfl, rfl⟩, trivial⟩, ?_⟩
    exact hc
  · intro E θ a w hD hi hp he hc
    have e2 := hp.of (k := 2) rfl
    have hf := he.h0
    replace hf := hf.more he 4 rfl (onP e2)
    refine stE hf hc rfl rfl rfl (eLd1 sc_3 rfl (cell_box m1 rfl)) fun a w hf hc => ?_
    refine cNil ?_
    refine xThenN ?_
    intro ds u hau
    refine ⟨θ, he.put hi hau hf rfl [] trivial ⟨⟨rfl, rfl⟩, ⟨rfl, rfl⟩, ⟨rfl, rfl⟩, ⟨rfl, rfl⟩, ⟨rfl, rfl⟩, ⟨rfl, rfl⟩, ⟨rfl, rfl⟩, ⟨rfl, rfl⟩, ⟨rfl, rfl⟩, ⟨rfl, rfl⟩, ⟨rfl, rfl⟩, ⟨rfl, rfl⟩, ⟨rfl, rfl⟩, ⟨rfl, rfl⟩, ⟨rfl, rfl⟩, ⟨rfl, rfl⟩, ⟨rfl, rfl⟩, ⟨rfl, rfl⟩, ⟨rfl, rfl⟩, ⟨rfl, rfl⟩, trivial⟩, ?_⟩
    exact hc
  · intro E θ a w hD hi hp he hc
    have hf := he.h0
    replace hf := hf.more he 0 rfl (onT)
    refine stP hf rfl rfl rfl (pFA fa_26_0 rfl) fun a hf => ?_
    refine cNil ?_
    refine xThenN ?_
    intro ds u hau
    refine ⟨θ, he.put hi hau hf rfl [] trivial ⟨⟨rfl, rfl⟩, ⟨rfl, rfl⟩, ⟨rfl, rfl⟩, ⟨rfl, rfl⟩, ⟨rfl, rfl⟩, ⟨rfl, rfl⟩, ⟨rfl, rfl⟩, ⟨rfl, rfl⟩, ⟨rfl, rfl⟩, ⟨rfl, rfl⟩, ⟨rfl, rfl⟩, ⟨rfl, rfl⟩, ⟨rfl, rfl⟩, ⟨rfl, rfl⟩, ⟨rfl, rfl⟩, ⟨rfl, rfl⟩, ⟨rfl, rfl⟩, ⟨rfl, rfl⟩, ⟨rfl, rfl⟩, ⟨rfl, rfl⟩, trivial⟩, ?_⟩
    exact hc
  · intro E θ a w hD hi hp he hc
    have e4 := hp.of (k := 4) rfl
    have hf := he.h0
    replace hf := hf.more he 6 rfl (onP e4)
    refine stP hf rfl rfl rfl (pFA fa_24_1 rfl) fun a hf => ?_
    refine cNil ?_
    refine xThenN ?_
    intro ds u hau
    refine ⟨θ, he.put hi hau hf rfl [] trivial ⟨⟨rfl, rfl⟩, ⟨rfl, rfl⟩, ⟨rfl, rfl⟩, ⟨rfl, rfl⟩, ⟨rfl, rfl⟩, ⟨rfl, rfl⟩, ⟨rfl, rfl⟩, ⟨rfl, rfl⟩, ⟨rfl, rfl⟩, ⟨rfl, rfl⟩, ⟨rfl, rfl⟩, ⟨rfl, rfl⟩, ⟨rfl, rfl⟩, ⟨rfl, rfl⟩, ⟨rfl, rfl⟩, ⟨rfl, rfl⟩, ⟨rfl, rfl⟩, ⟨rfl, rfl⟩, ⟨rfl, rfl⟩, ⟨rfl, rfl⟩, trivial⟩, ?_⟩
    exact hc
  · intro E θ a w hD hi hp he hc
    have e5 := hp.of (k := 5) rfl
    have hf := he.h0
    replace hf := hf.more he 7 rfl (onP e5)
    refine stE hf hc rfl rfl rfl (eLd1 sc_3 rfl (cell_box m1 rfl)) fun a w hf hc => ?_
    refine cNil ?_
    refine xThenN ?_
    intro ds u hau
    refine ⟨θ, he.put hi hau hf rfl [] trivial ⟨⟨rfl, rfl⟩, ⟨rfl, rfl⟩, ⟨rfl, rfl⟩, ⟨rfl, rfl⟩, ⟨rfl, rfl⟩, ⟨rfl, rfl⟩, ⟨rfl, rfl⟩, ⟨rfl, rfl⟩, ⟨rfl, rfl⟩, ⟨rfl, rfl⟩, ⟨rfl, rfl⟩, ⟨rfl, rfl⟩, ⟨rfl, rfl⟩, ⟨rfl, rfl⟩, ⟨rfl, rfl⟩, ⟨rfl, rfl⟩, ⟨rfl, rfl⟩, ⟨rfl, rfl⟩, ⟨rfl, rfl⟩, ⟨rfl, rfl⟩, trivial⟩, ?_⟩
    exact hc
  · intro E θ a w hD hi hp he hc
    have e0 := hp.of (k := 0) rfl
    have e3 := hp.of (k := 3) rfl
    have e6 := hp.of (k := 6) rfl
    have e15 := hD.f 0 rfl hi
    replace hc : Ctx G ((bif E 15 then .box b_3 [.slice truth_p truth.length truth_c, .int .i64 r_4.2.1, .int .i64 r_4.2.2] 104 else bif E 7 then .box b_3 [.slice truth_p truth.length truth_c, .int .i64 r_3.2.1, .int .i64 r_3.2.2] 104 else .box b_3 [.slice truth_p truth.length truth_c, .int .i64 r_2.1, .int .i64 r_2.2] 104) :: .box b_2 [.int .i64 r_1.1.Rate.Lo, .int .i64 r_1.1.Rate.Hi, .int .i64 r_1.1.Strong.Lo, .int .i64 r_1.1.Strong.Hi, .int .i64 r_1.1.Found.Lo, .int .i64 r_1.1.Found.Hi, .int .i64 r_1.1.Clean.Lo, .int .i64 r_1.1.Clean.Hi] 26 :: .box b_1 [.slice numbers_p numbers.length numbers_c, .int .i64 r_1.2.1, .int .i64 r_1.2.2] 104 :: Lf) w := hc
    rw [hi, e15] at hc
    replace hc : Ctx G (.box b_3 [.slice truth_p truth.length truth_c, .int .i64 r_2.1, .int .i64 r_2.2] 104 :: .box b_2 [.int .i64 r_1.1.Rate.Lo, .int .i64 r_1.1.Rate.Hi, .int .i64 r_1.1.Strong.Lo, .int .i64 r_1.1.Strong.Hi, .int .i64 r_1.1.Found.Lo, .int .i64 r_1.1.Found.Hi, .int .i64 r_1.1.Clean.Lo, .int .i64 r_1.1.Clean.Hi] 26 :: .box b_1 [.slice numbers_p numbers.length numbers_c, .int .i64 r_1.2.1, .int .i64 r_1.2.2] 104 :: Lf) w := hc
    have hf := he.h0
    replace hf := hf.more he 2 rfl (onP e0)
    replace hf := hf.more he 5 rfl (onP e3)
    replace hf := hf.more he 8 rfl (onP e6)
    refine stC (vs := [.pointer (some ⟨b_3, 0, none⟩), .int .i64 r_1.1.Rate.Lo, .int .i64 r_1.1.Rate.Hi]) (caps := []) hf rfl rfl rfl en_12 rfl rfl rfl rfl (kit_Stream_Within_ok (⟨truth, r_2.1, r_2.2⟩ : kit_Stream) r_1.1.Rate.Lo r_1.1.Rate.Hi h_truth (hc.pick k0) hr_3) ?_
    rintro _ w ⟨rfl, hc⟩
    refine ⟨_, rfl, fun a hf => ?_⟩
    refine cNil ?_
    refine xThenN ?_
    intro ds u hau
    refine ⟨θ, he.put hi hau hf rfl [] trivial ⟨⟨rfl, rfl⟩, ⟨rfl, rfl⟩, ⟨rfl, rfl⟩, ⟨rfl, rfl⟩, ⟨rfl, rfl⟩, ⟨rfl, rfl⟩, ⟨rfl, rfl⟩, ⟨rfl, rfl⟩, ⟨rfl, rfl⟩, ⟨rfl, rfl⟩, ⟨rfl, rfl⟩, ⟨rfl, rfl⟩, ⟨rfl, rfl⟩, ⟨rfl, rfl⟩, ⟨rfl, rfl⟩, ⟨rfl, rfl⟩, ⟨rfl, rfl⟩, ⟨rfl, rfl⟩, ⟨rfl, rfl⟩, ⟨rfl, rfl⟩, trivial⟩, ?_⟩
    show Ctx G ((bif E 15 then .box b_3 [.slice truth_p truth.length truth_c, .int .i64 r_4.2.1, .int .i64 r_4.2.2] 104 else bif true then .box b_3 [.slice truth_p truth.length truth_c, .int .i64 r_3.2.1, .int .i64 r_3.2.2] 104 else .box b_3 [.slice truth_p truth.length truth_c, .int .i64 r_2.1, .int .i64 r_2.2] 104) :: .box b_2 [.int .i64 r_1.1.Rate.Lo, .int .i64 r_1.1.Rate.Hi, .int .i64 r_1.1.Strong.Lo, .int .i64 r_1.1.Strong.Hi, .int .i64 r_1.1.Found.Lo, .int .i64 r_1.1.Found.Hi, .int .i64 r_1.1.Clean.Lo, .int .i64 r_1.1.Clean.Hi] 26 :: .box b_1 [.slice numbers_p numbers.length numbers_c, .int .i64 r_1.2.1, .int .i64 r_1.2.2] 104 :: Lf) w
    rw [e15]
    exact hc
  · intro E θ a w hD hi hp he hc
    have hf := he.h0
    replace hf := hf.more he 1 rfl (onT)
    refine stP hf rfl rfl rfl (pM rfl) fun a hf => ?_
    refine cNil ?_
    refine xThenN ?_
    intro ds u hau
    refine ⟨θ, he.put hi hau hf rfl [] trivial ⟨⟨rfl, rfl⟩, ⟨rfl, rfl⟩, ⟨rfl, rfl⟩, ⟨rfl, rfl⟩, ⟨rfl, rfl⟩, ⟨rfl, rfl⟩, ⟨rfl, rfl⟩, ⟨rfl, rfl⟩, ⟨rfl, rfl⟩, ⟨rfl, rfl⟩, ⟨rfl, rfl⟩, ⟨rfl, rfl⟩, ⟨rfl, rfl⟩, ⟨rfl, rfl⟩, ⟨rfl, rfl⟩, ⟨rfl, rfl⟩, ⟨rfl, rfl⟩, ⟨rfl, rfl⟩, ⟨rfl, rfl⟩, ⟨rfl, rfl⟩, trivial⟩, ?_⟩
    exact hc
  · intro E θ a w hD hi hp he hc
    have hf := he.h0
    replace hf := hf.more he 0 rfl (onT)
    refine stP hf rfl rfl rfl (pFA fa_26_1 rfl) fun a hf => ?_
    refine cNil ?_
    refine xThenN ?_
    intro ds u hau
    refine ⟨θ, he.put hi hau hf rfl [] trivial ⟨⟨rfl, rfl⟩, ⟨rfl, rfl⟩, ⟨rfl, rfl⟩, ⟨rfl, rfl⟩, ⟨rfl, rfl⟩, ⟨rfl, rfl⟩, ⟨rfl, rfl⟩, ⟨rfl, rfl⟩, ⟨rfl, rfl⟩, ⟨rfl, rfl⟩, ⟨rfl, rfl⟩, ⟨rfl, rfl⟩, ⟨rfl, rfl⟩, ⟨rfl, rfl⟩, ⟨rfl, rfl⟩, ⟨rfl, rfl⟩, ⟨rfl, rfl⟩, ⟨rfl, rfl⟩, ⟨rfl, rfl⟩, ⟨rfl, rfl⟩, trivial⟩, ?_⟩
    exact hc
  · intro E θ a w hD hi hp he hc
    have e9 := hp.of (k := 9) rfl
    have hf := he.h0
    replace hf := hf.more he 11 rfl (onP e9)
    refine stP hf rfl rfl rfl (pFA fa_24_0 rfl) fun a hf => ?_
    refine cNil ?_
    refine xThenN ?_
    intro ds u hau
    refine ⟨θ, he.put hi hau hf rfl [] trivial ⟨⟨rfl, rfl⟩, ⟨rfl, rfl⟩, ⟨rfl, rfl⟩, ⟨rfl, rfl⟩, ⟨rfl, rfl⟩, ⟨rfl, rfl⟩, ⟨rfl, rfl⟩, ⟨rfl, rfl⟩, ⟨rfl, rfl⟩, ⟨rfl, rfl⟩, ⟨rfl, rfl⟩, ⟨rfl, rfl⟩, ⟨rfl, rfl⟩, ⟨rfl, rfl⟩, ⟨rfl, rfl⟩, ⟨rfl, rfl⟩, ⟨rfl, rfl⟩, ⟨rfl, rfl⟩, ⟨rfl, rfl⟩, ⟨rfl, rfl⟩, trivial⟩, ?_⟩
    exact hc
  · intro E θ a w hD hi hp he hc
    have e10 := hp.of (k := 10) rfl
    have hf := he.h0
    replace hf := hf.more he 12 rfl (onP e10)
    refine stE hf hc rfl rfl rfl (eLd1 sc_3 rfl (cell_box m1 rfl)) fun a w hf hc => ?_
    refine cNil ?_
    refine xThenN ?_
    intro ds u hau
    refine ⟨θ, he.put hi hau hf rfl [] trivial ⟨⟨rfl, rfl⟩, ⟨rfl, rfl⟩, ⟨rfl, rfl⟩, ⟨rfl, rfl⟩, ⟨rfl, rfl⟩, ⟨rfl, rfl⟩, ⟨rfl, rfl⟩, ⟨rfl, rfl⟩, ⟨rfl, rfl⟩, ⟨rfl, rfl⟩, ⟨rfl, rfl⟩, ⟨rfl, rfl⟩, ⟨rfl, rfl⟩, ⟨rfl, rfl⟩, ⟨rfl, rfl⟩, ⟨rfl, rfl⟩, ⟨rfl, rfl⟩, ⟨rfl, rfl⟩, ⟨rfl, rfl⟩, ⟨rfl, rfl⟩, trivial⟩, ?_⟩
    exact hc
  · intro E θ a w hD hi hp he hc
    have hf := he.h0
    replace hf := hf.more he 0 rfl (onT)
    refine stP hf rfl rfl rfl (pFA fa_26_1 rfl) fun a hf => ?_
    refine cNil ?_
    refine xThenN ?_
    intro ds u hau
    refine ⟨θ, he.put hi hau hf rfl [] trivial ⟨⟨rfl, rfl⟩, ⟨rfl, rfl⟩, ⟨rfl, rfl⟩, ⟨rfl, rfl⟩, ⟨rfl, rfl⟩, ⟨rfl, rfl⟩, ⟨rfl, rfl⟩, ⟨rfl, rfl⟩, ⟨rfl, rfl⟩, ⟨rfl, rfl⟩, ⟨rfl, rfl⟩, ⟨rfl, rfl⟩, ⟨rfl, rfl⟩, ⟨rfl, rfl⟩, ⟨rfl, rfl⟩, ⟨rfl, rfl⟩, ⟨rfl, rfl⟩, ⟨rfl, rfl⟩, ⟨rfl, rfl⟩, ⟨rfl, rfl⟩, trivial⟩, ?_⟩
    exact hc
  · intro E θ a w hD hi hp he hc
    have e12 := hp.of (k := 12) rfl
    have hf := he.h0
    replace hf := hf.more he 14 rfl (onP e12)
    refine stP hf rfl rfl rfl (pFA fa_24_1 rfl) fun a hf => ?_
    refine cNil ?_
    refine xThenN ?_
    intro ds u hau
    refine ⟨θ, he.put hi hau hf rfl [] trivial ⟨⟨rfl, rfl⟩, ⟨rfl, rfl⟩, ⟨rfl, rfl⟩, ⟨rfl, rfl⟩, ⟨rfl, rfl⟩, ⟨rfl, rfl⟩, ⟨rfl, rfl⟩, ⟨rfl, rfl⟩, ⟨rfl, rfl⟩, ⟨rfl, rfl⟩, ⟨rfl, rfl⟩, ⟨rfl, rfl⟩, ⟨rfl, rfl⟩, ⟨rfl, rfl⟩, ⟨rfl, rfl⟩, ⟨rfl, rfl⟩, ⟨rfl, rfl⟩, ⟨rfl, rfl⟩, ⟨rfl, rfl⟩, ⟨rfl, rfl⟩, trivial⟩, ?_⟩
    exact hc
  · intro E θ a w hD hi hp he hc
    have e13 := hp.of (k := 13) rfl
    have hf := he.h0
    replace hf := hf.more he 15 rfl (onP e13)
    refine stE hf hc rfl rfl rfl (eLd1 sc_3 rfl (cell_box m1 rfl)) fun a w hf hc => ?_
    refine cNil ?_
    refine xThenN ?_
    intro ds u hau
    refine ⟨θ, he.put hi hau hf rfl [] trivial ⟨⟨rfl, rfl⟩, ⟨rfl, rfl⟩, ⟨rfl, rfl⟩, ⟨rfl, rfl⟩, ⟨rfl, rfl⟩, ⟨rfl, rfl⟩, ⟨rfl, rfl⟩, ⟨rfl, rfl⟩, ⟨rfl, rfl⟩, ⟨rfl, rfl⟩, ⟨rfl, rfl⟩, ⟨rfl, rfl⟩, ⟨rfl, rfl⟩, ⟨rfl, rfl⟩, ⟨rfl, rfl⟩, ⟨rfl, rfl⟩, ⟨rfl, rfl⟩, ⟨rfl, rfl⟩, ⟨rfl, rfl⟩, ⟨rfl, rfl⟩, trivial⟩, ?_⟩
    exact hc
  · intro E θ a w hD hi hp he hc
    have e8 := hp.of (k := 8) rfl
    have e11 := hp.of (k := 11) rfl
    have e14 := hp.of (k := 14) rfl
    have e7 := hp.of (k := 7) rfl
    replace hc : Ctx G ((bif E 15 then .box b_3 [.slice truth_p truth.length truth_c, .int .i64 r_4.2.1, .int .i64 r_4.2.2] 104 else bif E 7 then .box b_3 [.slice truth_p truth.length truth_c, .int .i64 r_3.2.1, .int .i64 r_3.2.2] 104 else .box b_3 [.slice truth_p truth.length truth_c, .int .i64 r_2.1, .int .i64 r_2.2] 104) :: .box b_2 [.int .i64 r_1.1.Rate.Lo, .int .i64 r_1.1.Rate.Hi, .int .i64 r_1.1.Strong.Lo, .int .i64 r_1.1.Strong.Hi, .int .i64 r_1.1.Found.Lo, .int .i64 r_1.1.Found.Hi, .int .i64 r_1.1.Clean.Lo, .int .i64 r_1.1.Clean.Hi] 26 :: .box b_1 [.slice numbers_p numbers.length numbers_c, .int .i64 r_1.2.1, .int .i64 r_1.2.2] 104 :: Lf) w := hc
    rw [e7, hi] at hc
    replace hc : Ctx G (.box b_3 [.slice truth_p truth.length truth_c, .int .i64 r_3.2.1, .int .i64 r_3.2.2] 104 :: .box b_2 [.int .i64 r_1.1.Rate.Lo, .int .i64 r_1.1.Rate.Hi, .int .i64 r_1.1.Strong.Lo, .int .i64 r_1.1.Strong.Hi, .int .i64 r_1.1.Found.Lo, .int .i64 r_1.1.Found.Hi, .int .i64 r_1.1.Clean.Lo, .int .i64 r_1.1.Clean.Hi] 26 :: .box b_1 [.slice numbers_p numbers.length numbers_c, .int .i64 r_1.2.1, .int .i64 r_1.2.2] 104 :: Lf) w := hc
    have hf := he.h0
    replace hf := hf.more he 10 rfl (onP e8)
    replace hf := hf.more he 13 rfl (onP e11)
    replace hf := hf.more he 16 rfl (onP e14)
    refine stC (vs := [.pointer (some ⟨b_3, 0, none⟩), .int .i64 r_1.1.Strong.Lo, .int .i64 r_1.1.Strong.Hi]) (caps := []) hf rfl rfl rfl en_12 rfl rfl rfl rfl (kit_Stream_Within_ok (⟨truth, r_3.2.1, r_3.2.2⟩ : kit_Stream) r_1.1.Strong.Lo r_1.1.Strong.Hi h_truth (hc.pick k0) hr_4) ?_
    rintro _ w ⟨rfl, hc⟩
    refine ⟨_, rfl, fun a hf => ?_⟩
    refine cNil ?_
    refine xThenN ?_
    intro ds u hau
    refine ⟨θ, he.put hi hau hf rfl [] trivial ⟨⟨rfl, rfl⟩, ⟨rfl, rfl⟩, ⟨rfl, rfl⟩, ⟨rfl, rfl⟩, ⟨rfl, rfl⟩, ⟨rfl, rfl⟩, ⟨rfl, rfl⟩, ⟨rfl, rfl⟩, ⟨rfl, rfl⟩, ⟨rfl, rfl⟩, ⟨rfl, rfl⟩, ⟨rfl, rfl⟩, ⟨rfl, rfl⟩, ⟨rfl, rfl⟩, ⟨rfl, rfl⟩, ⟨rfl, rfl⟩, ⟨rfl, rfl⟩, ⟨rfl, rfl⟩, ⟨rfl, rfl⟩, ⟨rfl, rfl⟩, trivial⟩, ?_⟩
    show Ctx G ((bif true then .box b_3 [.slice truth_p truth.length truth_c, .int .i64 r_4.2.1, .int .i64 r_4.2.2] 104 else bif E 7 then .box b_3 [.slice truth_p truth.length truth_c, .int .i64 r_3.2.1, .int .i64 r_3.2.2] 104 else .box b_3 [.slice truth_p truth.length truth_c, .int .i64 r_2.1, .int .i64 r_2.2] 104) :: .box b_2 [.int .i64 r_1.1.Rate.Lo, .int .i64 r_1.1.Rate.Hi, .int .i64 r_1.1.Strong.Lo, .int .i64 r_1.1.Strong.Hi, .int .i64 r_1.1.Found.Lo, .int .i64 r_1.1.Found.Hi, .int .i64 r_1.1.Clean.Lo, .int .i64 r_1.1.Clean.Hi] 26 :: .box b_1 [.slice numbers_p numbers.length numbers_c, .int .i64 r_1.2.1, .int .i64 r_1.2.2] 104 :: Lf) w
    rw [e7]
    exact hc
  · intro E θ a w hD hi hp he hc
    have e7 := hp.of (k := 7) rfl
    have hf := he.h0
    replace hf := hf.more he 9 rfl (onP e7)
    refine stP hf rfl rfl rfl (pA rfl) fun a hf => ?_
    refine cNil ?_
    refine xThenN ?_
    intro ds u hau
    refine ⟨θ, he.put hi hau hf rfl [] trivial ⟨⟨rfl, rfl⟩, ⟨rfl, rfl⟩, ⟨rfl, rfl⟩, ⟨rfl, rfl⟩, ⟨rfl, rfl⟩, ⟨rfl, rfl⟩, ⟨rfl, rfl⟩, ⟨rfl, rfl⟩, ⟨rfl, rfl⟩, ⟨rfl, rfl⟩, ⟨rfl, rfl⟩, ⟨rfl, rfl⟩, ⟨rfl, rfl⟩, ⟨rfl, rfl⟩, ⟨rfl, rfl⟩, ⟨rfl, rfl⟩, ⟨rfl, rfl⟩, ⟨rfl, rfl⟩, ⟨rfl, rfl⟩, ⟨rfl, rfl⟩, trivial⟩, ?_⟩
    exact hc
  · intro E θ a w hD hi hp he hc
    have e15 := hp.of (k := 15) rfl
    have hf := he.h0
    replace hf := hf.more he 17 rfl (onP e15)
    refine stP hf rfl rfl rfl (pA rfl) fun a hf => ?_
    refine cNil ?_
    refine xThenN ?_
    intro ds u hau
    refine ⟨θ, he.put hi hau hf rfl [] trivial ⟨⟨rfl, rfl⟩, ⟨rfl, rfl⟩, ⟨rfl, rfl⟩, ⟨rfl, rfl⟩, ⟨rfl, rfl⟩, ⟨rfl, rfl⟩, ⟨rfl, rfl⟩, ⟨rfl, rfl⟩, ⟨rfl, rfl⟩, ⟨rfl, rfl⟩, ⟨rfl, rfl⟩, ⟨rfl, rfl⟩, ⟨rfl, rfl⟩, ⟨rfl, rfl⟩, ⟨rfl, rfl⟩, ⟨rfl, rfl⟩, ⟨rfl, rfl⟩, ⟨rfl, rfl⟩, ⟨rfl, rfl⟩, ⟨rfl, rfl⟩, trivial⟩, ?_⟩
    exact hc
  · intro E θ a w hall he hc
    have hf := he.h0
    have e7 := hall 7 rfl
    have e15 := hall 15 rfl
    have e16 := hall 16 rfl
    have e17 := hall 17 rfl
    replace hf := hf.more he 19 rfl (onP e17)
    replace hf := hf.more he 18 rfl (onP e16)
    replace hf := hf.more he 1 rfl (onT)
    replace hf := hf.more he 0 rfl (onT)
    replace hc : Ctx G ((bif E 15 then .box b_3 [.slice truth_p truth.length truth_c, .int .i64 r_4.2.1, .int .i64 r_4.2.2] 104 else bif E 7 then .box b_3 [.slice truth_p truth.length truth_c, .int .i64 r_3.2.1, .int .i64 r_3.2.2] 104 else .box b_3 [.slice truth_p truth.length truth_c, .int .i64 r_2.1, .int .i64 r_2.2] 104) :: .box b_2 [.int .i64 r_1.1.Rate.Lo, .int .i64 r_1.1.Rate.Hi, .int .i64 r_1.1.Strong.Lo, .int .i64 r_1.1.Strong.Hi, .int .i64 r_1.1.Found.Lo, .int .i64 r_1.1.Found.Hi, .int .i64 r_1.1.Clean.Lo, .int .i64 r_1.1.Clean.Hi] 26 :: .box b_1 [.slice numbers_p numbers.length numbers_c, .int .i64 r_1.2.1, .int .i64 r_1.2.2] 104 :: Lf) w := hc
    rw [e7, e15] at hc
    exact ⟨hf.keep ⟨rfl, rfl, rfl, rfl, trivial⟩, hc⟩
  rintro a w ⟨hf, hc⟩
  refine h4 _ _ ?_
  refine wp_seq_k fun K5 h5 => ?_
  obtain ⟨r_5, hr_5, hF⟩ := bnd_some hF
  obtain ⟨r_6, hr_6, hF⟩ := bnd_some hF
  refine regionE (fun θ => [⟨none, none, 5, .pointer (some ⟨b_2, 0, none⟩)⟩, ⟨none, none, 6, .pointer (some ⟨b_3, 0, none⟩)⟩, ⟨none, none, 7, .int .i64 r_3.1⟩, ⟨none, none, 8, .int .i64 r_4.1⟩, ⟨some 0, none, 40, .pointer (some ⟨b_3, 0, none⟩)⟩, ⟨some 1, none, 41, .pointer (some ⟨b_2, 4, none⟩)⟩, ⟨some 2, none, 42, .pointer (some ⟨b_2, 4, none⟩)⟩, ⟨some 3, none, 43, .int .i64 r_1.1.Found.Lo⟩, ⟨some 4, none, 44, .pointer (some ⟨b_2, 4, none⟩)⟩, ⟨some 5, none, 45, .pointer (some ⟨b_2, 5, none⟩)⟩, ⟨some 6, none, 46, .int .i64 r_1.1.Found.Hi⟩, ⟨some 7, none, 47, .int .i64 r_5.1⟩, ⟨some 8, none, 48, .pointer (some ⟨b_3, 0, none⟩)⟩, ⟨some 9, none, 49, .pointer (some ⟨b_2, 6, none⟩)⟩, ⟨some 10, none, 50, .pointer (some ⟨b_2, 6, none⟩)⟩, ⟨some 11, none, 51, .int .i64 r_1.1.Clean.Lo⟩, ⟨some 12, none, 52, .pointer (some ⟨b_2, 6, none⟩)⟩, ⟨some 13, none, 53, .pointer (some ⟨b_2, 7, none⟩)⟩, ⟨some 14, none, 54, .int .i64 r_1.1.Clean.Hi⟩, ⟨some 15, none, 55, .int .i64 r_6.1⟩, ⟨some 16, none, 9, .int .i64 r_5.1⟩, ⟨some 17, none, 10, .int .i64 r_6.1⟩]) (fun E θ => (bif E 15 then .box b_3 [.slice truth_p truth.length truth_c, .int .i64 r_6.2.1, .int .i64 r_6.2.2] 104 else bif E 7 then .box b_3 [.slice truth_p truth.length truth_c, .int .i64 r_5.2.1, .int .i64 r_5.2.2] 104 else .box b_3 [.slice truth_p truth.length truth_c, .int .i64 r_4.2.1, .int .i64 r_4.2.2] 104) :: .box b_2 [.int .i64 r_1.1.Rate.Lo, .int .i64 r_1.1.Rate.Hi, .int .i64 r_1.1.Strong.Lo, .int .i64 r_1.1.Strong.Hi, .int .i64 r_1.1.Found.Lo, .int .i64 r_1.1.Found.Hi, .int .i64 r_1.1.Clean.Lo, .int .i64 r_1.1.Clean.Hi] 26 :: .box b_1 [.slice numbers_p numbers.length numbers_c, .int .i64 r_1.2.1, .int .i64 r_1.2.2] 104 :: Lf) [(15, 7)] (fun a w => Has 202 a [(5, .pointer (some ⟨b_2, 0, none⟩)), (7, .int .i64 r_3.1), (8, .int .i64 r_4.1), (9, .int .i64 r_5.1), (10, .int .i64 r_6.1)] ∧ Ctx G (.box b_3 [.slice truth_p truth.length truth_c, .int .i64 r_6.2.1, .int .i64 r_6.2.2] 104 :: .box b_2 [.int .i64 r_1.1.Rate.Lo, .int .i64 r_1.1.Rate.Hi, .int .i64 r_1.1.Strong.Lo, .int .i64 r_1.1.Strong.Hi, .int .i64 r_1.1.Found.Lo, .int .i64 r_1.1.Found.Hi, .int .i64 r_1.1.Clean.Lo, .int .i64 r_1.1.Clean.Hi] 26 :: .box b_1 [.slice numbers_p numbers.length numbers_c, .int .i64 r_1.2.1, .int .i64 r_1.2.2] 104 :: Lf) w) mixed (by kernel_rfl) (by kernel_rfl) (HasE.of hf ⟨rfl, rfl, rfl, rfl, trivial, trivial, trivial, trivial, trivial, trivial, trivial, trivial, trivial, trivial, trivial, trivial, trivial, trivial, trivial, trivial, trivial, trivial, trivial⟩) hc ⟨?_, ?_, ?_, ?_, ?_, ?_, ?_, ?_, ?_, ?_, ?_, ?_, ?_, ?_, ?_, ?_, ?_, ?_, trivial⟩ ?_ ?_
  · intro E θ a w hD hi hp he hc
    have hf := he.h0
    replace hf := hf.more he 1 rfl (onT)
    refine stP hf rfl rfl rfl (pM rfl) fun a hf => ?_
    refine cNil ?_
    refine xThenN ?_
    intro ds u hau
    refine ⟨θ, he.put hi hau hf rfl [] trivial ⟨⟨rfl, rfl⟩, ⟨rfl, rfl⟩, ⟨rfl, rfl⟩, ⟨rfl, rfl⟩, ⟨rfl, rfl⟩, ⟨rfl, rfl⟩, ⟨rfl, rfl⟩, ⟨rfl, rfl⟩, ⟨rfl, rfl⟩, ⟨rfl, rfl⟩, ⟨rfl, rfl⟩, ⟨rfl, rfl⟩, ⟨rfl, rfl⟩, ⟨rfl, rfl⟩, ⟨rfl, rfl⟩, ⟨rfl, rfl⟩, ⟨rfl, rfl⟩, ⟨rfl, rfl⟩, ⟨rfl, rfl⟩, ⟨rfl, rfl⟩, ⟨rfl, rfl⟩, ⟨rfl, rfl⟩, trivial⟩, ?_⟩
    exact hc
  · intro E θ a w hD hi hp he hc
    have hf := he.h0
    replace hf := hf.more he 0 rfl (onT)
    refine stP hf rfl rfl rfl (pFA fa_26_2 rfl) fun a hf => ?_
    refine cNil ?_
    refine xThenN ?_
    intro ds u hau
    refine ⟨θ, he.put hi hau hf rfl [] trivial ⟨⟨rfl, rfl⟩, ⟨rfl, rfl⟩, ⟨rfl, rfl⟩, ⟨rfl, rfl⟩, ⟨rfl, rfl⟩, ⟨rfl, rfl⟩, ⟨rfl, rfl⟩, ⟨rfl, rfl⟩, ⟨rfl, rfl⟩, ⟨rfl, rfl⟩, ⟨rfl, rfl⟩, ⟨rfl, rfl⟩, ⟨rfl, rfl⟩, ⟨rfl, rfl⟩, ⟨rfl, rfl⟩, ⟨rfl, rfl⟩, ⟨rfl, rfl⟩, ⟨rfl, rfl⟩, ⟨rfl, rfl⟩, ⟨rfl, rfl⟩, ⟨rfl, rfl⟩, ⟨rfl, rfl⟩, trivial⟩, ?_⟩
    exact hc
  · intro E θ a w hD hi hp he hc
    have e1 := hp.of (k := 1) rfl
    have hf := he.h0
    replace hf := hf.more he 5 rfl (onP e1)
    refine stP hf rfl rfl rfl (pFA fa_24_0 rfl) fun a hf => ?_
    refine cNil ?_
    refine xThenN ?_
    intro ds u hau
    refine ⟨θ, he.put hi hau hf rfl [] trivial ⟨⟨rfl, rfl⟩, ⟨rfl, rfl⟩, ⟨rfl, rfl⟩, ⟨rfl, rfl⟩, ⟨rfl, rfl⟩, ⟨rfl, rfl⟩, ⟨rfl, rfl⟩, ⟨rfl, rfl⟩, ⟨rfl, rfl⟩, ⟨rfl, rfl⟩, ⟨rfl, rfl⟩, ⟨rfl, rfl⟩, ⟨rfl, rfl⟩, ⟨rfl, rfl⟩, ⟨rfl, rfl⟩, ⟨rfl, rfl⟩, ⟨rfl, rfl⟩, ⟨rfl, rfl⟩, ⟨rfl, rfl⟩, ⟨rfl, rfl⟩, ⟨rfl, rfl⟩, ⟨rfl, rfl⟩, trivial⟩, ?_⟩
    exact hc
  · intro E θ a w hD hi hp he hc
    have e2 := hp.of (k := 2) rfl
    have hf := he.h0
    replace hf := hf.more he 6 rfl (onP e2)
    refine stE hf hc rfl rfl rfl (eLd1 sc_3 rfl (cell_box m1 rfl)) fun a w hf hc => ?_
    refine cNil ?_
    refine xThenN ?_
    intro ds u hau
    refine ⟨θ, he.put hi hau hf rfl [] trivial ⟨⟨rfl, rfl⟩, ⟨rfl, rfl⟩, ⟨rfl, rfl⟩, ⟨rfl, rfl⟩, ⟨rfl, rfl⟩, ⟨rfl, rfl⟩, ⟨rfl, rfl⟩, ⟨rfl, rfl⟩, ⟨rfl, rfl⟩, ⟨rfl, rfl⟩, ⟨rfl, rfl⟩, ⟨rfl, rfl⟩, ⟨rfl, rfl⟩, ⟨rfl, rfl⟩, ⟨rfl, rfl⟩, ⟨rfl, rfl⟩, ⟨rfl, rfl⟩, ⟨rfl, rfl⟩, ⟨rfl, rfl⟩, ⟨rfl, rfl⟩, ⟨rfl, rfl⟩, ⟨rfl, rfl⟩, trivial⟩, ?_⟩
    exact hc
  · intro E θ a w hD hi hp he hc
    have hf := he.h0
    replace hf := hf.more he 0 rfl (onT)
    refine stP hf rfl rfl rfl (pFA fa_26_2 rfl) fun a hf => ?_
    refine cNil ?_
    refine xThenN ?_
    intro ds u hau
    refine ⟨θ, he.put hi hau hf rfl [] trivial ⟨⟨rfl, rfl⟩, ⟨rfl, rfl⟩, ⟨rfl, rfl⟩, ⟨rfl, rfl⟩, ⟨rfl, rfl⟩, ⟨rfl, rfl⟩, ⟨rfl, rfl⟩, ⟨rfl, rfl⟩, ⟨rfl, rfl⟩, ⟨rfl, rfl⟩, ⟨rfl, rfl⟩, ⟨rfl, rfl⟩, ⟨rfl, rfl⟩, ⟨rfl, rfl⟩, ⟨rfl, rfl⟩, ⟨rfl, rfl⟩, ⟨rfl, rfl⟩, ⟨rfl, rfl⟩, ⟨rfl, rfl⟩, ⟨rfl, rfl⟩, ⟨rfl, rfl⟩, ⟨rfl, rfl⟩, trivial⟩, ?_⟩
    exact hc
  · intro E θ a w hD hi hp he hc
    have e4 := hp.of (k := 4) rfl
    have hf := he.h0
    replace hf := hf.more he 8 rfl (onP e4)
    refine stP hf rfl rfl rfl (pFA fa_24_1 rfl) fun a hf => ?_
    refine cNil ?_
    refine xThenN ?_
    intro ds u hau
    refine ⟨θ, he.put hi hau hf rfl [] trivial ⟨⟨rfl, rfl⟩, ⟨rfl, rfl⟩, ⟨rfl, rfl⟩, ⟨rfl, rfl⟩, ⟨rfl, rfl⟩, ⟨rfl, rfl⟩, ⟨rfl, rfl⟩, ⟨rfl, rfl⟩, ⟨rfl, rfl⟩, ⟨rfl, rfl⟩, ⟨rfl, rfl⟩, ⟨rfl, rfl⟩, ⟨rfl, rfl⟩, ⟨rfl, rfl⟩, ⟨rfl, rfl⟩, ⟨rfl, rfl⟩, ⟨rfl, rfl⟩, ⟨rfl, rfl⟩, ⟨rfl, rfl⟩, ⟨rfl, rfl⟩, ⟨rfl, rfl⟩, ⟨rfl, rfl⟩, trivial⟩, ?_⟩
    exact hc
  · intro E θ a w hD hi hp he hc
    have e5 := hp.of (k := 5) rfl
    have hf := he.h0
    replace hf := hf.more he 9 rfl (onP e5)
    refine stE hf hc rfl rfl rfl (eLd1 sc_3 rfl (cell_box m1 rfl)) fun a w hf hc => ?_
    refine cNil ?_
    refine xThenN ?_
    intro ds u hau
    refine ⟨θ, he.put hi hau hf rfl [] trivial ⟨⟨rfl, rfl⟩, ⟨rfl, rfl⟩, ⟨rfl, rfl⟩, ⟨rfl, rfl⟩, ⟨rfl, rfl⟩, ⟨rfl, rfl⟩, ⟨rfl, rfl⟩, ⟨rfl, rfl⟩, ⟨rfl, rfl⟩, ⟨rfl, rfl⟩, ⟨rfl, rfl⟩, ⟨rfl, rfl⟩, ⟨rfl, rfl⟩, ⟨rfl, rfl⟩, ⟨rfl, rfl⟩, ⟨rfl, rfl⟩, ⟨rfl, rfl⟩, ⟨rfl, rfl⟩, ⟨rfl, rfl⟩, ⟨rfl, rfl⟩, ⟨rfl, rfl⟩, ⟨rfl, rfl⟩, trivial⟩, ?_⟩
    exact hc
  · intro E θ a w hD hi hp he hc
    have e0 := hp.of (k := 0) rfl
    have e3 := hp.of (k := 3) rfl
    have e6 := hp.of (k := 6) rfl
    have e15 := hD.f 0 rfl hi
    replace hc : Ctx G ((bif E 15 then .box b_3 [.slice truth_p truth.length truth_c, .int .i64 r_6.2.1, .int .i64 r_6.2.2] 104 else bif E 7 then .box b_3 [.slice truth_p truth.length truth_c, .int .i64 r_5.2.1, .int .i64 r_5.2.2] 104 else .box b_3 [.slice truth_p truth.length truth_c, .int .i64 r_4.2.1, .int .i64 r_4.2.2] 104) :: .box b_2 [.int .i64 r_1.1.Rate.Lo, .int .i64 r_1.1.Rate.Hi, .int .i64 r_1.1.Strong.Lo, .int .i64 r_1.1.Strong.Hi, .int .i64 r_1.1.Found.Lo, .int .i64 r_1.1.Found.Hi, .int .i64 r_1.1.Clean.Lo, .int .i64 r_1.1.Clean.Hi] 26 :: .box b_1 [.slice numbers_p numbers.length numbers_c, .int .i64 r_1.2.1, .int .i64 r_1.2.2] 104 :: Lf) w := hc
    rw [hi, e15] at hc
    replace hc : Ctx G (.box b_3 [.slice truth_p truth.length truth_c, .int .i64 r_4.2.1, .int .i64 r_4.2.2] 104 :: .box b_2 [.int .i64 r_1.1.Rate.Lo, .int .i64 r_1.1.Rate.Hi, .int .i64 r_1.1.Strong.Lo, .int .i64 r_1.1.Strong.Hi, .int .i64 r_1.1.Found.Lo, .int .i64 r_1.1.Found.Hi, .int .i64 r_1.1.Clean.Lo, .int .i64 r_1.1.Clean.Hi] 26 :: .box b_1 [.slice numbers_p numbers.length numbers_c, .int .i64 r_1.2.1, .int .i64 r_1.2.2] 104 :: Lf) w := hc
    have hf := he.h0
    replace hf := hf.more he 4 rfl (onP e0)
    replace hf := hf.more he 7 rfl (onP e3)
    replace hf := hf.more he 10 rfl (onP e6)
    refine stC (vs := [.pointer (some ⟨b_3, 0, none⟩), .int .i64 r_1.1.Found.Lo, .int .i64 r_1.1.Found.Hi]) (caps := []) hf rfl rfl rfl en_12 rfl rfl rfl rfl (kit_Stream_Within_ok (⟨truth, r_4.2.1, r_4.2.2⟩ : kit_Stream) r_1.1.Found.Lo r_1.1.Found.Hi h_truth (hc.pick k0) hr_5) ?_
    rintro _ w ⟨rfl, hc⟩
    refine ⟨_, rfl, fun a hf => ?_⟩
    refine cNil ?_
    refine xThenN ?_
    intro ds u hau
    refine ⟨θ, he.put hi hau hf rfl [] trivial ⟨⟨rfl, rfl⟩, ⟨rfl, rfl⟩, ⟨rfl, rfl⟩, ⟨rfl, rfl⟩, ⟨rfl, rfl⟩, ⟨rfl, rfl⟩, ⟨rfl, rfl⟩, ⟨rfl, rfl⟩, ⟨rfl, rfl⟩, ⟨rfl, rfl⟩, ⟨rfl, rfl⟩, ⟨rfl, rfl⟩, ⟨rfl, rfl⟩, ⟨rfl, rfl⟩, ⟨rfl, rfl⟩, ⟨rfl, rfl⟩, ⟨rfl, rfl⟩, ⟨rfl, rfl⟩, ⟨rfl, rfl⟩, ⟨rfl, rfl⟩, ⟨rfl, rfl⟩, ⟨rfl, rfl⟩, trivial⟩, ?_⟩
    show Ctx G ((bif E 15 then .box b_3 [.slice truth_p truth.length truth_c, .int .i64 r_6.2.1, .int .i64 r_6.2.2] 104 else bif true then .box b_3 [.slice truth_p truth.length truth_c, .int .i64 r_5.2.1, .int .i64 r_5.2.2] 104 else .box b_3 [.slice truth_p truth.length truth_c, .int .i64 r_4.2.1, .int .i64 r_4.2.2] 104) :: .box b_2 [.int .i64 r_1.1.Rate.Lo, .int .i64 r_1.1.Rate.Hi, .int .i64 r_1.1.Strong.Lo, .int .i64 r_1.1.Strong.Hi, .int .i64 r_1.1.Found.Lo, .int .i64 r_1.1.Found.Hi, .int .i64 r_1.1.Clean.Lo, .int .i64 r_1.1.Clean.Hi] 26 :: .box b_1 [.slice numbers_p numbers.length numbers_c, .int .i64 r_1.2.1, .int .i64 r_1.2.2] 104 :: Lf) w
    rw [e15]
    exact hc
  · intro E θ a w hD hi hp he hc
    have hf := he.h0
    replace hf := hf.more he 1 rfl (onT)
    refine stP hf rfl rfl rfl (pM rfl) fun a hf => ?_
    refine cNil ?_
    refine xThenN ?_
    intro ds u hau
    refine ⟨θ, he.put hi hau hf rfl [] trivial ⟨⟨rfl, rfl⟩, ⟨rfl, rfl⟩, ⟨rfl, rfl⟩, ⟨rfl, rfl⟩, ⟨rfl, rfl⟩, ⟨rfl, rfl⟩, ⟨rfl, rfl⟩, ⟨rfl, rfl⟩, ⟨rfl, rfl⟩, ⟨rfl, rfl⟩, ⟨rfl, rfl⟩, ⟨rfl, rfl⟩, ⟨rfl, rfl⟩, ⟨rfl, rfl⟩, ⟨rfl, rfl⟩, ⟨rfl, rfl⟩, ⟨rfl, rfl⟩, ⟨rfl, rfl⟩, ⟨rfl, rfl⟩, ⟨rfl, rfl⟩, ⟨rfl, rfl⟩, ⟨rfl, rfl⟩, trivial⟩, ?_⟩
    exact hc
  · intro E θ a w hD hi hp he hc
    have hf := he.h0
    replace hf := hf.more he 0 rfl (onT)
    refine stP hf rfl rfl rfl (pFA fa_26_3 rfl) fun a hf => ?_
    refine cNil ?_
    refine xThenN ?_
    intro ds u hau
    refine ⟨θ, he.put hi hau hf rfl [] trivial ⟨⟨rfl, rfl⟩, ⟨rfl, rfl⟩, ⟨rfl, rfl⟩, ⟨rfl, rfl⟩, ⟨rfl, rfl⟩, ⟨rfl, rfl⟩, ⟨rfl, rfl⟩, ⟨rfl, rfl⟩, ⟨rfl, rfl⟩, ⟨rfl, rfl⟩, ⟨rfl, rfl⟩, ⟨rfl, rfl⟩, ⟨rfl, rfl⟩, ⟨rfl, rfl⟩, ⟨rfl, rfl⟩, ⟨rfl, rfl⟩, ⟨rfl, rfl⟩, ⟨rfl, rfl⟩, ⟨rfl, rfl⟩, ⟨rfl, rfl⟩, ⟨rfl, rfl⟩, ⟨rfl, rfl⟩, trivial⟩, ?_⟩
    exact hc
  · intro E θ a w hD hi hp he hc
    have e9 := hp.of (k := 9) rfl
    have hf := he.h0
    replace hf := hf.more he 13 rfl (onP e9)
    refine stP hf rfl rfl rfl (pFA fa_24_0 rfl) fun a hf => ?_
    refine cNil ?_
    refine xThenN ?_
    intro ds u hau
    refine ⟨θ, he.put hi hau hf rfl [] trivial ⟨⟨rfl, rfl⟩, ⟨rfl, rfl⟩, ⟨rfl, rfl⟩, ⟨rfl, rfl⟩, ⟨rfl, rfl⟩, ⟨rfl, rfl⟩, ⟨rfl, rfl⟩, ⟨rfl, rfl⟩, ⟨rfl, rfl⟩, ⟨rfl, rfl⟩, ⟨rfl, rfl⟩, ⟨rfl, rfl⟩, ⟨rfl, rfl⟩, ⟨rfl, rfl⟩, ⟨rfl, rfl⟩, ⟨rfl, rfl⟩, ⟨rfl, rfl⟩, ⟨rfl, rfl⟩, ⟨rfl, rfl⟩, ⟨rfl, rfl⟩, ⟨rfl, rfl⟩, ⟨rfl, rfl⟩, trivial⟩, ?_⟩
    exact hc
  · intro E θ a w hD hi hp he hc
    have e10 := hp.of (k := 10) rfl
    have hf := he.h0
    replace hf := hf.more he 14 rfl (onP e10)
    refine stE hf hc rfl rfl rfl (eLd1 sc_3 rfl (cell_box m1 rfl)) fun a w hf hc => ?_
    refine cNil ?_
    refine xThenN ?_
    intro ds u hau
    refine ⟨θ, he.put hi hau hf rfl [] trivial ⟨⟨rfl, rfl⟩, ⟨rfl, rfl⟩, ⟨rfl, rfl⟩, ⟨rfl, rfl⟩, ⟨rfl, rfl⟩, ⟨rfl, rfl⟩, ⟨rfl, rfl⟩, ⟨rfl, rfl⟩, ⟨rfl, rfl⟩, ⟨rfl, rfl⟩, ⟨rfl, rfl⟩, ⟨rfl, rfl⟩, ⟨rfl, rfl⟩, ⟨rfl, rfl⟩, ⟨rfl, rfl⟩, ⟨rfl, rfl⟩, ⟨rfl, rfl⟩, ⟨rfl, rfl⟩, ⟨rfl, rfl⟩, ⟨rfl, rfl⟩, ⟨rfl, rfl⟩, ⟨rfl, rfl⟩, trivial⟩, ?_⟩
    exact hc
  · intro E θ a w hD hi hp he hc
    have hf := he.h0
    replace hf := hf.more he 0 rfl (onT)
    refine stP hf rfl rfl rfl (pFA fa_26_3 rfl) fun a hf => ?_
    refine cNil ?_
    refine xThenN ?_
    intro ds u hau
    refine ⟨θ, he.put hi hau hf rfl [] trivial ⟨⟨rfl, rfl⟩, ⟨rfl, rfl⟩, ⟨rfl, rfl⟩, ⟨rfl, rfl⟩, ⟨rfl, rfl⟩, ⟨rfl, rfl⟩, ⟨rfl, rfl⟩, ⟨rfl, rfl⟩, ⟨rfl, rfl⟩, ⟨rfl, rfl⟩, ⟨rfl, rfl⟩, ⟨rfl, rfl⟩, ⟨rfl, rfl⟩, ⟨rfl, rfl⟩, ⟨rfl, rfl⟩, ⟨rfl, rfl⟩, ⟨rfl, rfl⟩, ⟨rfl, rfl⟩, ⟨rfl, rfl⟩, ⟨rfl, rfl⟩, ⟨rfl, rfl⟩, ⟨rfl, rfl⟩, trivial⟩, ?_⟩
    exact hc
  · intro E θ a w hD hi hp he hc
    have e12 := hp.of (k := 12) rfl
    have hf := he.h0
    replace hf := hf.more he 16 rfl (onP e12)
    refine stP hf rfl rfl rfl (pFA fa_24_1 rfl) fun a hf => ?_
    refine cNil ?_
    refine xThenN ?_
    intro ds u hau
    refine ⟨θ, he.put hi hau hf rfl [] trivial ⟨⟨rfl, rfl⟩, ⟨rfl, rfl⟩, ⟨rfl, rfl⟩, ⟨rfl, rfl⟩, ⟨rfl, rfl⟩, ⟨rfl, rfl⟩, ⟨rfl, rfl⟩, ⟨rfl, rfl⟩, ⟨rfl, rfl⟩, ⟨rfl, rfl⟩, ⟨rfl, rfl⟩, ⟨rfl, rfl⟩, ⟨rfl, rfl⟩, ⟨rfl, rfl⟩, ⟨rfl, rfl⟩, ⟨rfl, rfl⟩, ⟨rfl, rfl⟩, ⟨rfl, rfl⟩, ⟨rfl, rfl⟩, ⟨rfl, rfl⟩, ⟨rfl, rfl⟩, ⟨rfl, rfl⟩, trivial⟩, ?_⟩
    exact hc
  · intro E θ a w hD hi hp he hc
    have e13 := hp.of (k := 13) rfl
    have hf := he.h0
    replace hf := hf.more he 17 rfl (onP e13)
    refine stE hf hc rfl rfl rfl (eLd1 sc_3 rfl (cell_box m1 rfl)) fun a w hf hc => ?_
    refine cNil ?_
    refine xThenN ?_
    intro ds u hau
    refine ⟨θ, he.put hi hau hf rfl [] trivial ⟨⟨rfl, rfl⟩, ⟨rfl, rfl⟩, ⟨rfl, rfl⟩, ⟨rfl, rfl⟩, ⟨rfl, rfl⟩, ⟨rfl, rfl⟩, ⟨rfl, rfl⟩, ⟨rfl, rfl⟩, ⟨rfl, rfl⟩, ⟨rfl, rfl⟩, ⟨rfl, rfl⟩, ⟨rfl, rfl⟩, ⟨rfl, rfl⟩, ⟨rfl, rfl⟩, ⟨rfl, rfl⟩, ⟨rfl, rfl⟩, ⟨rfl, rfl⟩, ⟨rfl, rfl⟩, ⟨rfl, rfl⟩, ⟨rfl, rfl⟩, ⟨rfl, rfl⟩, ⟨rfl, rfl⟩, trivial⟩, ?_⟩
    exact hc
  · intro E θ a w hD hi hp he hc
    have e8 := hp.of (k := 8) rfl
    have e11 := hp.of (k := 11) rfl
    have e14 := hp.of (k := 14) rfl
    have e7 := hp.of (k := 7) rfl
    replace hc : Ctx G ((bif E 15 then .box b_3 [.slice truth_p truth.length truth_c, .int .i64 r_6.2.1, .int .i64 r_6.2.2] 104 else bif E 7 then .box b_3 [.slice truth_p truth.length truth_c, .int .i64 r_5.2.1, .int .i64 r_5.2.2] 104 else .box b_3 [.slice truth_p truth.length truth_c, .int .i64 r_4.2.1, .int .i64 r_4.2.2] 104) :: .box b_2 [.int .i64 r_1.1.Rate.Lo, .int .i64 r_1.1.Rate.Hi, .int .i64 r_1.1.Strong.Lo, .int .i64 r_1.1.Strong.Hi, .int .i64 r_1.1.Found.Lo, .int .i64 r_1.1.Found.Hi, .int .i64 r_1.1.Clean.Lo, .int .i64 r_1.1.Clean.Hi] 26 :: .box b_1 [.slice numbers_p numbers.length numbers_c, .int .i64 r_1.2.1, .int .i64 r_1.2.2] 104 :: Lf) w := hc
    rw [e7, hi] at hc
    replace hc : Ctx G (.box b_3 [.slice truth_p truth.length truth_c, .int .i64 r_5.2.1, .int .i64 r_5.2.2] 104 :: .box b_2 [.int .i64 r_1.1.Rate.Lo, .int .i64 r_1.1.Rate.Hi, .int .i64 r_1.1.Strong.Lo, .int .i64 r_1.1.Strong.Hi, .int .i64 r_1.1.Found.Lo, .int .i64 r_1.1.Found.Hi, .int .i64 r_1.1.Clean.Lo, .int .i64 r_1.1.Clean.Hi] 26 :: .box b_1 [.slice numbers_p numbers.length numbers_c, .int .i64 r_1.2.1, .int .i64 r_1.2.2] 104 :: Lf) w := hc
    have hf := he.h0
    replace hf := hf.more he 12 rfl (onP e8)
    replace hf := hf.more he 15 rfl (onP e11)
    replace hf := hf.more he 18 rfl (onP e14)
    refine stC (vs := [.pointer (some ⟨b_3, 0, none⟩), .int .i64 r_1.1.Clean.Lo, .int .i64 r_1.1.Clean.Hi]) (caps := []) hf rfl rfl rfl en_12 rfl rfl rfl rfl (kit_Stream_Within_ok (⟨truth, r_5.2.1, r_5.2.2⟩ : kit_Stream) r_1.1.Clean.Lo r_1.1.Clean.Hi h_truth (hc.pick k0) hr_6) ?_
    rintro _ w ⟨rfl, hc⟩
    refine ⟨_, rfl, fun a hf => ?_⟩
    refine cNil ?_
    refine xThenN ?_
    intro ds u hau
    refine ⟨θ, he.put hi hau hf rfl [] trivial ⟨⟨rfl, rfl⟩, ⟨rfl, rfl⟩, ⟨rfl, rfl⟩, ⟨rfl, rfl⟩, ⟨rfl, rfl⟩, ⟨rfl, rfl⟩, ⟨rfl, rfl⟩, ⟨rfl, rfl⟩, ⟨rfl, rfl⟩, ⟨rfl, rfl⟩, ⟨rfl, rfl⟩, ⟨rfl, rfl⟩, ⟨rfl, rfl⟩, ⟨rfl, rfl⟩, ⟨rfl, rfl⟩, ⟨rfl, rfl⟩, ⟨rfl, rfl⟩, ⟨rfl, rfl⟩, ⟨rfl, rfl⟩, ⟨rfl, rfl⟩, ⟨rfl, rfl⟩, ⟨rfl, rfl⟩, trivial⟩, ?_⟩
    show Ctx G ((bif true then .box b_3 [.slice truth_p truth.length truth_c, .int .i64 r_6.2.1, .int .i64 r_6.2.2] 104 else bif E 7 then .box b_3 [.slice truth_p truth.length truth_c, .int .i64 r_5.2.1, .int .i64 r_5.2.2] 104 else .box b_3 [.slice truth_p truth.length truth_c, .int .i64 r_4.2.1, .int .i64 r_4.2.2] 104) :: .box b_2 [.int .i64 r_1.1.Rate.Lo, .int .i64 r_1.1.Rate.Hi, .int .i64 r_1.1.Strong.Lo, .int .i64 r_1.1.Strong.Hi, .int .i64 r_1.1.Found.Lo, .int .i64 r_1.1.Found.Hi, .int .i64 r_1.1.Clean.Lo, .int .i64 r_1.1.Clean.Hi] 26 :: .box b_1 [.slice numbers_p numbers.length numbers_c, .int .i64 r_1.2.1, .int .i64 r_1.2.2] 104 :: Lf) w
    rw [e7]
    exact hc
  · intro E θ a w hD hi hp he hc
    have e7 := hp.of (k := 7) rfl
    have hf := he.h0
    replace hf := hf.more he 11 rfl (onP e7)
    refine stP hf rfl rfl rfl (pA rfl) fun a hf => ?_
    refine cNil ?_
    refine xThenN ?_
    intro ds u hau
    refine ⟨θ, he.put hi hau hf rfl [] trivial ⟨⟨rfl, rfl⟩, ⟨rfl, rfl⟩, ⟨rfl, rfl⟩, ⟨rfl, rfl⟩, ⟨rfl, rfl⟩, ⟨rfl, rfl⟩, ⟨rfl, rfl⟩, ⟨rfl, rfl⟩, ⟨rfl, rfl⟩, ⟨rfl, rfl⟩, ⟨rfl, rfl⟩, ⟨rfl, rfl⟩, ⟨rfl, rfl⟩, ⟨rfl, rfl⟩, ⟨rfl, rfl⟩, ⟨rfl, rfl⟩, ⟨rfl, rfl⟩, ⟨rfl, rfl⟩, ⟨rfl, rfl⟩, ⟨rfl, rfl⟩, ⟨rfl, rfl⟩, ⟨rfl, rfl⟩, trivial⟩, ?_⟩
    exact hc
  · intro E θ a w hD hi hp he hc
    have e15 := hp.of (k := 15) rfl
    have hf := he.h0
    replace hf := hf.more he 19 rfl (onP e15)
    refine stP hf rfl rfl rfl (pA rfl) fun a hf => ?_
    refine cNil ?_
    refine xThenN ?_
    intro ds u hau
    refine ⟨θ, he.put hi hau hf rfl [] trivial ⟨⟨rfl, rfl⟩, ⟨rfl, rfl⟩, ⟨rfl, rfl⟩, ⟨rfl, rfl⟩, ⟨rfl, rfl⟩, ⟨rfl, rfl⟩, ⟨rfl, rfl⟩, ⟨rfl, rfl⟩, ⟨rfl, rfl⟩, ⟨rfl, rfl⟩, ⟨rfl, rfl⟩, ⟨rfl, rfl⟩, ⟨rfl, rfl⟩, ⟨rfl, rfl⟩, ⟨rfl, rfl⟩, ⟨rfl, rfl⟩, ⟨rfl, rfl⟩, ⟨rfl, rfl⟩, ⟨rfl, rfl⟩, ⟨rfl, rfl⟩, ⟨rfl, rfl⟩, ⟨rfl, rfl⟩, trivial⟩, ?_⟩
    exact hc
  · intro E θ a w hall he hc
    have hf := he.h0
    have e7 := hall 7 rfl
    have e15 := hall 15 rfl
    have e16 := hall 16 rfl
    have e17 := hall 17 rfl
    replace hf := hf.more he 21 rfl (onP e17)
    replace hf := hf.more he 20 rfl (onP e16)
    replace hf := hf.more he 3 rfl (onT)
    replace hf := hf.more he 2 rfl (onT)
    replace hf := hf.more he 0 rfl (onT)
    replace hc : Ctx G ((bif E 15 then .box b_3 [.slice truth_p truth.length truth_c, .int .i64 r_6.2.1, .int .i64 r_6.2.2] 104 else bif E 7 then .box b_3 [.slice truth_p truth.length truth_c, .int .i64 r_5.2.1, .int .i64 r_5.2.2] 104 else .box b_3 [.slice truth_p truth.length truth_c, .int .i64 r_4.2.1, .int .i64 r_4.2.2] 104) :: .box b_2 [.int .i64 r_1.1.Rate.Lo, .int .i64 r_1.1.Rate.Hi, .int .i64 r_1.1.Strong.Lo, .int .i64 r_1.1.Strong.Hi, .int .i64 r_1.1.Found.Lo, .int .i64 r_1.1.Found.Hi, .int .i64 r_1.1.Clean.Lo, .int .i64 r_1.1.Clean.Hi] 26 :: .box b_1 [.slice numbers_p numbers.length numbers_c, .int .i64 r_1.2.1, .int .i64 r_1.2.2] 104 :: Lf) w := hc
    rw [e7, e15] at hc
    exact ⟨hf.keep ⟨rfl, rfl, rfl, rfl, rfl, trivial⟩, hc⟩
  rintro a w ⟨hf, hc⟩
  refine h5 _ _ ?_
  refine wp_seq_k fun K6 h6 => ?_
  refine cReg ?_
  refine stE hf hc rfl rfl rfl (eLdN (vs := [.int .i64 r_1.1.Rate.Lo, .int .i64 r_1.1.Rate.Hi, .int .i64 r_1.1.Strong.Lo, .int .i64 r_1.1.Strong.Hi, .int .i64 r_1.1.Found.Lo, .int .i64 r_1.1.Found.Hi, .int .i64 r_1.1.Clean.Lo, .int .i64 r_1.1.Clean.Hi]) ag_26 rfl rfl (cells_box (n := 8) m1 rfl)) fun a w hf hc => ?_
  obtain ⟨r_7, hr_7, hF⟩ := bnd_some hF
  refine stE hf hc rfl rfl rfl (eC (v := .tuple #[.agg #[.int .i64 r_7.1.Lo, .int .i64 r_7.1.Hi], .int .i64 r_7.2]) (vs := [.agg #[.int .i64 r_1.1.Rate.Lo, .int .i64 r_1.1.Rate.Hi, .int .i64 r_1.1.Strong.Lo, .int .i64 r_1.1.Strong.Hi, .int .i64 r_1.1.Found.Lo, .int .i64 r_1.1.Found.Hi, .int .i64 r_1.1.Clean.Lo, .int .i64 r_1.1.Clean.Hi]]) (caps := []) en_13 rfl rfl rfl rfl (fun w hc => gauge_Thinned_ok r_1.1 hc hr_7)) fun a w hf hc => ?_
  refine stP hf rfl rfl rfl (pM rfl) fun a hf => ?_
  refine stP hf rfl rfl rfl (pX rfl rfl) fun a hf => ?_
  refine stP hf rfl rfl rfl (pX rfl rfl) fun a hf => ?_
  refine stAl (cs := [.int .i64 0, .int .i64 0]) hf hc rfl rfl zr_24 rfl fun b_4 a w hf hc => ?_
  refine stSt (vs := [.int .i64 r_7.1.Lo, .int .i64 r_7.1.Hi]) hf hc rfl rfl rfl rfl sz_24 rfl rfl u0 fun w hc => ?_
  refine stP hf rfl rfl rfl (pA rfl) fun a hf => ?_
  refine cNil ?_
  refine h6 _ _ ?_
  refine wp_seq_k fun K7 h7 => ?_
  refine wp_seq_k fun K8 h8 => ?_
  refine cReg ?_
  refine stP hf rfl rfl rfl (pM rfl) fun a hf => ?_
  refine stP hf rfl rfl rfl (pNe rfl rfl) fun a hf => ?_
  refine stP hf rfl rfl rfl (pM rfl) fun a hf => ?_
  refine stCut 4 (fun a w => Has 202 a [(5, .pointer (some ⟨b_2, 0, none⟩)), (7, .int .i64 r_3.1), (8, .int .i64 r_4.1), (9, .int .i64 r_5.1), (10, .int .i64 r_6.1), (11, .pointer (some ⟨b_4, 0, none⟩)), (12, .int .i64 r_7.2), (61, .int .i64 r_7.2), (62, .bool (r_7.2 != 0)), (63, .bool (r_7.2 != 0)), (67, .bool ((r_7.2 != 0) || (decide (r_5.1 ≤ r_6.1))))] ∧ Ctx G (.box b_4 [.int .i64 r_7.1.Lo, .int .i64 r_7.1.Hi] 24 :: .box b_3 [.slice truth_p truth.length truth_c, .int .i64 r_6.2.1, .int .i64 r_6.2.2] 104 :: .box b_2 [.int .i64 r_1.1.Rate.Lo, .int .i64 r_1.1.Rate.Hi, .int .i64 r_1.1.Strong.Lo, .int .i64 r_1.1.Strong.Hi, .int .i64 r_1.1.Found.Lo, .int .i64 r_1.1.Found.Hi, .int .i64 r_1.1.Clean.Lo, .int .i64 r_1.1.Clean.Hi] 26 :: .box b_1 [.slice numbers_p numbers.length numbers_c, .int .i64 r_1.2.1, .int .i64 r_1.2.2] 104 :: Lf) w) ?_ ?_
  · cases hb : (r_7.2 != 0)
    · rw [hb] at hf
      refine stP hf rfl rfl rfl (pM rfl) fun a hf => ?_
      refine stP hf rfl rfl rfl (pM rfl) fun a hf => ?_
      refine stP hf rfl rfl rfl (pLe rfl rfl) fun a hf => ?_
      refine stP hf rfl rfl rfl (pPf rfl rfl) fun a hf => ?_
      exact cNil ⟨hf.keep ⟨rfl, rfl, rfl, rfl, rfl, rfl, rfl, rfl, rfl, rfl, rfl, trivial⟩, hc⟩
    · rw [hb] at hf
      refine stS hf rfl rfl rfl fun a hf => ?_
      refine stS hf rfl rfl rfl fun a hf => ?_
      refine stS hf rfl rfl rfl fun a hf => ?_
      refine stP hf rfl rfl rfl (pPt rfl rfl) fun a hf => ?_
      exact cNil ⟨hf.keep ⟨rfl, rfl, rfl, rfl, rfl, rfl, rfl, rfl, rfl, rfl, rfl, trivial⟩, hc⟩
  intro a w ⟨hf, hc⟩
  refine cNil ?_
  refine h8 _ _ ?_
  refine cCond (b := ((r_7.2 != 0) || (decide (r_5.1 ≤ r_6.1)))) hf rfl (fun hb => ?_) (fun hb => ?_)
  · replace hF := condT hb hF
    clear hb
    refine wp_seq_k fun K9 h9 => ?_
    refine cReg ?_
    refine stP hf rfl rfl rfl (pA rfl) fun a hf => ?_
    refine cNil ?_
    refine h9 _ _ ?_
    refine wp_ret ?_
    refine xThenR ?_
    obtain rfl := Option.some.inj hF
    replace hc := hc.drop k3
    replace hc := hc.drop k2
    replace hc := hc.drop k1
    replace hc := hc.drop k0
    exact fnOut1 (by simp) rfl Try.results3 hf hc (show look _ 4 = _ from rfl) ⟨rfl, hc⟩
  · replace hF := condF hb hF
    clear hb
    refine wp_skip ?_
    refine h7 _ _ ?_
    refine wp_seq_k fun K10 h10 => ?_
    refine wp_seq_k fun K11 h11 => ?_
    refine cReg ?_
    refine stP hf rfl rfl rfl (pFA fa_24_0 rfl) fun a hf => ?_
    refine stE hf hc rfl rfl rfl (eLd1 sc_3 rfl (cell_box m0 rfl)) fun a w hf hc => ?_
    refine stP hf rfl rfl rfl (pM rfl) fun a hf => ?_
    refine stP hf rfl rfl rfl (pM rfl) fun a hf => ?_
    refine stP hf rfl rfl rfl (pSub rfl rfl) fun a hf => ?_
    refine stP hf rfl rfl rfl (pMul rfl rfl) fun a hf => ?_
    refine stP hf rfl rfl rfl (pM rfl) fun a hf => ?_
    refine stP hf rfl rfl rfl (pM rfl) fun a hf => ?_
    refine stP hf rfl rfl rfl (pM rfl) fun a hf => ?_
    refine stP hf rfl rfl rfl (pSub rfl rfl) fun a hf => ?_
    refine stP hf rfl rfl rfl (pMul rfl rfl) fun a hf => ?_
    refine stP hf rfl rfl rfl (pGt rfl rfl) fun a hf => ?_
    refine stP hf rfl rfl rfl (pM rfl) fun a hf => ?_
    refine stCut 13 (fun a w => Has 202 a [(5, .pointer (some ⟨b_2, 0, none⟩)), (7, .int .i64 r_3.1), (8, .int .i64 r_4.1), (9, .int .i64 r_5.1), (10, .int .i64 r_6.1), (11, .pointer (some ⟨b_4, 0, none⟩)), (68, .pointer (some ⟨b_4, 0, none⟩)), (69, .int .i64 r_7.1.Lo), (70, .int .i64 r_5.1), (71, .int .i64 r_6.1), (72, .int .i64 (W (r_5.1 - r_6.1))), (73, .int .i64 (W (r_7.1.Lo * (W (r_5.1 - r_6.1))))), (74, .int .i64 r_3.1), (75, .int .i64 r_4.1), (76, .int .i64 r_5.1), (77, .int .i64 (W (r_4.1 - r_5.1))), (78, .int .i64 (W (r_3.1 * (W (r_4.1 - r_5.1))))), (79, .bool (decide ((W (r_3.1 * (W (r_4.1 - r_5.1)))) < (W (r_7.1.Lo * (W (r_5.1 - r_6.1))))))), (80, .bool (decide ((W (r_3.1 * (W (r_4.1 - r_5.1)))) < (W (r_7.1.Lo * (W (r_5.1 - r_6.1))))))), (93, .bool ((decide ((W (r_3.1 * (W (r_4.1 - r_5.1)))) < (W (r_7.1.Lo * (W (r_5.1 - r_6.1)))))) || (decide ((W (r_7.1.Hi * (W (r_5.1 - r_6.1)))) < (W (r_3.1 * (W (r_4.1 - r_5.1))))))))] ∧ Ctx G (.box b_4 [.int .i64 r_7.1.Lo, .int .i64 r_7.1.Hi] 24 :: .box b_3 [.slice truth_p truth.length truth_c, .int .i64 r_6.2.1, .int .i64 r_6.2.2] 104 :: .box b_2 [.int .i64 r_1.1.Rate.Lo, .int .i64 r_1.1.Rate.Hi, .int .i64 r_1.1.Strong.Lo, .int .i64 r_1.1.Strong.Hi, .int .i64 r_1.1.Found.Lo, .int .i64 r_1.1.Found.Hi, .int .i64 r_1.1.Clean.Lo, .int .i64 r_1.1.Clean.Hi] 26 :: .box b_1 [.slice numbers_p numbers.length numbers_c, .int .i64 r_1.2.1, .int .i64 r_1.2.2] 104 :: Lf) w) ?_ ?_
    · cases hb : (decide ((W (r_3.1 * (W (r_4.1 - r_5.1)))) < (W (r_7.1.Lo * (W (r_5.1 - r_6.1))))))
      · rw [hb] at hf
        refine stP hf rfl rfl rfl (pFA fa_24_1 rfl) fun a hf => ?_
        refine stE hf hc rfl rfl rfl (eLd1 sc_3 rfl (cell_box m0 rfl)) fun a w hf hc => ?_
        refine stP hf rfl rfl rfl (pM rfl) fun a hf => ?_
        refine stP hf rfl rfl rfl (pM rfl) fun a hf => ?_
        refine stP hf rfl rfl rfl (pSub rfl rfl) fun a hf => ?_
        refine stP hf rfl rfl rfl (pMul rfl rfl) fun a hf => ?_
        refine stP hf rfl rfl rfl (pM rfl) fun a hf => ?_
        refine stP hf rfl rfl rfl (pM rfl) fun a hf => ?_
        refine stP hf rfl rfl rfl (pM rfl) fun a hf => ?_
        refine stP hf rfl rfl rfl (pSub rfl rfl) fun a hf => ?_
        refine stP hf rfl rfl rfl (pMul rfl rfl) fun a hf => ?_
        refine stP hf rfl rfl rfl (pLt rfl rfl) fun a hf => ?_
        refine stP hf rfl rfl rfl (pPf rfl rfl) fun a hf => ?_
        exact cNil ⟨hf.keep ⟨rfl, rfl, rfl, rfl, rfl, rfl, rfl, rfl, rfl, rfl, rfl, rfl, rfl, rfl, rfl, rfl, rfl, rfl, rfl, rfl, trivial⟩, hc⟩
      · rw [hb] at hf
        refine stS hf rfl rfl rfl fun a hf => ?_
        refine stS hf rfl rfl rfl fun a hf => ?_
        refine stS hf rfl rfl rfl fun a hf => ?_
        refine stS hf rfl rfl rfl fun a hf => ?_
        refine stS hf rfl rfl rfl fun a hf => ?_
        refine stS hf rfl rfl rfl fun a hf => ?_
        refine stS hf rfl rfl rfl fun a hf => ?_
        refine stS hf rfl rfl rfl fun a hf => ?_
        refine stS hf rfl rfl rfl fun a hf => ?_
        refine stS hf rfl rfl rfl fun a hf => ?_
        refine stS hf rfl rfl rfl fun a hf => ?_
        refine stS hf rfl rfl rfl fun a hf => ?_
        refine stP hf rfl rfl rfl (pPt rfl rfl) fun a hf => ?_
        exact cNil ⟨hf.keep ⟨rfl, rfl, rfl, rfl, rfl, rfl, rfl, rfl, rfl, rfl, rfl, rfl, rfl, rfl, rfl, rfl, rfl, rfl, rfl, rfl, trivial⟩, hc⟩
    intro a w ⟨hf, hc⟩
    refine cNil ?_
    refine h11 _ _ ?_
    refine cCond (b := ((decide ((W (r_3.1 * (W (r_4.1 - r_5.1)))) < (W (r_7.1.Lo * (W (r_5.1 - r_6.1)))))) || (decide ((W (r_7.1.Hi * (W (r_5.1 - r_6.1)))) < (W (r_3.1 * (W (r_4.1 - r_5.1)))))))) hf rfl (fun hb => ?_) (fun hb => ?_)
    · replace hF := condT hb hF
      clear hb
      refine wp_seq_k fun K12 h12 => ?_
      refine cReg ?_
      refine stP hf rfl rfl rfl (pA rfl) fun a hf => ?_
      refine cNil ?_
      refine h12 _ _ ?_
      refine wp_ret ?_
      refine xThenR ?_
      obtain rfl := Option.some.inj hF
      replace hc := hc.drop k3
      replace hc := hc.drop k2
      replace hc := hc.drop k1
      replace hc := hc.drop k0
      exact fnOut1 (by simp) rfl Try.results3 hf hc (show look _ 4 = _ from rfl) ⟨rfl, hc⟩
    · replace hF := condF hb hF
      clear hb
      refine wp_skip ?_
      refine h10 _ _ ?_
      refine wp_seq_k fun K13 h13 => ?_
      refine cReg ?_
      refine stP hf rfl rfl rfl (pM rfl) fun a hf => ?_
      refine stP hf rfl rfl rfl (pM rfl) fun a hf => ?_
      obtain ⟨r_8, hr_8, hF⟩ := bnd_some hF
      refine stE hf hc rfl rfl rfl (eC (v := .agg #[.int .i64 r_8.Lo, .int .i64 r_8.Hi]) (vs := [.int .i64 r_3.1, .int .i64 r_3.1]) (caps := []) en_14 rfl rfl rfl rfl (fun w hc => law03_span_ok r_3.1 r_3.1 hc hr_8)) fun a w hf hc => ?_
      refine stP hf rfl rfl rfl (pM rfl) fun a hf => ?_
      refine stP hf rfl rfl rfl (pM rfl) fun a hf => ?_
      obtain ⟨r_9, hr_9, hF⟩ := bnd_some hF
      refine stE hf hc rfl rfl rfl (eC (v := .agg #[.int .i64 r_9.Lo, .int .i64 r_9.Hi]) (vs := [.int .i64 r_4.1, .int .i64 r_4.1]) (caps := []) en_14 rfl rfl rfl rfl (fun w hc => law03_span_ok r_4.1 r_4.1 hc hr_9)) fun a w hf hc => ?_
      refine stP hf rfl rfl rfl (pM rfl) fun a hf => ?_
      refine stP hf rfl rfl rfl (pM rfl) fun a hf => ?_
      obtain ⟨r_10, hr_10, hF⟩ := bnd_some hF
      refine stE hf hc rfl rfl rfl (eC (v := .agg #[.int .i64 r_10.Lo, .int .i64 r_10.Hi]) (vs := [.int .i64 r_5.1, .int .i64 r_5.1]) (caps := []) en_14 rfl rfl rfl rfl (fun w hc => law03_span_ok r_5.1 r_5.1 hc hr_10)) fun a w hf hc => ?_
      refine stP hf rfl rfl rfl (pM rfl) fun a hf => ?_
      refine stP hf rfl rfl rfl (pM rfl) fun a hf => ?_
      obtain ⟨r_11, hr_11, hF⟩ := bnd_some hF
      refine stE hf hc rfl rfl rfl (eC (v := .agg #[.int .i64 r_11.Lo, .int .i64 r_11.Hi]) (vs := [.int .i64 r_6.1, .int .i64 r_6.1]) (caps := []) en_14 rfl rfl rfl rfl (fun w hc => law03_span_ok r_6.1 r_6.1 hc hr_11)) fun a w hf hc => ?_
      refine stP hf rfl rfl rfl (pBuildS (cells := [.int .i64 r_8.Lo, .int .i64 r_8.Hi, .int .i64 r_9.Lo, .int .i64 r_9.Hi, .int .i64 r_10.Lo, .int .i64 r_10.Hi, .int .i64 r_11.Lo, .int .i64 r_11.Hi]) bt_26 rfl rfl) fun a hf => ?_
      refine stAl (cs := [.int .i64 0, .int .i64 0, .int .i64 0, .int .i64 0, .int .i64 0, .int .i64 0, .int .i64 0, .int .i64 0]) hf hc rfl rfl zr_26 rfl fun b_5 a w hf hc => ?_
      refine stSt (vs := [.int .i64 r_8.Lo, .int .i64 r_8.Hi, .int .i64 r_9.Lo, .int .i64 r_9.Hi, .int .i64 r_10.Lo, .int .i64 r_10.Hi, .int .i64 r_11.Lo, .int .i64 r_11.Hi]) hf hc rfl rfl rfl rfl sz_26 rfl rfl u0 fun w hc => ?_
      refine cNil ?_
      refine h13 _ _ ?_
      refine wp_seq_k fun K14 h14 => ?_
      refine cReg ?_
      refine stE hf hc rfl rfl rfl (eLdN (vs := [.int .i64 r_8.Lo, .int .i64 r_8.Hi, .int .i64 r_9.Lo, .int .i64 r_9.Hi, .int .i64 r_10.Lo, .int .i64 r_10.Hi, .int .i64 r_11.Lo, .int .i64 r_11.Hi]) ag_26 rfl rfl (cells_box (n := 8) m0 rfl)) fun a w hf hc => ?_
      obtain ⟨r_12, hr_12, hF⟩ := bnd_some hF
      refine stE hf hc rfl rfl rfl (eC (v := .tuple #[.agg #[.int .i64 r_12.1.Lo, .int .i64 r_12.1.Hi], .int .i64 r_12.2]) (vs := [.agg #[.int .i64 r_8.Lo, .int .i64 r_8.Hi, .int .i64 r_9.Lo, .int .i64 r_9.Hi, .int .i64 r_10.Lo, .int .i64 r_10.Hi, .int .i64 r_11.Lo, .int .i64 r_11.Hi]]) (caps := []) en_13 rfl rfl rfl rfl (fun w hc => gauge_Thinned_ok (⟨r_8, r_9, r_10, r_11⟩ : gauge_Dye) hc hr_12)) fun a w hf hc => ?_
      refine stP hf rfl rfl rfl (pM rfl) fun a hf => ?_
      refine stP hf rfl rfl rfl (pX rfl rfl) fun a hf => ?_
      refine stP hf rfl rfl rfl (pX rfl rfl) fun a hf => ?_
      refine stAl (cs := [.int .i64 0, .int .i64 0]) hf hc rfl rfl zr_24 rfl fun b_6 a w hf hc => ?_
      refine stSt (vs := [.int .i64 r_12.1.Lo, .int .i64 r_12.1.Hi]) hf hc rfl rfl rfl rfl sz_24 rfl rfl u0 fun w hc => ?_
      refine stP hf rfl rfl rfl (pA rfl) fun a hf => ?_
      refine cNil ?_
      refine h14 _ _ ?_
      refine wp_seq_k fun K15 h15 => ?_
      refine cReg ?_
      refine stE hf hc rfl rfl rfl (eLdN (vs := [.int .i64 r_8.Lo, .int .i64 r_8.Hi, .int .i64 r_9.Lo, .int .i64 r_9.Hi, .int .i64 r_10.Lo, .int .i64 r_10.Hi, .int .i64 r_11.Lo, .int .i64 r_11.Hi]) ag_26 rfl rfl (cells_box (n := 8) m1 rfl)) fun a w hf hc => ?_
      refine stAl (cs := [.int .i64 0, .int .i64 0, .int .i64 0, .int .i64 0, .int .i64 0, .int .i64 0, .int .i64 0, .int .i64 0]) hf hc rfl rfl zr_26 rfl fun b_7 a w hf hc => ?_
      refine stSt (vs := [.int .i64 r_8.Lo, .int .i64 r_8.Hi, .int .i64 r_9.Lo, .int .i64 r_9.Hi, .int .i64 r_10.Lo, .int .i64 r_10.Hi, .int .i64 r_11.Lo, .int .i64 r_11.Hi]) hf hc rfl rfl rfl rfl sz_26 rfl rfl u0 fun w hc => ?_
      refine cNil ?_
      refine h15 _ _ ?_
      refine wp_seq_k fun K16 h16 => ?_
      refine cReg ?_
      refine stP hf rfl rfl rfl (pM rfl) fun a hf => ?_
      refine stP hf rfl rfl rfl (pMul rfl rfl) fun a hf => ?_
      refine stP hf rfl rfl rfl (pM rfl) fun a hf => ?_
      refine stP hf rfl rfl rfl (pMul rfl rfl) fun a hf => ?_
      obtain ⟨r_13, hr_13, hF⟩ := bnd_some hF
      refine stE hf hc rfl rfl rfl (eC (v := .agg #[.int .i64 r_13.Lo, .int .i64 r_13.Hi]) (vs := [.int .i64 (W (2 * r_3.1)), .int .i64 (W (2 * r_3.1))]) (caps := []) en_14 rfl rfl rfl rfl (fun w hc => law03_span_ok (W (2 * r_3.1)) (W (2 * r_3.1)) hc hr_13)) fun a w hf hc => ?_
      refine stP hf rfl rfl rfl (pFA fa_26_0 rfl) fun a hf => ?_
      refine stSt (vs := [.int .i64 r_13.Lo, .int .i64 r_13.Hi]) hf hc rfl rfl rfl rfl sz_24 rfl rfl u0 fun w hc => ?_
      refine cNil ?_
      refine h16 _ _ ?_
      refine wp_seq_k fun K17 h17 => ?_
      refine cReg ?_
      refine stE hf hc rfl rfl rfl (eLdN (vs := [.int .i64 r_13.Lo, .int .i64 r_13.Hi, .int .i64 r_9.Lo, .int .i64 r_9.Hi, .int .i64 r_10.Lo, .int .i64 r_10.Hi, .int .i64 r_11.Lo, .int .i64 r_11.Hi]) ag_26 rfl rfl (cells_box (n := 8) m0 rfl)) fun a w hf hc => ?_
      obtain ⟨r_14, hr_14, hF⟩ := bnd_some hF
      refine stE hf hc rfl rfl rfl (eC (v := .tuple #[.agg #[.int .i64 r_14.1.Lo, .int .i64 r_14.1.Hi], .int .i64 r_14.2]) (vs := [.agg #[.int .i64 r_13.Lo, .int .i64 r_13.Hi, .int .i64 r_9.Lo, .int .i64 r_9.Hi, .int .i64 r_10.Lo, .int .i64 r_10.Hi, .int .i64 r_11.Lo, .int .i64 r_11.Hi]]) (caps := []) en_13 rfl rfl rfl rfl (fun w hc => gauge_Thinned_ok (⟨r_13, r_9, r_10, r_11⟩ : gauge_Dye) hc hr_14)) fun a w hf hc => ?_
      refine stP hf rfl rfl rfl (pM rfl) fun a hf => ?_
      refine stP hf rfl rfl rfl (pX rfl rfl) fun a hf => ?_
      refine stP hf rfl rfl rfl (pX rfl rfl) fun a hf => ?_
      refine stAl (cs := [.int .i64 0, .int .i64 0]) hf hc rfl rfl zr_24 rfl fun b_8 a w hf hc => ?_
      refine stSt (vs := [.int .i64 r_14.1.Lo, .int .i64 r_14.1.Hi]) hf hc rfl rfl rfl rfl sz_24 rfl rfl u0 fun w hc => ?_
      refine stP hf rfl rfl rfl (pA rfl) fun a hf => ?_
      refine cNil ?_
      refine h17 _ _ ?_
      refine wp_seq_k fun K18 h18 => ?_
      refine wp_seq_k fun K19 h19 => ?_
      refine cReg ?_
      refine stP hf rfl rfl rfl (pM rfl) fun a hf => ?_
      refine stP hf rfl rfl rfl (pNe rfl rfl) fun a hf => ?_
      refine stP hf rfl rfl rfl (pM rfl) fun a hf => ?_
      refine stCut 3 (fun a w => Has 202 a [(5, .pointer (some ⟨b_2, 0, none⟩)), (11, .pointer (some ⟨b_4, 0, none⟩)), (13, .pointer (some ⟨b_5, 0, none⟩)), (14, .pointer (some ⟨b_6, 0, none⟩)), (12, .int .i64 r_12.2), (16, .pointer (some ⟨b_8, 0, none⟩)), (17, .int .i64 r_14.2), (124, .int .i64 r_12.2), (125, .bool (r_12.2 != 0)), (126, .bool (r_12.2 != 0)), (129, .bool ((r_12.2 != 0) || (r_14.2 != 0)))] ∧ Ctx G (.box b_8 [.int .i64 r_14.1.Lo, .int .i64 r_14.1.Hi] 24 :: .box b_7 [.int .i64 r_13.Lo, .int .i64 r_13.Hi, .int .i64 r_9.Lo, .int .i64 r_9.Hi, .int .i64 r_10.Lo, .int .i64 r_10.Hi, .int .i64 r_11.Lo, .int .i64 r_11.Hi] 26 :: .box b_6 [.int .i64 r_12.1.Lo, .int .i64 r_12.1.Hi] 24 :: .box b_5 [.int .i64 r_8.Lo, .int .i64 r_8.Hi, .int .i64 r_9.Lo, .int .i64 r_9.Hi, .int .i64 r_10.Lo, .int .i64 r_10.Hi, .int .i64 r_11.Lo, .int .i64 r_11.Hi] 26 :: .box b_4 [.int .i64 r_7.1.Lo, .int .i64 r_7.1.Hi] 24 :: .box b_3 [.slice truth_p truth.length truth_c, .int .i64 r_6.2.1, .int .i64 r_6.2.2] 104 :: .box b_2 [.int .i64 r_1.1.Rate.Lo, .int .i64 r_1.1.Rate.Hi, .int .i64 r_1.1.Strong.Lo, .int .i64 r_1.1.Strong.Hi, .int .i64 r_1.1.Found.Lo, .int .i64 r_1.1.Found.Hi, .int .i64 r_1.1.Clean.Lo, .int .i64 r_1.1.Clean.Hi] 26 :: .box b_1 [.slice numbers_p numbers.length numbers_c, .int .i64 r_1.2.1, .int .i64 r_1.2.2] 104 :: Lf) w) ?_ ?_
      · cases hb : (r_12.2 != 0)
        · rw [hb] at hf
          refine stP hf rfl rfl rfl (pM rfl) fun a hf => ?_
          refine stP hf rfl rfl rfl (pNe rfl rfl) fun a hf => ?_
          refine stP hf rfl rfl rfl (pPf rfl rfl) fun a hf => ?_
          exact cNil ⟨hf.keep ⟨rfl, rfl, rfl, rfl, rfl, rfl, rfl, rfl, rfl, rfl, rfl, trivial⟩, hc⟩
        · rw [hb] at hf
          refine stS hf rfl rfl rfl fun a hf => ?_
          refine stS hf rfl rfl rfl fun a hf => ?_
          refine stP hf rfl rfl rfl (pPt rfl rfl) fun a hf => ?_
          exact cNil ⟨hf.keep ⟨rfl, rfl, rfl, rfl, rfl, rfl, rfl, rfl, rfl, rfl, rfl, trivial⟩, hc⟩
      intro a w ⟨hf, hc⟩
      refine stP hf rfl rfl rfl (pM rfl) fun a hf => ?_
      refine stCut 7 (fun a w => Has 202 a [(5, .pointer (some ⟨b_2, 0, none⟩)), (11, .pointer (some ⟨b_4, 0, none⟩)), (13, .pointer (some ⟨b_5, 0, none⟩)), (14, .pointer (some ⟨b_6, 0, none⟩)), (12, .int .i64 r_12.2), (16, .pointer (some ⟨b_8, 0, none⟩)), (17, .int .i64 r_14.2), (124, .int .i64 r_12.2), (125, .bool (r_12.2 != 0)), (126, .bool (r_12.2 != 0)), (129, .bool ((r_12.2 != 0) || (r_14.2 != 0))), (130, .bool ((r_12.2 != 0) || (r_14.2 != 0))), (137, .bool (((r_12.2 != 0) || (r_14.2 != 0)) || (decide (1 < (W (r_12.1.Hi - r_12.1.Lo))))))] ∧ Ctx G (.box b_8 [.int .i64 r_14.1.Lo, .int .i64 r_14.1.Hi] 24 :: .box b_7 [.int .i64 r_13.Lo, .int .i64 r_13.Hi, .int .i64 r_9.Lo, .int .i64 r_9.Hi, .int .i64 r_10.Lo, .int .i64 r_10.Hi, .int .i64 r_11.Lo, .int .i64 r_11.Hi] 26 :: .box b_6 [.int .i64 r_12.1.Lo, .int .i64 r_12.1.Hi] 24 :: .box b_5 [.int .i64 r_8.Lo, .int .i64 r_8.Hi, .int .i64 r_9.Lo, .int .i64 r_9.Hi, .int .i64 r_10.Lo, .int .i64 r_10.Hi, .int .i64 r_11.Lo, .int .i64 r_11.Hi] 26 :: .box b_4 [.int .i64 r_7.1.Lo, .int .i64 r_7.1.Hi] 24 :: .box b_3 [.slice truth_p truth.length truth_c, .int .i64 r_6.2.1, .int .i64 r_6.2.2] 104 :: .box b_2 [.int .i64 r_1.1.Rate.Lo, .int .i64 r_1.1.Rate.Hi, .int .i64 r_1.1.Strong.Lo, .int .i64 r_1.1.Strong.Hi, .int .i64 r_1.1.Found.Lo, .int .i64 r_1.1.Found.Hi, .int .i64 r_1.1.Clean.Lo, .int .i64 r_1.1.Clean.Hi] 26 :: .box b_1 [.slice numbers_p numbers.length numbers_c, .int .i64 r_1.2.1, .int .i64 r_1.2.2] 104 :: Lf) w) ?_ ?_
      · cases hb : ((r_12.2 != 0) || (r_14.2 != 0))
        · rw [hb] at hf
          refine stP hf rfl rfl rfl (pFA fa_24_1 rfl) fun a hf => ?_
          refine stE hf hc rfl rfl rfl (eLd1 sc_3 rfl (cell_box m2 rfl)) fun a w hf hc => ?_
          refine stP hf rfl rfl rfl (pFA fa_24_0 rfl) fun a hf => ?_
          refine stE hf hc rfl rfl rfl (eLd1 sc_3 rfl (cell_box m2 rfl)) fun a w hf hc => ?_
          refine stP hf rfl rfl rfl (pSub rfl rfl) fun a hf => ?_
          refine stP hf rfl rfl rfl (pGt rfl rfl) fun a hf => ?_
          refine stP hf rfl rfl rfl (pPf rfl rfl) fun a hf => ?_
          exact cNil ⟨hf.keep ⟨rfl, rfl, rfl, rfl, rfl, rfl, rfl, rfl, rfl, rfl, rfl, rfl, rfl, trivial⟩, hc⟩
        · rw [hb] at hf
          refine stS hf rfl rfl rfl fun a hf => ?_
          refine stS hf rfl rfl rfl fun a hf => ?_
          refine stS hf rfl rfl rfl fun a hf => ?_
          refine stS hf rfl rfl rfl fun a hf => ?_
          refine stS hf rfl rfl rfl fun a hf => ?_
          refine stS hf rfl rfl rfl fun a hf => ?_
          refine stP hf rfl rfl rfl (pPt rfl rfl) fun a hf => ?_
          exact cNil ⟨hf.keep ⟨rfl, rfl, rfl, rfl, rfl, rfl, rfl, rfl, rfl, rfl, rfl, rfl, rfl, trivial⟩, hc⟩
      intro a w ⟨hf, hc⟩
      refine stP hf rfl rfl rfl (pM rfl) fun a hf => ?_
      refine stCut 6 (fun a w => Has 202 a [(5, .pointer (some ⟨b_2, 0, none⟩)), (11, .pointer (some ⟨b_4, 0, none⟩)), (13, .pointer (some ⟨b_5, 0, none⟩)), (14, .pointer (some ⟨b_6, 0, none⟩)), (12, .int .i64 r_12.2), (16, .pointer (some ⟨b_8, 0, none⟩)), (17, .int .i64 r_14.2), (124, .int .i64 r_12.2), (125, .bool (r_12.2 != 0)), (126, .bool (r_12.2 != 0)), (129, .bool ((r_12.2 != 0) || (r_14.2 != 0))), (130, .bool ((r_12.2 != 0) || (r_14.2 != 0))), (137, .bool (((r_12.2 != 0) || (r_14.2 != 0)) || (decide (1 < (W (r_12.1.Hi - r_12.1.Lo)))))), (138, .bool (((r_12.2 != 0) || (r_14.2 != 0)) || (decide (1 < (W (r_12.1.Hi - r_12.1.Lo)))))), (144, .bool ((((r_12.2 != 0) || (r_14.2 != 0)) || (decide (1 < (W (r_12.1.Hi - r_12.1.Lo))))) || (decide (r_12.1.Lo < r_7.1.Lo))))] ∧ Ctx G (.box b_8 [.int .i64 r_14.1.Lo, .int .i64 r_14.1.Hi] 24 :: .box b_7 [.int .i64 r_13.Lo, .int .i64 r_13.Hi, .int .i64 r_9.Lo, .int .i64 r_9.Hi, .int .i64 r_10.Lo, .int .i64 r_10.Hi, .int .i64 r_11.Lo, .int .i64 r_11.Hi] 26 :: .box b_6 [.int .i64 r_12.1.Lo, .int .i64 r_12.1.Hi] 24 :: .box b_5 [.int .i64 r_8.Lo, .int .i64 r_8.Hi, .int .i64 r_9.Lo, .int .i64 r_9.Hi, .int .i64 r_10.Lo, .int .i64 r_10.Hi, .int .i64 r_11.Lo, .int .i64 r_11.Hi] 26 :: .box b_4 [.int .i64 r_7.1.Lo, .int .i64 r_7.1.Hi] 24 :: .box b_3 [.slice truth_p truth.length truth_c, .int .i64 r_6.2.1, .int .i64 r_6.2.2] 104 :: .box b_2 [.int .i64 r_1.1.Rate.Lo, .int .i64 r_1.1.Rate.Hi, .int .i64 r_1.1.Strong.Lo, .int .i64 r_1.1.Strong.Hi, .int .i64 r_1.1.Found.Lo, .int .i64 r_1.1.Found.Hi, .int .i64 r_1.1.Clean.Lo, .int .i64 r_1.1.Clean.Hi] 26 :: .box b_1 [.slice numbers_p numbers.length numbers_c, .int .i64 r_1.2.1, .int .i64 r_1.2.2] 104 :: Lf) w) ?_ ?_
      · cases hb : (((r_12.2 != 0) || (r_14.2 != 0)) || (decide (1 < (W (r_12.1.Hi - r_12.1.Lo)))))
        · rw [hb] at hf
          refine stP hf rfl rfl rfl (pFA fa_24_0 rfl) fun a hf => ?_
          refine stE hf hc rfl rfl rfl (eLd1 sc_3 rfl (cell_box m2 rfl)) fun a w hf hc => ?_
          refine stP hf rfl rfl rfl (pFA fa_24_0 rfl) fun a hf => ?_
          refine stE hf hc rfl rfl rfl (eLd1 sc_3 rfl (cell_box m4 rfl)) fun a w hf hc => ?_
          refine stP hf rfl rfl rfl (pLt rfl rfl) fun a hf => ?_
          refine stP hf rfl rfl rfl (pPf rfl rfl) fun a hf => ?_
          exact cNil ⟨hf.keep ⟨rfl, rfl, rfl, rfl, rfl, rfl, rfl, rfl, rfl, rfl, rfl, rfl, rfl, rfl, rfl, trivial⟩, hc⟩
        · rw [hb] at hf
          refine stS hf rfl rfl rfl fun a hf => ?_
          refine stS hf rfl rfl rfl fun a hf => ?_
          refine stS hf rfl rfl rfl fun a hf => ?_
          refine stS hf rfl rfl rfl fun a hf => ?_
          refine stS hf rfl rfl rfl fun a hf => ?_
          refine stP hf rfl rfl rfl (pPt rfl rfl) fun a hf => ?_
          exact cNil ⟨hf.keep ⟨rfl, rfl, rfl, rfl, rfl, rfl, rfl, rfl, rfl, rfl, rfl, rfl, rfl, rfl, rfl, trivial⟩, hc⟩
      intro a w ⟨hf, hc⟩
      refine stP hf rfl rfl rfl (pM rfl) fun a hf => ?_
      refine stCut 6 (fun a w => Has 202 a [(5, .pointer (some ⟨b_2, 0, none⟩)), (11, .pointer (some ⟨b_4, 0, none⟩)), (13, .pointer (some ⟨b_5, 0, none⟩)), (14, .pointer (some ⟨b_6, 0, none⟩)), (12, .int .i64 r_12.2), (16, .pointer (some ⟨b_8, 0, none⟩)), (17, .int .i64 r_14.2), (124, .int .i64 r_12.2), (125, .bool (r_12.2 != 0)), (126, .bool (r_12.2 != 0)), (129, .bool ((r_12.2 != 0) || (r_14.2 != 0))), (130, .bool ((r_12.2 != 0) || (r_14.2 != 0))), (137, .bool (((r_12.2 != 0) || (r_14.2 != 0)) || (decide (1 < (W (r_12.1.Hi - r_12.1.Lo)))))), (138, .bool (((r_12.2 != 0) || (r_14.2 != 0)) || (decide (1 < (W (r_12.1.Hi - r_12.1.Lo)))))), (144, .bool ((((r_12.2 != 0) || (r_14.2 != 0)) || (decide (1 < (W (r_12.1.Hi - r_12.1.Lo))))) || (decide (r_12.1.Lo < r_7.1.Lo)))), (145, .bool ((((r_12.2 != 0) || (r_14.2 != 0)) || (decide (1 < (W (r_12.1.Hi - r_12.1.Lo))))) || (decide (r_12.1.Lo < r_7.1.Lo)))), (151, .bool (((((r_12.2 != 0) || (r_14.2 != 0)) || (decide (1 < (W (r_12.1.Hi - r_12.1.Lo))))) || (decide (r_12.1.Lo < r_7.1.Lo))) || (decide (r_7.1.Hi < r_12.1.Hi))))] ∧ Ctx G (.box b_8 [.int .i64 r_14.1.Lo, .int .i64 r_14.1.Hi] 24 :: .box b_7 [.int .i64 r_13.Lo, .int .i64 r_13.Hi, .int .i64 r_9.Lo, .int .i64 r_9.Hi, .int .i64 r_10.Lo, .int .i64 r_10.Hi, .int .i64 r_11.Lo, .int .i64 r_11.Hi] 26 :: .box b_6 [.int .i64 r_12.1.Lo, .int .i64 r_12.1.Hi] 24 :: .box b_5 [.int .i64 r_8.Lo, .int .i64 r_8.Hi, .int .i64 r_9.Lo, .int .i64 r_9.Hi, .int .i64 r_10.Lo, .int .i64 r_10.Hi, .int .i64 r_11.Lo, .int .i64 r_11.Hi] 26 :: .box b_4 [.int .i64 r_7.1.Lo, .int .i64 r_7.1.Hi] 24 :: .box b_3 [.slice truth_p truth.length truth_c, .int .i64 r_6.2.1, .int .i64 r_6.2.2] 104 :: .box b_2 [.int .i64 r_1.1.Rate.Lo, .int .i64 r_1.1.Rate.Hi, .int .i64 r_1.1.Strong.Lo, .int .i64 r_1.1.Strong.Hi, .int .i64 r_1.1.Found.Lo, .int .i64 r_1.1.Found.Hi, .int .i64 r_1.1.Clean.Lo, .int .i64 r_1.1.Clean.Hi] 26 :: .box b_1 [.slice numbers_p numbers.length numbers_c, .int .i64 r_1.2.1, .int .i64 r_1.2.2] 104 :: Lf) w) ?_ ?_
      · cases hb : ((((r_12.2 != 0) || (r_14.2 != 0)) || (decide (1 < (W (r_12.1.Hi - r_12.1.Lo))))) || (decide (r_12.1.Lo < r_7.1.Lo)))
        · rw [hb] at hf
          refine stP hf rfl rfl rfl (pFA fa_24_1 rfl) fun a hf => ?_
          refine stE hf hc rfl rfl rfl (eLd1 sc_3 rfl (cell_box m2 rfl)) fun a w hf hc => ?_
          refine stP hf rfl rfl rfl (pFA fa_24_1 rfl) fun a hf => ?_
          refine stE hf hc rfl rfl rfl (eLd1 sc_3 rfl (cell_box m4 rfl)) fun a w hf hc => ?_
          refine stP hf rfl rfl rfl (pGt rfl rfl) fun a hf => ?_
          refine stP hf rfl rfl rfl (pPf rfl rfl) fun a hf => ?_
          exact cNil ⟨hf.keep ⟨rfl, rfl, rfl, rfl, rfl, rfl, rfl, rfl, rfl, rfl, rfl, rfl, rfl, rfl, rfl, rfl, rfl, trivial⟩, hc⟩
        · rw [hb] at hf
          refine stS hf rfl rfl rfl fun a hf => ?_
          refine stS hf rfl rfl rfl fun a hf => ?_
          refine stS hf rfl rfl rfl fun a hf => ?_
          refine stS hf rfl rfl rfl fun a hf => ?_
          refine stS hf rfl rfl rfl fun a hf => ?_
          refine stP hf rfl rfl rfl (pPt rfl rfl) fun a hf => ?_
          exact cNil ⟨hf.keep ⟨rfl, rfl, rfl, rfl, rfl, rfl, rfl, rfl, rfl, rfl, rfl, rfl, rfl, rfl, rfl, rfl, rfl, trivial⟩, hc⟩
      intro a w ⟨hf, hc⟩
      refine stP hf rfl rfl rfl (pM rfl) fun a hf => ?_
      refine stCut 7 (fun a w => Has 202 a [(5, .pointer (some ⟨b_2, 0, none⟩)), (11, .pointer (some ⟨b_4, 0, none⟩)), (13, .pointer (some ⟨b_5, 0, none⟩)), (14, .pointer (some ⟨b_6, 0, none⟩)), (12, .int .i64 r_12.2), (16, .pointer (some ⟨b_8, 0, none⟩)), (17, .int .i64 r_14.2), (124, .int .i64 r_12.2), (125, .bool (r_12.2 != 0)), (126, .bool (r_12.2 != 0)), (129, .bool ((r_12.2 != 0) || (r_14.2 != 0))), (130, .bool ((r_12.2 != 0) || (r_14.2 != 0))), (137, .bool (((r_12.2 != 0) || (r_14.2 != 0)) || (decide (1 < (W (r_12.1.Hi - r_12.1.Lo)))))), (138, .bool (((r_12.2 != 0) || (r_14.2 != 0)) || (decide (1 < (W (r_12.1.Hi - r_12.1.Lo)))))), (144, .bool ((((r_12.2 != 0) || (r_14.2 != 0)) || (decide (1 < (W (r_12.1.Hi - r_12.1.Lo))))) || (decide (r_12.1.Lo < r_7.1.Lo)))), (145, .bool ((((r_12.2 != 0) || (r_14.2 != 0)) || (decide (1 < (W (r_12.1.Hi - r_12.1.Lo))))) || (decide (r_12.1.Lo < r_7.1.Lo)))), (151, .bool (((((r_12.2 != 0) || (r_14.2 != 0)) || (decide (1 < (W (r_12.1.Hi - r_12.1.Lo))))) || (decide (r_12.1.Lo < r_7.1.Lo))) || (decide (r_7.1.Hi < r_12.1.Hi)))), (152, .bool (((((r_12.2 != 0) || (r_14.2 != 0)) || (decide (1 < (W (r_12.1.Hi - r_12.1.Lo))))) || (decide (r_12.1.Lo < r_7.1.Lo))) || (decide (r_7.1.Hi < r_12.1.Hi)))), (159, .bool ((((((r_12.2 != 0) || (r_14.2 != 0)) || (decide (1 < (W (r_12.1.Hi - r_12.1.Lo))))) || (decide (r_12.1.Lo < r_7.1.Lo))) || (decide (r_7.1.Hi < r_12.1.Hi))) || (decide (r_14.1.Lo < (W (2 * r_12.1.Lo))))))] ∧ Ctx G (.box b_8 [.int .i64 r_14.1.Lo, .int .i64 r_14.1.Hi] 24 :: .box b_7 [.int .i64 r_13.Lo, .int .i64 r_13.Hi, .int .i64 r_9.Lo, .int .i64 r_9.Hi, .int .i64 r_10.Lo, .int .i64 r_10.Hi, .int .i64 r_11.Lo, .int .i64 r_11.Hi] 26 :: .box b_6 [.int .i64 r_12.1.Lo, .int .i64 r_12.1.Hi] 24 :: .box b_5 [.int .i64 r_8.Lo, .int .i64 r_8.Hi, .int .i64 r_9.Lo, .int .i64 r_9.Hi, .int .i64 r_10.Lo, .int .i64 r_10.Hi, .int .i64 r_11.Lo, .int .i64 r_11.Hi] 26 :: .box b_4 [.int .i64 r_7.1.Lo, .int .i64 r_7.1.Hi] 24 :: .box b_3 [.slice truth_p truth.length truth_c, .int .i64 r_6.2.1, .int .i64 r_6.2.2] 104 :: .box b_2 [.int .i64 r_1.1.Rate.Lo, .int .i64 r_1.1.Rate.Hi, .int .i64 r_1.1.Strong.Lo, .int .i64 r_1.1.Strong.Hi, .int .i64 r_1.1.Found.Lo, .int .i64 r_1.1.Found.Hi, .int .i64 r_1.1.Clean.Lo, .int .i64 r_1.1.Clean.Hi] 26 :: .box b_1 [.slice numbers_p numbers.length numbers_c, .int .i64 r_1.2.1, .int .i64 r_1.2.2] 104 :: Lf) w) ?_ ?_
      · cases hb : (((((r_12.2 != 0) || (r_14.2 != 0)) || (decide (1 < (W (r_12.1.Hi - r_12.1.Lo))))) || (decide (r_12.1.Lo < r_7.1.Lo))) || (decide (r_7.1.Hi < r_12.1.Hi)))
        · rw [hb] at hf
          refine stP hf rfl rfl rfl (pFA fa_24_0 rfl) fun a hf => ?_
          refine stE hf hc rfl rfl rfl (eLd1 sc_3 rfl (cell_box m0 rfl)) fun a w hf hc => ?_
          refine stP hf rfl rfl rfl (pFA fa_24_0 rfl) fun a hf => ?_
          refine stE hf hc rfl rfl rfl (eLd1 sc_3 rfl (cell_box m2 rfl)) fun a w hf hc => ?_
          refine stP hf rfl rfl rfl (pMul rfl rfl) fun a hf => ?_
          refine stP hf rfl rfl rfl (pLt rfl rfl) fun a hf => ?_
          refine stP hf rfl rfl rfl (pPf rfl rfl) fun a hf => ?_
          exact cNil ⟨hf.keep ⟨rfl, rfl, rfl, rfl, rfl, rfl, rfl, rfl, rfl, rfl, rfl, rfl, rfl, rfl, rfl, rfl, rfl, rfl, rfl, trivial⟩, hc⟩
        · rw [hb] at hf
          refine stS hf rfl rfl rfl fun a hf => ?_
          refine stS hf rfl rfl rfl fun a hf => ?_
          refine stS hf rfl rfl rfl fun a hf => ?_
          refine stS hf rfl rfl rfl fun a hf => ?_
          refine stS hf rfl rfl rfl fun a hf => ?_
          refine stS hf rfl rfl rfl fun a hf => ?_
          refine stP hf rfl rfl rfl (pPt rfl rfl) fun a hf => ?_
          exact cNil ⟨hf.keep ⟨rfl, rfl, rfl, rfl, rfl, rfl, rfl, rfl, rfl, rfl, rfl, rfl, rfl, rfl, rfl, rfl, rfl, rfl, rfl, trivial⟩, hc⟩
      intro a w ⟨hf, hc⟩
      refine stP hf rfl rfl rfl (pM rfl) fun a hf => ?_
      refine stCut 7 (fun a w => Has 202 a [(5, .pointer (some ⟨b_2, 0, none⟩)), (11, .pointer (some ⟨b_4, 0, none⟩)), (13, .pointer (some ⟨b_5, 0, none⟩)), (14, .pointer (some ⟨b_6, 0, none⟩)), (12, .int .i64 r_12.2), (16, .pointer (some ⟨b_8, 0, none⟩)), (17, .int .i64 r_14.2), (124, .int .i64 r_12.2), (125, .bool (r_12.2 != 0)), (126, .bool (r_12.2 != 0)), (129, .bool ((r_12.2 != 0) || (r_14.2 != 0))), (130, .bool ((r_12.2 != 0) || (r_14.2 != 0))), (137, .bool (((r_12.2 != 0) || (r_14.2 != 0)) || (decide (1 < (W (r_12.1.Hi - r_12.1.Lo)))))), (138, .bool (((r_12.2 != 0) || (r_14.2 != 0)) || (decide (1 < (W (r_12.1.Hi - r_12.1.Lo)))))), (144, .bool ((((r_12.2 != 0) || (r_14.2 != 0)) || (decide (1 < (W (r_12.1.Hi - r_12.1.Lo))))) || (decide (r_12.1.Lo < r_7.1.Lo)))), (145, .bool ((((r_12.2 != 0) || (r_14.2 != 0)) || (decide (1 < (W (r_12.1.Hi - r_12.1.Lo))))) || (decide (r_12.1.Lo < r_7.1.Lo)))), (151, .bool (((((r_12.2 != 0) || (r_14.2 != 0)) || (decide (1 < (W (r_12.1.Hi - r_12.1.Lo))))) || (decide (r_12.1.Lo < r_7.1.Lo))) || (decide (r_7.1.Hi < r_12.1.Hi)))), (152, .bool (((((r_12.2 != 0) || (r_14.2 != 0)) || (decide (1 < (W (r_12.1.Hi - r_12.1.Lo))))) || (decide (r_12.1.Lo < r_7.1.Lo))) || (decide (r_7.1.Hi < r_12.1.Hi)))), (159, .bool ((((((r_12.2 != 0) || (r_14.2 != 0)) || (decide (1 < (W (r_12.1.Hi - r_12.1.Lo))))) || (decide (r_12.1.Lo < r_7.1.Lo))) || (decide (r_7.1.Hi < r_12.1.Hi))) || (decide (r_14.1.Lo < (W (2 * r_12.1.Lo)))))), (160, .bool ((((((r_12.2 != 0) || (r_14.2 != 0)) || (decide (1 < (W (r_12.1.Hi - r_12.1.Lo))))) || (decide (r_12.1.Lo < r_7.1.Lo))) || (decide (r_7.1.Hi < r_12.1.Hi))) || (decide (r_14.1.Lo < (W (2 * r_12.1.Lo)))))), (167, .bool (((((((r_12.2 != 0) || (r_14.2 != 0)) || (decide (1 < (W (r_12.1.Hi - r_12.1.Lo))))) || (decide (r_12.1.Lo < r_7.1.Lo))) || (decide (r_7.1.Hi < r_12.1.Hi))) || (decide (r_14.1.Lo < (W (2 * r_12.1.Lo))))) || (decide ((W (2 * r_12.1.Hi)) < r_14.1.Hi))))] ∧ Ctx G (.box b_8 [.int .i64 r_14.1.Lo, .int .i64 r_14.1.Hi] 24 :: .box b_7 [.int .i64 r_13.Lo, .int .i64 r_13.Hi, .int .i64 r_9.Lo, .int .i64 r_9.Hi, .int .i64 r_10.Lo, .int .i64 r_10.Hi, .int .i64 r_11.Lo, .int .i64 r_11.Hi] 26 :: .box b_6 [.int .i64 r_12.1.Lo, .int .i64 r_12.1.Hi] 24 :: .box b_5 [.int .i64 r_8.Lo, .int .i64 r_8.Hi, .int .i64 r_9.Lo, .int .i64 r_9.Hi, .int .i64 r_10.Lo, .int .i64 r_10.Hi, .int .i64 r_11.Lo, .int .i64 r_11.Hi] 26 :: .box b_4 [.int .i64 r_7.1.Lo, .int .i64 r_7.1.Hi] 24 :: .box b_3 [.slice truth_p truth.length truth_c, .int .i64 r_6.2.1, .int .i64 r_6.2.2] 104 :: .box b_2 [.int .i64 r_1.1.Rate.Lo, .int .i64 r_1.1.Rate.Hi, .int .i64 r_1.1.Strong.Lo, .int .i64 r_1.1.Strong.Hi, .int .i64 r_1.1.Found.Lo, .int .i64 r_1.1.Found.Hi, .int .i64 r_1.1.Clean.Lo, .int .i64 r_1.1.Clean.Hi] 26 :: .box b_1 [.slice numbers_p numbers.length numbers_c, .int .i64 r_1.2.1, .int .i64 r_1.2.2] 104 :: Lf) w) ?_ ?_
      · cases hb : ((((((r_12.2 != 0) || (r_14.2 != 0)) || (decide (1 < (W (r_12.1.Hi - r_12.1.Lo))))) || (decide (r_12.1.Lo < r_7.1.Lo))) || (decide (r_7.1.Hi < r_12.1.Hi))) || (decide (r_14.1.Lo < (W (2 * r_12.1.Lo)))))
        · rw [hb] at hf
          refine stP hf rfl rfl rfl (pFA fa_24_1 rfl) fun a hf => ?_
          refine stE hf hc rfl rfl rfl (eLd1 sc_3 rfl (cell_box m0 rfl)) fun a w hf hc => ?_
          refine stP hf rfl rfl rfl (pFA fa_24_1 rfl) fun a hf => ?_
          refine stE hf hc rfl rfl rfl (eLd1 sc_3 rfl (cell_box m2 rfl)) fun a w hf hc => ?_
          refine stP hf rfl rfl rfl (pMul rfl rfl) fun a hf => ?_
          refine stP hf rfl rfl rfl (pGt rfl rfl) fun a hf => ?_
          refine stP hf rfl rfl rfl (pPf rfl rfl) fun a hf => ?_
          exact cNil ⟨hf.keep ⟨rfl, rfl, rfl, rfl, rfl, rfl, rfl, rfl, rfl, rfl, rfl, rfl, rfl, rfl, rfl, rfl, rfl, rfl, rfl, rfl, rfl, trivial⟩, hc⟩
        · rw [hb] at hf
          refine stS hf rfl rfl rfl fun a hf => ?_
          refine stS hf rfl rfl rfl fun a hf => ?_
          refine stS hf rfl rfl rfl fun a hf => ?_
          refine stS hf rfl rfl rfl fun a hf => ?_
          refine stS hf rfl rfl rfl fun a hf => ?_
          refine stS hf rfl rfl rfl fun a hf => ?_
          refine stP hf rfl rfl rfl (pPt rfl rfl) fun a hf => ?_
          exact cNil ⟨hf.keep ⟨rfl, rfl, rfl, rfl, rfl, rfl, rfl, rfl, rfl, rfl, rfl, rfl, rfl, rfl, rfl, rfl, rfl, rfl, rfl, rfl, rfl, trivial⟩, hc⟩
      intro a w ⟨hf, hc⟩
      refine cNil ?_
      refine h19 _ _ ?_
      refine cCond (b := (((((((r_12.2 != 0) || (r_14.2 != 0)) || (decide (1 < (W (r_12.1.Hi - r_12.1.Lo))))) || (decide (r_12.1.Lo < r_7.1.Lo))) || (decide (r_7.1.Hi < r_12.1.Hi))) || (decide (r_14.1.Lo < (W (2 * r_12.1.Lo))))) || (decide ((W (2 * r_12.1.Hi)) < r_14.1.Hi)))) hf rfl (fun hb => ?_) (fun hb => ?_)
      · replace hF := condT hb hF
        clear hb
        refine wp_seq_k fun K20 h20 => ?_
        refine cReg ?_
        refine stP hf rfl rfl rfl (pA rfl) fun a hf => ?_
        refine cNil ?_
        refine h20 _ _ ?_
        refine wp_ret ?_
        refine xThenR ?_
        obtain rfl := Option.some.inj hF
        replace hc := hc.drop k7
        replace hc := hc.drop k6
        replace hc := hc.drop k5
        replace hc := hc.drop k4
        replace hc := hc.drop k3
        replace hc := hc.drop k2
        replace hc := hc.drop k1
        replace hc := hc.drop k0
        exact fnOut1 (by simp) rfl Try.results3 hf hc (show look _ 4 = _ from rfl) ⟨rfl, hc⟩
      · replace hF := condF hb hF
        clear hb
        refine wp_skip ?_
        refine h18 _ _ ?_
        refine wp_seq_k fun K21 h21 => ?_
        refine cReg ?_
        refine stP hf rfl rfl rfl (pFA fa_26_2 rfl) fun a hf => ?_
        refine stP hf rfl rfl rfl (pFA fa_24_0 rfl) fun a hf => ?_
        refine stE hf hc rfl rfl rfl (eLd1 sc_3 rfl (cell_box m6 rfl)) fun a w hf hc => ?_
        refine stP hf rfl rfl rfl (pFA fa_26_3 rfl) fun a hf => ?_
        refine stP hf rfl rfl rfl (pFA fa_24_1 rfl) fun a hf => ?_
        refine stSt (vs := [.int .i64 r_1.1.Found.Lo]) hf hc rfl rfl rfl rfl sz_3 rfl rfl u6 fun w hc => ?_
        refine cNil ?_
        refine h21 _ _ ?_
        refine wp_seq_k fun K22 h22 => ?_
        refine cReg ?_
        refine stE hf hc rfl rfl rfl (eLdN (vs := [.int .i64 r_1.1.Rate.Lo, .int .i64 r_1.1.Rate.Hi, .int .i64 r_1.1.Strong.Lo, .int .i64 r_1.1.Strong.Hi, .int .i64 r_1.1.Found.Lo, .int .i64 r_1.1.Found.Hi, .int .i64 r_1.1.Clean.Lo, .int .i64 r_1.1.Found.Lo]) ag_26 rfl rfl (cells_box (n := 8) m6 rfl)) fun a w hf hc => ?_
        obtain ⟨r_15, hr_15, hF⟩ := bnd_some hF
        refine stE hf hc rfl rfl rfl (eC (v := .tuple #[.agg #[.int .i64 r_15.1.Lo, .int .i64 r_15.1.Hi], .int .i64 r_15.2]) (vs := [.agg #[.int .i64 r_1.1.Rate.Lo, .int .i64 r_1.1.Rate.Hi, .int .i64 r_1.1.Strong.Lo, .int .i64 r_1.1.Strong.Hi, .int .i64 r_1.1.Found.Lo, .int .i64 r_1.1.Found.Hi, .int .i64 r_1.1.Clean.Lo, .int .i64 r_1.1.Found.Lo]]) (caps := []) en_13 rfl rfl rfl rfl (fun w hc => gauge_Thinned_ok (⟨r_1.1.Rate, r_1.1.Strong, r_1.1.Found, (⟨r_1.1.Clean.Lo, r_1.1.Found.Lo⟩ : api_Span)⟩ : gauge_Dye) hc hr_15)) fun a w hf hc => ?_
        refine stP hf rfl rfl rfl (pM rfl) fun a hf => ?_
        refine stP hf rfl rfl rfl (pX rfl rfl) fun a hf => ?_
        refine stP hf rfl rfl rfl (pX rfl rfl) fun a hf => ?_
        refine stP hf rfl rfl rfl (pA rfl) fun a hf => ?_
        refine cNil ?_
        refine h22 _ _ ?_
        refine wp_seq_k fun K23 h23 => ?_
        obtain ⟨r_16, hr_16, hF⟩ := bnd_some hF
        refine regionE (fun θ => [⟨none, none, 12, .int .i64 r_15.2⟩, ⟨none, none, 13, .pointer (some ⟨b_5, 0, none⟩)⟩, ⟨some 0, none, 178, .pointer (some ⟨b_5, 2, none⟩)⟩, ⟨some 1, none, 179, .agg #[.int .i64 r_9.Lo, .int .i64 r_9.Hi]⟩, ⟨some 2, none, 180, .agg #[.int .i64 r_16.Lo, .int .i64 r_16.Hi]⟩, ⟨some 3, none, 181, .pointer (some ⟨b_5, 4, none⟩)⟩, ⟨some 5, none, 182, .pointer (some ⟨b_5, 6, none⟩)⟩]) (fun E θ => .box b_8 [.int .i64 r_14.1.Lo, .int .i64 r_14.1.Hi] 24 :: .box b_7 [.int .i64 r_13.Lo, .int .i64 r_13.Hi, .int .i64 r_9.Lo, .int .i64 r_9.Hi, .int .i64 r_10.Lo, .int .i64 r_10.Hi, .int .i64 r_11.Lo, .int .i64 r_11.Hi] 26 :: .box b_6 [.int .i64 r_12.1.Lo, .int .i64 r_12.1.Hi] 24 :: (bif E 6 then .box b_5 [.int .i64 r_8.Lo, .int .i64 r_8.Hi, .int .i64 r_9.Lo, .int .i64 r_9.Hi, .int .i64 r_9.Lo, .int .i64 r_9.Hi, .int .i64 r_16.Lo, .int .i64 r_16.Hi] 26 else bif E 4 then .box b_5 [.int .i64 r_8.Lo, .int .i64 r_8.Hi, .int .i64 r_9.Lo, .int .i64 r_9.Hi, .int .i64 r_9.Lo, .int .i64 r_9.Hi, .int .i64 r_11.Lo, .int .i64 r_11.Hi] 26 else .box b_5 [.int .i64 r_8.Lo, .int .i64 r_8.Hi, .int .i64 r_9.Lo, .int .i64 r_9.Hi, .int .i64 r_10.Lo, .int .i64 r_10.Hi, .int .i64 r_11.Lo, .int .i64 r_11.Hi] 26) :: .box b_4 [.int .i64 r_7.1.Lo, .int .i64 r_7.1.Hi] 24 :: .box b_3 [.slice truth_p truth.length truth_c, .int .i64 r_6.2.1, .int .i64 r_6.2.2] 104 :: .box b_2 [.int .i64 r_1.1.Rate.Lo, .int .i64 r_1.1.Rate.Hi, .int .i64 r_1.1.Strong.Lo, .int .i64 r_1.1.Strong.Hi, .int .i64 r_1.1.Found.Lo, .int .i64 r_1.1.Found.Hi, .int .i64 r_1.1.Clean.Lo, .int .i64 r_1.1.Found.Lo] 26 :: .box b_1 [.slice numbers_p numbers.length numbers_c, .int .i64 r_1.2.1, .int .i64 r_1.2.2] 104 :: Lf) [(4, 1), (6, 1), (6, 4)] (fun a w => Has 202 a [(12, .int .i64 r_15.2), (13, .pointer (some ⟨b_5, 0, none⟩))] ∧ Ctx G (.box b_8 [.int .i64 r_14.1.Lo, .int .i64 r_14.1.Hi] 24 :: .box b_7 [.int .i64 r_13.Lo, .int .i64 r_13.Hi, .int .i64 r_9.Lo, .int .i64 r_9.Hi, .int .i64 r_10.Lo, .int .i64 r_10.Hi, .int .i64 r_11.Lo, .int .i64 r_11.Hi] 26 :: .box b_6 [.int .i64 r_12.1.Lo, .int .i64 r_12.1.Hi] 24 :: .box b_5 [.int .i64 r_8.Lo, .int .i64 r_8.Hi, .int .i64 r_9.Lo, .int .i64 r_9.Hi, .int .i64 r_9.Lo, .int .i64 r_9.Hi, .int .i64 r_16.Lo, .int .i64 r_16.Hi] 26 :: .box b_4 [.int .i64 r_7.1.Lo, .int .i64 r_7.1.Hi] 24 :: .box b_3 [.slice truth_p truth.length truth_c, .int .i64 r_6.2.1, .int .i64 r_6.2.2] 104 :: .box b_2 [.int .i64 r_1.1.Rate.Lo, .int .i64 r_1.1.Rate.Hi, .int .i64 r_1.1.Strong.Lo, .int .i64 r_1.1.Strong.Hi, .int .i64 r_1.1.Found.Lo, .int .i64 r_1.1.Found.Hi, .int .i64 r_1.1.Clean.Lo, .int .i64 r_1.1.Found.Lo] 26 :: .box b_1 [.slice numbers_p numbers.length numbers_c, .int .i64 r_1.2.1, .int .i64 r_1.2.2] 104 :: Lf) w) mixed (by kernel_rfl) (by kernel_rfl) (HasE.of hf ⟨rfl, rfl, trivial, trivial, trivial, trivial, trivial, trivial⟩) hc ⟨?_, ?_, ?_, ?_, ?_, ?_, ?_, trivial⟩ ?_ ?_
        · intro E θ a w hD hi hp he hc
          have hf := he.h0
          replace hf := hf.more he 1 rfl (onT)
          refine stP hf rfl rfl rfl (pFA fa_26_1 rfl) fun a hf => ?_
          refine cNil ?_
          refine xThenN ?_
          intro ds u hau
          refine ⟨θ, he.put hi hau hf rfl [] trivial ⟨⟨rfl, rfl⟩, ⟨rfl, rfl⟩, ⟨rfl, rfl⟩, ⟨rfl, rfl⟩, ⟨rfl, rfl⟩, ⟨rfl, rfl⟩, ⟨rfl, rfl⟩, trivial⟩, ?_⟩
          exact hc
        · intro E θ a w hD hi hp he hc
          have e0 := hp.of (k := 0) rfl
          have e4 := hD.f 0 rfl hi
          have e6 := hD.f 1 rfl hi
          replace hc : Ctx G (.box b_8 [.int .i64 r_14.1.Lo, .int .i64 r_14.1.Hi] 24 :: .box b_7 [.int .i64 r_13.Lo, .int .i64 r_13.Hi, .int .i64 r_9.Lo, .int .i64 r_9.Hi, .int .i64 r_10.Lo, .int .i64 r_10.Hi, .int .i64 r_11.Lo, .int .i64 r_11.Hi] 26 :: .box b_6 [.int .i64 r_12.1.Lo, .int .i64 r_12.1.Hi] 24 :: (bif E 6 then .box b_5 [.int .i64 r_8.Lo, .int .i64 r_8.Hi, .int .i64 r_9.Lo, .int .i64 r_9.Hi, .int .i64 r_9.Lo, .int .i64 r_9.Hi, .int .i64 r_16.Lo, .int .i64 r_16.Hi] 26 else bif E 4 then .box b_5 [.int .i64 r_8.Lo, .int .i64 r_8.Hi, .int .i64 r_9.Lo, .int .i64 r_9.Hi, .int .i64 r_9.Lo, .int .i64 r_9.Hi, .int .i64 r_11.Lo, .int .i64 r_11.Hi] 26 else .box b_5 [.int .i64 r_8.Lo, .int .i64 r_8.Hi, .int .i64 r_9.Lo, .int .i64 r_9.Hi, .int .i64 r_10.Lo, .int .i64 r_10.Hi, .int .i64 r_11.Lo, .int .i64 r_11.Hi] 26) :: .box b_4 [.int .i64 r_7.1.Lo, .int .i64 r_7.1.Hi] 24 :: .box b_3 [.slice truth_p truth.length truth_c, .int .i64 r_6.2.1, .int .i64 r_6.2.2] 104 :: .box b_2 [.int .i64 r_1.1.Rate.Lo, .int .i64 r_1.1.Rate.Hi, .int .i64 r_1.1.Strong.Lo, .int .i64 r_1.1.Strong.Hi, .int .i64 r_1.1.Found.Lo, .int .i64 r_1.1.Found.Hi, .int .i64 r_1.1.Clean.Lo, .int .i64 r_1.1.Found.Lo] 26 :: .box b_1 [.slice numbers_p numbers.length numbers_c, .int .i64 r_1.2.1, .int .i64 r_1.2.2] 104 :: Lf) w := hc
          rw [e4, e6] at hc
          replace hc : Ctx G (.box b_8 [.int .i64 r_14.1.Lo, .int .i64 r_14.1.Hi] 24 :: .box b_7 [.int .i64 r_13.Lo, .int .i64 r_13.Hi, .int .i64 r_9.Lo, .int .i64 r_9.Hi, .int .i64 r_10.Lo, .int .i64 r_10.Hi, .int .i64 r_11.Lo, .int .i64 r_11.Hi] 26 :: .box b_6 [.int .i64 r_12.1.Lo, .int .i64 r_12.1.Hi] 24 :: .box b_5 [.int .i64 r_8.Lo, .int .i64 r_8.Hi, .int .i64 r_9.Lo, .int .i64 r_9.Hi, .int .i64 r_10.Lo, .int .i64 r_10.Hi, .int .i64 r_11.Lo, .int .i64 r_11.Hi] 26 :: .box b_4 [.int .i64 r_7.1.Lo, .int .i64 r_7.1.Hi] 24 :: .box b_3 [.slice truth_p truth.length truth_c, .int .i64 r_6.2.1, .int .i64 r_6.2.2] 104 :: .box b_2 [.int .i64 r_1.1.Rate.Lo, .int .i64 r_1.1.Rate.Hi, .int .i64 r_1.1.Strong.Lo, .int .i64 r_1.1.Strong.Hi, .int .i64 r_1.1.Found.Lo, .int .i64 r_1.1.Found.Hi, .int .i64 r_1.1.Clean.Lo, .int .i64 r_1.1.Found.Lo] 26 :: .box b_1 [.slice numbers_p numbers.length numbers_c, .int .i64 r_1.2.1, .int .i64 r_1.2.2] 104 :: Lf) w := hc
          have hf := he.h0
          replace hf := hf.more he 2 rfl (onP e0)
          refine stE hf hc rfl rfl rfl (eLdN (vs := [.int .i64 r_9.Lo, .int .i64 r_9.Hi]) ag_24 rfl rfl (cells_box (n := 2) m3 rfl)) fun a w hf hc => ?_
          refine cNil ?_
          refine xThenN ?_
          intro ds u hau
          refine ⟨θ, he.put hi hau hf rfl [] trivial ⟨⟨rfl, rfl⟩, ⟨rfl, rfl⟩, ⟨rfl, rfl⟩, ⟨rfl, rfl⟩, ⟨rfl, rfl⟩, ⟨rfl, rfl⟩, ⟨rfl, rfl⟩, trivial⟩, ?_⟩
          show Ctx G (.box b_8 [.int .i64 r_14.1.Lo, .int .i64 r_14.1.Hi] 24 :: .box b_7 [.int .i64 r_13.Lo, .int .i64 r_13.Hi, .int .i64 r_9.Lo, .int .i64 r_9.Hi, .int .i64 r_10.Lo, .int .i64 r_10.Hi, .int .i64 r_11.Lo, .int .i64 r_11.Hi] 26 :: .box b_6 [.int .i64 r_12.1.Lo, .int .i64 r_12.1.Hi] 24 :: (bif E 6 then .box b_5 [.int .i64 r_8.Lo, .int .i64 r_8.Hi, .int .i64 r_9.Lo, .int .i64 r_9.Hi, .int .i64 r_9.Lo, .int .i64 r_9.Hi, .int .i64 r_16.Lo, .int .i64 r_16.Hi] 26 else bif E 4 then .box b_5 [.int .i64 r_8.Lo, .int .i64 r_8.Hi, .int .i64 r_9.Lo, .int .i64 r_9.Hi, .int .i64 r_9.Lo, .int .i64 r_9.Hi, .int .i64 r_11.Lo, .int .i64 r_11.Hi] 26 else .box b_5 [.int .i64 r_8.Lo, .int .i64 r_8.Hi, .int .i64 r_9.Lo, .int .i64 r_9.Hi, .int .i64 r_10.Lo, .int .i64 r_10.Hi, .int .i64 r_11.Lo, .int .i64 r_11.Hi] 26) :: .box b_4 [.int .i64 r_7.1.Lo, .int .i64 r_7.1.Hi] 24 :: .box b_3 [.slice truth_p truth.length truth_c, .int .i64 r_6.2.1, .int .i64 r_6.2.2] 104 :: .box b_2 [.int .i64 r_1.1.Rate.Lo, .int .i64 r_1.1.Rate.Hi, .int .i64 r_1.1.Strong.Lo, .int .i64 r_1.1.Strong.Hi, .int .i64 r_1.1.Found.Lo, .int .i64 r_1.1.Found.Hi, .int .i64 r_1.1.Clean.Lo, .int .i64 r_1.1.Found.Lo] 26 :: .box b_1 [.slice numbers_p numbers.length numbers_c, .int .i64 r_1.2.1, .int .i64 r_1.2.2] 104 :: Lf) w
          rw [e4, e6]
          exact hc
        · intro E θ a w hD hi hp he hc
          have hf := he.h0
          refine stE hf hc rfl rfl rfl (eC (v := .agg #[.int .i64 r_16.Lo, .int .i64 r_16.Hi]) (vs := [.int .i64 0, .int .i64 0]) (caps := []) en_14 rfl rfl rfl rfl (fun w hc => law03_span_ok 0 0 hc hr_16)) fun a w hf hc => ?_
          refine cNil ?_
          refine xThenN ?_
          intro ds u hau
          refine ⟨θ, he.put hi hau hf rfl [] trivial ⟨⟨rfl, rfl⟩, ⟨rfl, rfl⟩, ⟨rfl, rfl⟩, ⟨rfl, rfl⟩, ⟨rfl, rfl⟩, ⟨rfl, rfl⟩, ⟨rfl, rfl⟩, trivial⟩, ?_⟩
          exact hc
        · intro E θ a w hD hi hp he hc
          have hf := he.h0
          replace hf := hf.more he 1 rfl (onT)
          refine stP hf rfl rfl rfl (pFA fa_26_2 rfl) fun a hf => ?_
          refine cNil ?_
          refine xThenN ?_
          intro ds u hau
          refine ⟨θ, he.put hi hau hf rfl [] trivial ⟨⟨rfl, rfl⟩, ⟨rfl, rfl⟩, ⟨rfl, rfl⟩, ⟨rfl, rfl⟩, ⟨rfl, rfl⟩, ⟨rfl, rfl⟩, ⟨rfl, rfl⟩, trivial⟩, ?_⟩
          exact hc
        · intro E θ a w hD hi hp he hc
          have e1 := hp.of (k := 1) rfl
          have e3 := hp.of (k := 3) rfl
          have e6 := hD.f 2 rfl hi
          replace hc : Ctx G (.box b_8 [.int .i64 r_14.1.Lo, .int .i64 r_14.1.Hi] 24 :: .box b_7 [.int .i64 r_13.Lo, .int .i64 r_13.Hi, .int .i64 r_9.Lo, .int .i64 r_9.Hi, .int .i64 r_10.Lo, .int .i64 r_10.Hi, .int .i64 r_11.Lo, .int .i64 r_11.Hi] 26 :: .box b_6 [.int .i64 r_12.1.Lo, .int .i64 r_12.1.Hi] 24 :: (bif E 6 then .box b_5 [.int .i64 r_8.Lo, .int .i64 r_8.Hi, .int .i64 r_9.Lo, .int .i64 r_9.Hi, .int .i64 r_9.Lo, .int .i64 r_9.Hi, .int .i64 r_16.Lo, .int .i64 r_16.Hi] 26 else bif E 4 then .box b_5 [.int .i64 r_8.Lo, .int .i64 r_8.Hi, .int .i64 r_9.Lo, .int .i64 r_9.Hi, .int .i64 r_9.Lo, .int .i64 r_9.Hi, .int .i64 r_11.Lo, .int .i64 r_11.Hi] 26 else .box b_5 [.int .i64 r_8.Lo, .int .i64 r_8.Hi, .int .i64 r_9.Lo, .int .i64 r_9.Hi, .int .i64 r_10.Lo, .int .i64 r_10.Hi, .int .i64 r_11.Lo, .int .i64 r_11.Hi] 26) :: .box b_4 [.int .i64 r_7.1.Lo, .int .i64 r_7.1.Hi] 24 :: .box b_3 [.slice truth_p truth.length truth_c, .int .i64 r_6.2.1, .int .i64 r_6.2.2] 104 :: .box b_2 [.int .i64 r_1.1.Rate.Lo, .int .i64 r_1.1.Rate.Hi, .int .i64 r_1.1.Strong.Lo, .int .i64 r_1.1.Strong.Hi, .int .i64 r_1.1.Found.Lo, .int .i64 r_1.1.Found.Hi, .int .i64 r_1.1.Clean.Lo, .int .i64 r_1.1.Found.Lo] 26 :: .box b_1 [.slice numbers_p numbers.length numbers_c, .int .i64 r_1.2.1, .int .i64 r_1.2.2] 104 :: Lf) w := hc
          rw [hi, e6] at hc
          replace hc : Ctx G (.box b_8 [.int .i64 r_14.1.Lo, .int .i64 r_14.1.Hi] 24 :: .box b_7 [.int .i64 r_13.Lo, .int .i64 r_13.Hi, .int .i64 r_9.Lo, .int .i64 r_9.Hi, .int .i64 r_10.Lo, .int .i64 r_10.Hi, .int .i64 r_11.Lo, .int .i64 r_11.Hi] 26 :: .box b_6 [.int .i64 r_12.1.Lo, .int .i64 r_12.1.Hi] 24 :: .box b_5 [.int .i64 r_8.Lo, .int .i64 r_8.Hi, .int .i64 r_9.Lo, .int .i64 r_9.Hi, .int .i64 r_10.Lo, .int .i64 r_10.Hi, .int .i64 r_11.Lo, .int .i64 r_11.Hi] 26 :: .box b_4 [.int .i64 r_7.1.Lo, .int .i64 r_7.1.Hi] 24 :: .box b_3 [.slice truth_p truth.length truth_c, .int .i64 r_6.2.1, .int .i64 r_6.2.2] 104 :: .box b_2 [.int .i64 r_1.1.Rate.Lo, .int .i64 r_1.1.Rate.Hi, .int .i64 r_1.1.Strong.Lo, .int .i64 r_1.1.Strong.Hi, .int .i64 r_1.1.Found.Lo, .int .i64 r_1.1.Found.Hi, .int .i64 r_1.1.Clean.Lo, .int .i64 r_1.1.Found.Lo] 26 :: .box b_1 [.slice numbers_p numbers.length numbers_c, .int .i64 r_1.2.1, .int .i64 r_1.2.2] 104 :: Lf) w := hc
          have hf := he.h0
          replace hf := hf.more he 3 rfl (onP e1)
          replace hf := hf.more he 5 rfl (onP e3)
          refine stSt (vs := [.int .i64 r_9.Lo, .int .i64 r_9.Hi]) hf hc rfl rfl rfl rfl sz_24 rfl rfl u3 fun w hc => ?_
          refine cNil ?_
          refine xThenN ?_
          intro ds u hau
          refine ⟨θ, he.stay hi hau hf ⟨⟨rfl, rfl⟩, ⟨rfl, rfl⟩, ⟨rfl, rfl⟩, ⟨rfl, rfl⟩, ⟨rfl, rfl⟩, ⟨rfl, rfl⟩, ⟨rfl, rfl⟩, trivial⟩, ?_⟩
          show Ctx G (.box b_8 [.int .i64 r_14.1.Lo, .int .i64 r_14.1.Hi] 24 :: .box b_7 [.int .i64 r_13.Lo, .int .i64 r_13.Hi, .int .i64 r_9.Lo, .int .i64 r_9.Hi, .int .i64 r_10.Lo, .int .i64 r_10.Hi, .int .i64 r_11.Lo, .int .i64 r_11.Hi] 26 :: .box b_6 [.int .i64 r_12.1.Lo, .int .i64 r_12.1.Hi] 24 :: (bif E 6 then .box b_5 [.int .i64 r_8.Lo, .int .i64 r_8.Hi, .int .i64 r_9.Lo, .int .i64 r_9.Hi, .int .i64 r_9.Lo, .int .i64 r_9.Hi, .int .i64 r_16.Lo, .int .i64 r_16.Hi] 26 else bif true then .box b_5 [.int .i64 r_8.Lo, .int .i64 r_8.Hi, .int .i64 r_9.Lo, .int .i64 r_9.Hi, .int .i64 r_9.Lo, .int .i64 r_9.Hi, .int .i64 r_11.Lo, .int .i64 r_11.Hi] 26 else .box b_5 [.int .i64 r_8.Lo, .int .i64 r_8.Hi, .int .i64 r_9.Lo, .int .i64 r_9.Hi, .int .i64 r_10.Lo, .int .i64 r_10.Hi, .int .i64 r_11.Lo, .int .i64 r_11.Hi] 26) :: .box b_4 [.int .i64 r_7.1.Lo, .int .i64 r_7.1.Hi] 24 :: .box b_3 [.slice truth_p truth.length truth_c, .int .i64 r_6.2.1, .int .i64 r_6.2.2] 104 :: .box b_2 [.int .i64 r_1.1.Rate.Lo, .int .i64 r_1.1.Rate.Hi, .int .i64 r_1.1.Strong.Lo, .int .i64 r_1.1.Strong.Hi, .int .i64 r_1.1.Found.Lo, .int .i64 r_1.1.Found.Hi, .int .i64 r_1.1.Clean.Lo, .int .i64 r_1.1.Found.Lo] 26 :: .box b_1 [.slice numbers_p numbers.length numbers_c, .int .i64 r_1.2.1, .int .i64 r_1.2.2] 104 :: Lf) w
          rw [e6]
          exact hc
        · intro E θ a w hD hi hp he hc
          have hf := he.h0
          replace hf := hf.more he 1 rfl (onT)
          refine stP hf rfl rfl rfl (pFA fa_26_3 rfl) fun a hf => ?_
          refine cNil ?_
          refine xThenN ?_
          intro ds u hau
          refine ⟨θ, he.put hi hau hf rfl [] trivial ⟨⟨rfl, rfl⟩, ⟨rfl, rfl⟩, ⟨rfl, rfl⟩, ⟨rfl, rfl⟩, ⟨rfl, rfl⟩, ⟨rfl, rfl⟩, ⟨rfl, rfl⟩, trivial⟩, ?_⟩
          exact hc
        · intro E θ a w hD hi hp he hc
          have e2 := hp.of (k := 2) rfl
          have e5 := hp.of (k := 5) rfl
          have e4 := hp.of (k := 4) rfl
          replace hc : Ctx G (.box b_8 [.int .i64 r_14.1.Lo, .int .i64 r_14.1.Hi] 24 :: .box b_7 [.int .i64 r_13.Lo, .int .i64 r_13.Hi, .int .i64 r_9.Lo, .int .i64 r_9.Hi, .int .i64 r_10.Lo, .int .i64 r_10.Hi, .int .i64 r_11.Lo, .int .i64 r_11.Hi] 26 :: .box b_6 [.int .i64 r_12.1.Lo, .int .i64 r_12.1.Hi] 24 :: (bif E 6 then .box b_5 [.int .i64 r_8.Lo, .int .i64 r_8.Hi, .int .i64 r_9.Lo, .int .i64 r_9.Hi, .int .i64 r_9.Lo, .int .i64 r_9.Hi, .int .i64 r_16.Lo, .int .i64 r_16.Hi] 26 else bif E 4 then .box b_5 [.int .i64 r_8.Lo, .int .i64 r_8.Hi, .int .i64 r_9.Lo, .int .i64 r_9.Hi, .int .i64 r_9.Lo, .int .i64 r_9.Hi, .int .i64 r_11.Lo, .int .i64 r_11.Hi] 26 else .box b_5 [.int .i64 r_8.Lo, .int .i64 r_8.Hi, .int .i64 r_9.Lo, .int .i64 r_9.Hi, .int .i64 r_10.Lo, .int .i64 r_10.Hi, .int .i64 r_11.Lo, .int .i64 r_11.Hi] 26) :: .box b_4 [.int .i64 r_7.1.Lo, .int .i64 r_7.1.Hi] 24 :: .box b_3 [.slice truth_p truth.length truth_c, .int .i64 r_6.2.1, .int .i64 r_6.2.2] 104 :: .box b_2 [.int .i64 r_1.1.Rate.Lo, .int .i64 r_1.1.Rate.Hi, .int .i64 r_1.1.Strong.Lo, .int .i64 r_1.1.Strong.Hi, .int .i64 r_1.1.Found.Lo, .int .i64 r_1.1.Found.Hi, .int .i64 r_1.1.Clean.Lo, .int .i64 r_1.1.Found.Lo] 26 :: .box b_1 [.slice numbers_p numbers.length numbers_c, .int .i64 r_1.2.1, .int .i64 r_1.2.2] 104 :: Lf) w := hc
          rw [e4, hi] at hc
          replace hc : Ctx G (.box b_8 [.int .i64 r_14.1.Lo, .int .i64 r_14.1.Hi] 24 :: .box b_7 [.int .i64 r_13.Lo, .int .i64 r_13.Hi, .int .i64 r_9.Lo, .int .i64 r_9.Hi, .int .i64 r_10.Lo, .int .i64 r_10.Hi, .int .i64 r_11.Lo, .int .i64 r_11.Hi] 26 :: .box b_6 [.int .i64 r_12.1.Lo, .int .i64 r_12.1.Hi] 24 :: .box b_5 [.int .i64 r_8.Lo, .int .i64 r_8.Hi, .int .i64 r_9.Lo, .int .i64 r_9.Hi, .int .i64 r_9.Lo, .int .i64 r_9.Hi, .int .i64 r_11.Lo, .int .i64 r_11.Hi] 26 :: .box b_4 [.int .i64 r_7.1.Lo, .int .i64 r_7.1.Hi] 24 :: .box b_3 [.slice truth_p truth.length truth_c, .int .i64 r_6.2.1, .int .i64 r_6.2.2] 104 :: .box b_2 [.int .i64 r_1.1.Rate.Lo, .int .i64 r_1.1.Rate.Hi, .int .i64 r_1.1.Strong.Lo, .int .i64 r_1.1.Strong.Hi, .int .i64 r_1.1.Found.Lo, .int .i64 r_1.1.Found.Hi, .int .i64 r_1.1.Clean.Lo, .int .i64 r_1.1.Found.Lo] 26 :: .box b_1 [.slice numbers_p numbers.length numbers_c, .int .i64 r_1.2.1, .int .i64 r_1.2.2] 104 :: Lf) w := hc
          have hf := he.h0
          replace hf := hf.more he 4 rfl (onP e2)
          replace hf := hf.more he 6 rfl (onP e5)
          refine stSt (vs := [.int .i64 r_16.Lo, .int .i64 r_16.Hi]) hf hc rfl rfl rfl rfl sz_24 rfl rfl u3 fun w hc => ?_
          refine cNil ?_
          refine xThenN ?_
          intro ds u hau
          refine ⟨θ, he.stay hi hau hf ⟨⟨rfl, rfl⟩, ⟨rfl, rfl⟩, ⟨rfl, rfl⟩, ⟨rfl, rfl⟩, ⟨rfl, rfl⟩, ⟨rfl, rfl⟩, ⟨rfl, rfl⟩, trivial⟩, ?_⟩
          show Ctx G (.box b_8 [.int .i64 r_14.1.Lo, .int .i64 r_14.1.Hi] 24 :: .box b_7 [.int .i64 r_13.Lo, .int .i64 r_13.Hi, .int .i64 r_9.Lo, .int .i64 r_9.Hi, .int .i64 r_10.Lo, .int .i64 r_10.Hi, .int .i64 r_11.Lo, .int .i64 r_11.Hi] 26 :: .box b_6 [.int .i64 r_12.1.Lo, .int .i64 r_12.1.Hi] 24 :: (bif true then .box b_5 [.int .i64 r_8.Lo, .int .i64 r_8.Hi, .int .i64 r_9.Lo, .int .i64 r_9.Hi, .int .i64 r_9.Lo, .int .i64 r_9.Hi, .int .i64 r_16.Lo, .int .i64 r_16.Hi] 26 else bif E 4 then .box b_5 [.int .i64 r_8.Lo, .int .i64 r_8.Hi, .int .i64 r_9.Lo, .int .i64 r_9.Hi, .int .i64 r_9.Lo, .int .i64 r_9.Hi, .int .i64 r_11.Lo, .int .i64 r_11.Hi] 26 else .box b_5 [.int .i64 r_8.Lo, .int .i64 r_8.Hi, .int .i64 r_9.Lo, .int .i64 r_9.Hi, .int .i64 r_10.Lo, .int .i64 r_10.Hi, .int .i64 r_11.Lo, .int .i64 r_11.Hi] 26) :: .box b_4 [.int .i64 r_7.1.Lo, .int .i64 r_7.1.Hi] 24 :: .box b_3 [.slice truth_p truth.length truth_c, .int .i64 r_6.2.1, .int .i64 r_6.2.2] 104 :: .box b_2 [.int .i64 r_1.1.Rate.Lo, .int .i64 r_1.1.Rate.Hi, .int .i64 r_1.1.Strong.Lo, .int .i64 r_1.1.Strong.Hi, .int .i64 r_1.1.Found.Lo, .int .i64 r_1.1.Found.Hi, .int .i64 r_1.1.Clean.Lo, .int .i64 r_1.1.Found.Lo] 26 :: .box b_1 [.slice numbers_p numbers.length numbers_c, .int .i64 r_1.2.1, .int .i64 r_1.2.2] 104 :: Lf) w
          rw [e4]
          exact hc
        · intro E θ a w hall he hc
          have hf := he.h0
          have e4 := hall 4 rfl
          have e6 := hall 6 rfl
          replace hf := hf.more he 1 rfl (onT)
          replace hf := hf.more he 0 rfl (onT)
          replace hc : Ctx G (.box b_8 [.int .i64 r_14.1.Lo, .int .i64 r_14.1.Hi] 24 :: .box b_7 [.int .i64 r_13.Lo, .int .i64 r_13.Hi, .int .i64 r_9.Lo, .int .i64 r_9.Hi, .int .i64 r_10.Lo, .int .i64 r_10.Hi, .int .i64 r_11.Lo, .int .i64 r_11.Hi] 26 :: .box b_6 [.int .i64 r_12.1.Lo, .int .i64 r_12.1.Hi] 24 :: (bif E 6 then .box b_5 [.int .i64 r_8.Lo, .int .i64 r_8.Hi, .int .i64 r_9.Lo, .int .i64 r_9.Hi, .int .i64 r_9.Lo, .int .i64 r_9.Hi, .int .i64 r_16.Lo, .int .i64 r_16.Hi] 26 else bif E 4 then .box b_5 [.int .i64 r_8.Lo, .int .i64 r_8.Hi, .int .i64 r_9.Lo, .int .i64 r_9.Hi, .int .i64 r_9.Lo, .int .i64 r_9.Hi, .int .i64 r_11.Lo, .int .i64 r_11.Hi] 26 else .box b_5 [.int .i64 r_8.Lo, .int .i64 r_8.Hi, .int .i64 r_9.Lo, .int .i64 r_9.Hi, .int .i64 r_10.Lo, .int .i64 r_10.Hi, .int .i64 r_11.Lo, .int .i64 r_11.Hi] 26) :: .box b_4 [.int .i64 r_7.1.Lo, .int .i64 r_7.1.Hi] 24 :: .box b_3 [.slice truth_p truth.length truth_c, .int .i64 r_6.2.1, .int .i64 r_6.2.2] 104 :: .box b_2 [.int .i64 r_1.1.Rate.Lo, .int .i64 r_1.1.Rate.Hi, .int .i64 r_1.1.Strong.Lo, .int .i64 r_1.1.Strong.Hi, .int .i64 r_1.1.Found.Lo, .int .i64 r_1.1.Found.Hi, .int .i64 r_1.1.Clean.Lo, .int .i64 r_1.1.Found.Lo] 26 :: .box b_1 [.slice numbers_p numbers.length numbers_c, .int .i64 r_1.2.1, .int .i64 r_1.2.2] 104 :: Lf) w := hc
          rw [e4, e6] at hc
          exact ⟨hf.keep ⟨rfl, rfl, trivial⟩, hc⟩
        rintro a w ⟨hf, hc⟩
        refine h23 _ _ ?_
        refine wp_seq_k fun K24 h24 => ?_
        refine cReg ?_
        refine stE hf hc rfl rfl rfl (eLdN (vs := [.int .i64 r_8.Lo, .int .i64 r_8.Hi, .int .i64 r_9.Lo, .int .i64 r_9.Hi, .int .i64 r_9.Lo, .int .i64 r_9.Hi, .int .i64 r_16.Lo, .int .i64 r_16.Hi]) ag_26 rfl rfl (cells_box (n := 8) m3 rfl)) fun a w hf hc => ?_
        obtain ⟨r_17, hr_17, hF⟩ := bnd_some hF
        refine stE hf hc rfl rfl rfl (eC (v := .tuple #[.agg #[.int .i64 r_17.1.Lo, .int .i64 r_17.1.Hi], .int .i64 r_17.2]) (vs := [.agg #[.int .i64 r_8.Lo, .int .i64 r_8.Hi, .int .i64 r_9.Lo, .int .i64 r_9.Hi, .int .i64 r_9.Lo, .int .i64 r_9.Hi, .int .i64 r_16.Lo, .int .i64 r_16.Hi]]) (caps := []) en_13 rfl rfl rfl rfl (fun w hc => gauge_Thinned_ok (⟨r_8, r_9, r_9, r_16⟩ : gauge_Dye) hc hr_17)) fun a w hf hc => ?_
        refine stP hf rfl rfl rfl (pM rfl) fun a hf => ?_
        refine stP hf rfl rfl rfl (pX rfl rfl) fun a hf => ?_
        refine stP hf rfl rfl rfl (pX rfl rfl) fun a hf => ?_
        refine stAl (cs := [.int .i64 0, .int .i64 0]) hf hc rfl rfl zr_24 rfl fun b_9 a w hf hc => ?_
        refine stSt (vs := [.int .i64 r_17.1.Lo, .int .i64 r_17.1.Hi]) hf hc rfl rfl rfl rfl sz_24 rfl rfl u0 fun w hc => ?_
        refine stP hf rfl rfl rfl (pA rfl) fun a hf => ?_
        refine cNil ?_
        refine h24 _ _ ?_
        refine wp_seq_k fun K25 h25 => ?_
        refine cReg ?_
        refine stP hf rfl rfl rfl (pM rfl) fun a hf => ?_
        refine stP hf rfl rfl rfl (pEq rfl rfl) fun a hf => ?_
        refine stP hf rfl rfl rfl (pM rfl) fun a hf => ?_
        refine stCut 3 (fun a w => Has 202 a [(12, .int .i64 r_15.2), (18, .pointer (some ⟨b_9, 0, none⟩)), (17, .int .i64 r_17.2), (188, .int .i64 r_15.2), (189, .bool (r_15.2 == 7)), (190, .bool (r_15.2 == 7)), (193, .bool ((r_15.2 == 7) && (r_17.2 == 0)))] ∧ Ctx G (.box b_9 [.int .i64 r_17.1.Lo, .int .i64 r_17.1.Hi] 24 :: .box b_8 [.int .i64 r_14.1.Lo, .int .i64 r_14.1.Hi] 24 :: .box b_7 [.int .i64 r_13.Lo, .int .i64 r_13.Hi, .int .i64 r_9.Lo, .int .i64 r_9.Hi, .int .i64 r_10.Lo, .int .i64 r_10.Hi, .int .i64 r_11.Lo, .int .i64 r_11.Hi] 26 :: .box b_6 [.int .i64 r_12.1.Lo, .int .i64 r_12.1.Hi] 24 :: .box b_5 [.int .i64 r_8.Lo, .int .i64 r_8.Hi, .int .i64 r_9.Lo, .int .i64 r_9.Hi, .int .i64 r_9.Lo, .int .i64 r_9.Hi, .int .i64 r_16.Lo, .int .i64 r_16.Hi] 26 :: .box b_4 [.int .i64 r_7.1.Lo, .int .i64 r_7.1.Hi] 24 :: .box b_3 [.slice truth_p truth.length truth_c, .int .i64 r_6.2.1, .int .i64 r_6.2.2] 104 :: .box b_2 [.int .i64 r_1.1.Rate.Lo, .int .i64 r_1.1.Rate.Hi, .int .i64 r_1.1.Strong.Lo, .int .i64 r_1.1.Strong.Hi, .int .i64 r_1.1.Found.Lo, .int .i64 r_1.1.Found.Hi, .int .i64 r_1.1.Clean.Lo, .int .i64 r_1.1.Found.Lo] 26 :: .box b_1 [.slice numbers_p numbers.length numbers_c, .int .i64 r_1.2.1, .int .i64 r_1.2.2] 104 :: Lf) w) ?_ ?_
        · cases hb : (r_15.2 == 7)
          · rw [hb] at hf
            refine stS hf rfl rfl rfl fun a hf => ?_
            refine stS hf rfl rfl rfl fun a hf => ?_
            refine stP hf rfl rfl rfl (pPf rfl rfl) fun a hf => ?_
            exact cNil ⟨hf.keep ⟨rfl, rfl, rfl, rfl, rfl, rfl, rfl, trivial⟩, hc⟩
          · rw [hb] at hf
            refine stP hf rfl rfl rfl (pM rfl) fun a hf => ?_
            refine stP hf rfl rfl rfl (pEq rfl rfl) fun a hf => ?_
            refine stP hf rfl rfl rfl (pPt rfl rfl) fun a hf => ?_
            exact cNil ⟨hf.keep ⟨rfl, rfl, rfl, rfl, rfl, rfl, rfl, trivial⟩, hc⟩
        intro a w ⟨hf, hc⟩
        refine stP hf rfl rfl rfl (pM rfl) fun a hf => ?_
        refine stCut 4 (fun a w => Has 202 a [(12, .int .i64 r_15.2), (18, .pointer (some ⟨b_9, 0, none⟩)), (17, .int .i64 r_17.2), (188, .int .i64 r_15.2), (189, .bool (r_15.2 == 7)), (190, .bool (r_15.2 == 7)), (193, .bool ((r_15.2 == 7) && (r_17.2 == 0))), (194, .bool ((r_15.2 == 7) && (r_17.2 == 0))), (198, .bool (((r_15.2 == 7) && (r_17.2 == 0)) && (r_17.1.Lo == 0 && r_17.1.Hi == 0)))] ∧ Ctx G (.box b_9 [.int .i64 r_17.1.Lo, .int .i64 r_17.1.Hi] 24 :: .box b_8 [.int .i64 r_14.1.Lo, .int .i64 r_14.1.Hi] 24 :: .box b_7 [.int .i64 r_13.Lo, .int .i64 r_13.Hi, .int .i64 r_9.Lo, .int .i64 r_9.Hi, .int .i64 r_10.Lo, .int .i64 r_10.Hi, .int .i64 r_11.Lo, .int .i64 r_11.Hi] 26 :: .box b_6 [.int .i64 r_12.1.Lo, .int .i64 r_12.1.Hi] 24 :: .box b_5 [.int .i64 r_8.Lo, .int .i64 r_8.Hi, .int .i64 r_9.Lo, .int .i64 r_9.Hi, .int .i64 r_9.Lo, .int .i64 r_9.Hi, .int .i64 r_16.Lo, .int .i64 r_16.Hi] 26 :: .box b_4 [.int .i64 r_7.1.Lo, .int .i64 r_7.1.Hi] 24 :: .box b_3 [.slice truth_p truth.length truth_c, .int .i64 r_6.2.1, .int .i64 r_6.2.2] 104 :: .box b_2 [.int .i64 r_1.1.Rate.Lo, .int .i64 r_1.1.Rate.Hi, .int .i64 r_1.1.Strong.Lo, .int .i64 r_1.1.Strong.Hi, .int .i64 r_1.1.Found.Lo, .int .i64 r_1.1.Found.Hi, .int .i64 r_1.1.Clean.Lo, .int .i64 r_1.1.Found.Lo] 26 :: .box b_1 [.slice numbers_p numbers.length numbers_c, .int .i64 r_1.2.1, .int .i64 r_1.2.2] 104 :: Lf) w) ?_ ?_
        · cases hb : ((r_15.2 == 7) && (r_17.2 == 0))
          · rw [hb] at hf
            refine stS hf rfl rfl rfl fun a hf => ?_
            refine stS hf rfl rfl rfl fun a hf => ?_
            refine stS hf rfl rfl rfl fun a hf => ?_
            refine stP hf rfl rfl rfl (pPf rfl rfl) fun a hf => ?_
            exact cNil ⟨hf.keep ⟨rfl, rfl, rfl, rfl, rfl, rfl, rfl, rfl, rfl, trivial⟩, hc⟩
          · rw [hb] at hf
            refine stE hf hc rfl rfl rfl (eLdN (vs := [.int .i64 r_17.1.Lo, .int .i64 r_17.1.Hi]) ag_24 rfl rfl (cells_box (n := 2) m0 rfl)) fun a w hf hc => ?_
            refine stP hf rfl rfl rfl (pBuildS (cells := [.int .i64 0, .int .i64 0]) bt_24 rfl rfl) fun a hf => ?_
            refine stP hf rfl rfl rfl (pEqA ge_24 rfl rfl (eqs_24 _ _ _ _)) fun a hf => ?_
            refine stP hf rfl rfl rfl (pPt rfl rfl) fun a hf => ?_
            exact cNil ⟨hf.keep ⟨rfl, rfl, rfl, rfl, rfl, rfl, rfl, rfl, rfl, trivial⟩, hc⟩
        intro a w ⟨hf, hc⟩
        refine stP hf rfl rfl rfl (pM rfl) fun a hf => ?_
        obtain ⟨t_1, ht_1, hF⟩ := bnd_some hF
        refine stCut 2 (fun a w => Has 202 a [(12, .int .i64 r_15.2), (18, .pointer (some ⟨b_9, 0, none⟩)), (17, .int .i64 r_17.2), (188, .int .i64 r_15.2), (189, .bool (r_15.2 == 7)), (190, .bool (r_15.2 == 7)), (193, .bool ((r_15.2 == 7) && (r_17.2 == 0))), (194, .bool ((r_15.2 == 7) && (r_17.2 == 0))), (198, .bool (((r_15.2 == 7) && (r_17.2 == 0)) && (r_17.1.Lo == 0 && r_17.1.Hi == 0))), (199, .bool (((r_15.2 == 7) && (r_17.2 == 0)) && (r_17.1.Lo == 0 && r_17.1.Hi == 0))), (201, .bool t_1)] ∧ Ctx G (.box b_9 [.int .i64 r_17.1.Lo, .int .i64 r_17.1.Hi] 24 :: .box b_8 [.int .i64 r_14.1.Lo, .int .i64 r_14.1.Hi] 24 :: .box b_7 [.int .i64 r_13.Lo, .int .i64 r_13.Hi, .int .i64 r_9.Lo, .int .i64 r_9.Hi, .int .i64 r_10.Lo, .int .i64 r_10.Hi, .int .i64 r_11.Lo, .int .i64 r_11.Hi] 26 :: .box b_6 [.int .i64 r_12.1.Lo, .int .i64 r_12.1.Hi] 24 :: .box b_5 [.int .i64 r_8.Lo, .int .i64 r_8.Hi, .int .i64 r_9.Lo, .int .i64 r_9.Hi, .int .i64 r_9.Lo, .int .i64 r_9.Hi, .int .i64 r_16.Lo, .int .i64 r_16.Hi] 26 :: .box b_4 [.int .i64 r_7.1.Lo, .int .i64 r_7.1.Hi] 24 :: .box b_3 [.slice truth_p truth.length truth_c, .int .i64 r_6.2.1, .int .i64 r_6.2.2] 104 :: .box b_2 [.int .i64 r_1.1.Rate.Lo, .int .i64 r_1.1.Rate.Hi, .int .i64 r_1.1.Strong.Lo, .int .i64 r_1.1.Strong.Hi, .int .i64 r_1.1.Found.Lo, .int .i64 r_1.1.Found.Hi, .int .i64 r_1.1.Clean.Lo, .int .i64 r_1.1.Found.Lo] 26 :: .box b_1 [.slice numbers_p numbers.length numbers_c, .int .i64 r_1.2.1, .int .i64 r_1.2.2] 104 :: Lf) w) ?_ ?_
        · cases hb : (((r_15.2 == 7) && (r_17.2 == 0)) && (r_17.1.Lo == 0 && r_17.1.Hi == 0))
          · rw [hb] at hf
            have hF := condF hb ht_1
            obtain rfl := Option.some.inj hF
            refine stS hf rfl rfl rfl fun a hf => ?_
            refine stP hf rfl rfl rfl (pPf rfl rfl) fun a hf => ?_
            exact cNil ⟨hf.keep ⟨rfl, rfl, rfl, rfl, rfl, rfl, rfl, rfl, rfl, rfl, rfl, trivial⟩, hc⟩
          · rw [hb] at hf
            have hF := condT hb ht_1
            obtain ⟨r_18, hr_18, hF⟩ := bnd_some hF
            refine stE hf hc rfl rfl rfl (eC (v := .bool r_18) (vs := []) (caps := []) en_15 rfl rfl rfl rfl (fun w hc => law03_awake_ok hc hr_18)) fun a w hf hc => ?_
            refine stP hf rfl rfl rfl (pPt rfl rfl) fun a hf => ?_
            obtain rfl := Option.some.inj hF
            exact cNil ⟨hf.keep ⟨rfl, rfl, rfl, rfl, rfl, rfl, rfl, rfl, rfl, rfl, rfl, trivial⟩, hc⟩
        intro a w ⟨hf, hc⟩
        refine stP hf rfl rfl rfl (pA rfl) fun a hf => ?_
        refine cNil ?_
        refine h25 _ _ ?_
        refine wp_ret ?_
        obtain rfl := Option.some.inj hF
        replace hc := hc.drop k8
        replace hc := hc.drop k7
        replace hc := hc.drop k6
        replace hc := hc.drop k5
        replace hc := hc.drop k4
        replace hc := hc.drop k3
        replace hc := hc.drop k2
        replace hc := hc.drop k1
        replace hc := hc.drop k0
        exact fnOut1 (by simp) rfl Try.results3 hf hc (show look _ 4 = _ from rfl) ⟨rfl, hc⟩

end Go.Nilo
