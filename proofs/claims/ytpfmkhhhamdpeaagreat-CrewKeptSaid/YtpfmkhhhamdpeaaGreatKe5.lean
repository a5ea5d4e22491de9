/-
 What functions of the Go text compute, as plain functions, and that they do, part 5 of 5. Conditions: what each theorem names.
-/
import Derived.Test.YtpfmkhhhamdpeaaGreatKe4
import Derived.Test.YtpfmkhhhamdpeaaGreatProg
set_option linter.unusedVariables false
set_option linter.unusedSimpArgs false
set_option maxRecDepth 100000
set_option maxHeartbeats 4000000
namespace Go.Nilo
open Go.Proofs


def law11_CrewKept_b14 (N : Nat) (truth : List Int) (r_1 : (List crew_Visit) × Int × Int) (r_3 : (List api_Span) × Int) (r_4 : (List api_Span) × Int) (r_5 : Int × Int × Int) (a_1 : Int) (b_3 : Int) (c_6 : Int) (x : Int) (x_1 : Int) (x_2 : Int) : Option (Step (Int × Int × Int × Int × Int × Int) (Bool)) :=
 cond (decide (x < ((r_1.1.length : Nat) : Int)))
 (Option.bind (getI r_1.1 x) fun e_1 =>
 Option.bind (kit_Stream_Within N (⟨truth,x_1,x_2⟩ : kit_Stream) e_1.Way.Lo e_1.Way.Hi) fun r_14 =>
 Option.bind (getI r_3.1 x) fun e_2 =>
 Option.bind (law11_span N (max (W (a_1 + e_1.Way.Lo)) e_1.Open) (max (W (b_3 + e_1.Way.Hi)) e_1.Open)) fun r_15 =>
 Option.bind (cond (!(e_2.Lo == r_15.Lo && e_2.Hi == r_15.Hi)) (some true) (Option.bind (getI r_3.1 x) fun e_3 =>
 some (decide ((max (W (c_6 + r_14.1)) e_1.Open) < e_3.Lo)))) fun t_3 =>
 Option.bind (cond t_3 (some true) (Option.bind (getI r_3.1 x) fun e_4 =>
 some (decide (e_4.Hi < (max (W (c_6 + r_14.1)) e_1.Open))))) fun t_4 =>
 Option.bind (cond t_4 (some true) (Option.bind (getI r_4.1 x) fun e_5 =>
 some (decide (e_5.Lo < (max (W (a_1 + e_1.Way.Lo)) e_1.Open))))) fun t_5 =>
 Option.bind (cond t_5 (some true) (Option.bind (getI r_4.1 x) fun e_6 =>
 some (decide (e_6.Hi < (max (W (b_3 + e_1.Way.Hi)) e_1.Open))))) fun t_6 =>
 cond t_6
 (some (.ret false))
 (cond ((((decide (e_1.Close < (max (W (b_3 + e_1.Way.Hi)) e_1.Open))) && ((r_5.1 == (-1)) || (decide (x < r_5.1)))) || ((decide (e_1.Close < (max (W (a_1 + e_1.Way.Lo)) e_1.Open))) && ((r_5.2.1 == (-1)) || (decide (x < r_5.2.1))))) || ((decide (e_1.Close < (max (W (c_6 + r_14.1)) e_1.Open))) && ((r_5.1 == (-1)) || (decide (x < r_5.1)))))
 (some (.ret false))
 (Option.bind (kit_Stream_Within N (⟨truth,r_14.2.1,r_14.2.2⟩ : kit_Stream) e_1.Work.Lo e_1.Work.Hi) fun r_16 =>
 some (.cont (W ((max (W (a_1 + e_1.Way.Lo)) e_1.Open) + e_1.Work.Lo),W ((max (W (b_3 + e_1.Way.Hi)) e_1.Open) + e_1.Work.Hi),W ((max (W (c_6 + r_14.1)) e_1.Open) + r_16.1),W (x + 1),r_16.2.1,r_16.2.2)))))
 (some (.brk (a_1,b_3,c_6,x,x_1,x_2)))
def law11_CrewKept (N : Nat) (numbers : List Int) (truth : List Int) (at_ : Int) (later : Int) : Option (Bool) :=
 Option.bind (kit_New N numbers) fun r =>
 Option.bind (law11_Toured N (⟨numbers,r.1,r.2⟩ : kit_Stream) 10) fun r_1 =>
 Option.bind (kit_New N truth) fun r_2 =>
 Option.bind (crew_Hours N (W (at_)) r_1.1) fun r_3 =>
 Option.bind (crew_Hours N (W ((W (at_)) + (W (later)))) r_1.1) fun r_4 =>
 Option.bind (crew_Late N (W (at_)) r_1.1) fun r_5 =>
 cond ((((((r_3.2 != 0) || (r_4.2 != 0)) || (r_5.2.2 != 0)) || (((r_3.1.length : Nat) : Int) != ((r_1.1.length : Nat) : Int))) || (((r_4.1.length : Nat) : Int) != ((r_1.1.length : Nat) : Int))) || ((r_5.2.1 != (-1)) && ((r_5.1 == (-1)) || (decide (r_5.2.1 < r_5.1)))))
 (some false)
 (Option.bind (loopO (fun s14 => law11_CrewKept_b14 N truth r_1 r_3 r_4 r_5 s14.1 s14.2.1 s14.2.2.1 s14.2.2.2.1 s14.2.2.2.2.1 s14.2.2.2.2.2) N (W (at_),W (at_),W (at_),0,r_2.1,r_2.2)) fun x14 =>
 exK x14 (fun s14 => Option.bind (crew_Latest N r_1.1) fun r_6 =>
 cond (r_6.2 != 0)
 (Option.bind (crew_Late N 0 r_1.1) fun r_7 =>
 Option.bind (cond (((r_6.2 == 5) && (r_7.2.2 == 0)) && (r_7.1 != (-1))) (Option.bind (law11_awake N) fun r_8 =>
 some r_8) (some false)) fun t_1 =>
 some t_1)
 (Option.bind (crew_Late N r_6.1 r_1.1) fun r_9 =>
 Option.bind (kit_Stream_Next N (⟨truth,s14.2.2.2.2.1,s14.2.2.2.2.2⟩ : kit_Stream) (W (r_6.1 + 1))) fun r_10 =>
 Option.bind (crew_Late N r_10.1 r_1.1) fun r_11 =>
 Option.bind (crew_Late N (W (r_6.1 + 1)) r_1.1) fun r_12 =>
 Option.bind (cond (((((r_9.2.2 == 0) && (r_11.2.2 == 0)) && (((r_12.2.2 == 0) && (r_12.1 != (-1))) || (r_12.2.2 == 4))) && (r_9.1 == (-1))) && (r_11.1 == (-1))) (Option.bind (law11_awake N) fun r_13 =>
 some r_13) (some false)) fun t_2 =>
 some t_2)) some)
theorem law11_CrewKept_ok {N : Nat} {G : Pers} {Lf : List Ent} {w : World} (numbers : List Int) (truth : List Int) (at_ : Int) (later : Int) {numbers_p : Option Addr} {numbers_c : Nat} {truth_p : Option Addr} {truth_c : Nat} (h_numbers : Rd G 1 numbers_p numbers_c (numbers.map encI_u8)) (h_truth : Rd G 1 truth_p truth_c (truth.map encI_u8)) (hc : Ctx G (Lf) w) {res : Bool} (hF : law11_CrewKept N numbers truth at_ later = some res) : Calls Tryz.prog 6 #[.slice numbers_p numbers.length numbers_c,.slice truth_p truth.length truth_c,.int .u8 at_,.int .u8 later] w (fun e w => e = .returned (.bool res) ∧ Ctx G (Lf) w) := by
 unfold law11_CrewKept at hF
 refine fnIn (args := [.slice numbers_p numbers.length numbers_c,.slice truth_p truth.length truth_c,.int .u8 at_,.int .u8 later]) Tryz.func6 rfl Tryz.ntmps6 rfl fun a hf => wp_seq_k fun K1 h1 => cReg ?_
 refine stP hf rfl rfl rfl (pA rfl) fun a hf => cNil ?_
 refine h1 _ _ ?_
 refine wp_seq_k fun K2 h2 => cReg ?_
 refine stP hf rfl rfl rfl (pM rfl) fun a hf => ?_
 obtain ⟨r,hr,hF⟩ := bnd_some hF
 refine stC (vs := [.slice numbers_p numbers.length numbers_c]) (caps := []) hf rfl rfl rfl en_42 rfl rfl rfl rfl (kit_New_ok numbers h_numbers hc hr) ?_
 rintro _ w ⟨b_1,rfl,hc⟩
 refine ⟨_,rfl,fun a hf => ?_⟩
 obtain ⟨r_1,hr_1,hF⟩ := bnd_some hF
 refine stC (vs := [.pointer (some ⟨b_1,0,none⟩),.int .i64 10]) (caps := []) hf rfl rfl rfl en_49 rfl rfl rfl rfl (law11_Toured_ok (⟨numbers,r.1,r.2⟩ : kit_Stream) 10 h_numbers (hc.pick k0) hr_1) ?_
 rintro _ w ⟨p_1,c_1,rfl,hc⟩
 refine ⟨_,rfl,fun a hf => ?_⟩
 refine stP hf rfl rfl rfl (pA rfl) fun a hf => cNil ?_
 refine h2 _ _ ?_
 refine wp_seq_k fun K3 h3 => cReg ?_
 refine stP hf rfl rfl rfl (pM rfl) fun a hf => ?_
 obtain ⟨r_2,hr_2,hF⟩ := bnd_some hF
 refine stC (vs := [.slice truth_p truth.length truth_c]) (caps := []) hf rfl rfl rfl en_42 rfl rfl rfl rfl (kit_New_ok truth h_truth hc hr_2) ?_
 rintro _ w ⟨b_2,rfl,hc⟩
 refine ⟨_,rfl,fun a hf => ?_⟩
 refine stP hf rfl rfl rfl (pA rfl) fun a hf => cNil ?_
 refine h3 _ _ ?_
 refine wp_seq_k fun K4 h4 => cReg ?_
 refine stP hf rfl rfl rfl (pM rfl) fun a hf => stP hf rfl rfl rfl (pCv Tryz.underlying5 Tryz.underlying3 rfl) fun a hf => stP hf rfl rfl rfl (pA rfl) fun a hf => cNil ?_
 refine h4 _ _ ?_
 refine wp_seq_k fun K5 h5 => cReg ?_
 refine stP hf rfl rfl rfl (pM rfl) fun a hf => stP hf rfl rfl rfl (pM rfl) fun a hf => ?_
 obtain ⟨r_3,hr_3,hF⟩ := bnd_some hF
 obtain ⟨G1,hle1,hrd1,hc,hth1⟩ := lend hc k1
 refine stC (vs := [.int .i64 (W (at_)),.slice p_1 r_1.1.length c_1]) (caps := []) hf rfl rfl rfl en_18 rfl rfl rfl rfl (crew_Hours_ok (W (at_)) r_1.1 hrd1 hc hr_3) ?_
 rintro _ w ⟨p_2,c_2,rfl,hc⟩
 refine ⟨_,rfl,fun a hf => ?_⟩
 replace hc := hth1 _ _ hc
 refine stP hf rfl rfl rfl (pM rfl) fun a hf => stP hf rfl rfl rfl (pX rfl rfl) fun a hf => stP hf rfl rfl rfl (pX rfl rfl) fun a hf => stP hf rfl rfl rfl (pA rfl) fun a hf => stP hf rfl rfl rfl (pA rfl) fun a hf => cNil ?_
 refine h5 _ _ ?_
 refine wp_seq_k fun K6 h6 => cReg ?_
 refine stP hf rfl rfl rfl (pM rfl) fun a hf => stP hf rfl rfl rfl (pM rfl) fun a hf => stP hf rfl rfl rfl (pCv Tryz.underlying5 Tryz.underlying3 rfl) fun a hf => stP hf rfl rfl rfl (pAdd rfl rfl) fun a hf => stP hf rfl rfl rfl (pM rfl) fun a hf => ?_
 obtain ⟨r_4,hr_4,hF⟩ := bnd_some hF
 obtain ⟨G1,hle1,hrd1,hc,hth1⟩ := lend hc k0
 refine stC (vs := [.int .i64 (W ((W (at_)) + (W (later)))),.slice p_1 r_1.1.length c_1]) (caps := []) hf rfl rfl rfl en_18 rfl rfl rfl rfl (crew_Hours_ok (W ((W (at_)) + (W (later)))) r_1.1 hrd1 hc hr_4) ?_
 rintro _ w ⟨p_3,c_3,rfl,hc⟩
 refine ⟨_,rfl,fun a hf => ?_⟩
 replace hc := hth1 _ _ hc
 refine stP hf rfl rfl rfl (pM rfl) fun a hf => stP hf rfl rfl rfl (pX rfl rfl) fun a hf => stP hf rfl rfl rfl (pX rfl rfl) fun a hf => stP hf rfl rfl rfl (pA rfl) fun a hf => stP hf rfl rfl rfl (pA rfl) fun a hf => cNil ?_
 refine h6 _ _ ?_
 refine wp_seq_k fun K7 h7 => cReg ?_
 refine stP hf rfl rfl rfl (pM rfl) fun a hf => stP hf rfl rfl rfl (pM rfl) fun a hf => ?_
 obtain ⟨r_5,hr_5,hF⟩ := bnd_some hF
 refine stE hf hc rfl rfl rfl (eC (v := .tuple #[.int .i64 r_5.1,.int .i64 r_5.2.1,.int .i64 r_5.2.2]) (vs := [.int .i64 (W (at_)),.slice p_1 r_1.1.length c_1]) (caps := []) en_22 rfl rfl rfl rfl (fun w hc => by obtain ⟨G1,hle1,hrd1,hc,hth1⟩ := lend hc k0; exact (crew_Late_ok (W (at_)) r_1.1 hrd1 hc hr_5).mono fun e w h => ⟨h.1,((hth1 _ _ h.2).unpick k0)⟩)) fun a w hf hc => stP hf rfl rfl rfl (pM rfl) fun a hf => stP hf rfl rfl rfl (pX rfl rfl) fun a hf => stP hf rfl rfl rfl (pX rfl rfl) fun a hf => stP hf rfl rfl rfl (pX rfl rfl) fun a hf => stP hf rfl rfl rfl (pA rfl) fun a hf => stP hf rfl rfl rfl (pA rfl) fun a hf => stP hf rfl rfl rfl (pA rfl) fun a hf => cNil ?_
 refine h7 _ _ ?_
 refine wp_seq_k fun K8 h8 => wp_seq_k fun K9 h9 => cReg ?_
 refine stP hf rfl rfl rfl (pM rfl) fun a hf => stP hf rfl rfl rfl (pNe rfl rfl) fun a hf => stP hf rfl rfl rfl (pM rfl) fun a hf => stCut 3 (fun a w => Has 325 a [(9,.slice p_1 r_1.1.length c_1),(10,.pointer (some ⟨b_2,0,none⟩)),(11,.int .i64 (W (at_))),(12,.slice p_2 r_3.1.length c_2),(13,.int .i64 r_3.2),(14,.slice p_3 r_4.1.length c_3),(15,.int .i64 r_4.2),(16,.int .i64 r_5.1),(17,.int .i64 r_5.2.1),(18,.int .i64 r_5.2.2),(61,.int .i64 r_3.2),(62,.bool (r_3.2 != 0)),(63,.bool (r_3.2 != 0)),(66,.bool ((r_3.2 != 0) || (r_4.2 != 0)))] ∧ Ctx G (.row p_1 c_1 (r_1.1.map enc_crew_Visit) 31 6::.row p_3 c_3 (r_4.1.map enc_api_Span) 29 2::.row p_2 c_2 (r_3.1.map enc_api_Span) 29 2::.box b_2 [.slice truth_p truth.length truth_c,.int .i64 r_2.1,.int .i64 r_2.2] 165::.box b_1 [.slice numbers_p numbers.length numbers_c,.int .i64 r_1.2.1,.int .i64 r_1.2.2] 165::Lf) w) ?_ ?_
 ·cases hb : (r_3.2 != 0)
  ·rw [hb] at hf
   refine stP hf rfl rfl rfl (pM rfl) fun a hf => stP hf rfl rfl rfl (pNe rfl rfl) fun a hf => stP hf rfl rfl rfl (pPf rfl rfl) fun a hf => cNil ⟨hf.keep ⟨rfl,rfl,rfl,rfl,rfl,rfl,rfl,rfl,rfl,rfl,rfl,rfl,rfl,rfl,trivial⟩,hc⟩
  ·rw [hb] at hf
   refine stS hf rfl rfl rfl fun a hf => stS hf rfl rfl rfl fun a hf => stP hf rfl rfl rfl (pPt rfl rfl) fun a hf => cNil ⟨hf.keep ⟨rfl,rfl,rfl,rfl,rfl,rfl,rfl,rfl,rfl,rfl,rfl,rfl,rfl,rfl,trivial⟩,hc⟩
 intro a w ⟨hf,hc⟩
 refine stP hf rfl rfl rfl (pM rfl) fun a hf => stCut 3 (fun a w => Has 325 a [(9,.slice p_1 r_1.1.length c_1),(10,.pointer (some ⟨b_2,0,none⟩)),(11,.int .i64 (W (at_))),(12,.slice p_2 r_3.1.length c_2),(13,.int .i64 r_3.2),(14,.slice p_3 r_4.1.length c_3),(15,.int .i64 r_4.2),(16,.int .i64 r_5.1),(17,.int .i64 r_5.2.1),(18,.int .i64 r_5.2.2),(61,.int .i64 r_3.2),(62,.bool (r_3.2 != 0)),(63,.bool (r_3.2 != 0)),(66,.bool ((r_3.2 != 0) || (r_4.2 != 0))),(67,.bool ((r_3.2 != 0) || (r_4.2 != 0))),(70,.bool (((r_3.2 != 0) || (r_4.2 != 0)) || (r_5.2.2 != 0)))] ∧ Ctx G (.row p_1 c_1 (r_1.1.map enc_crew_Visit) 31 6::.row p_3 c_3 (r_4.1.map enc_api_Span) 29 2::.row p_2 c_2 (r_3.1.map enc_api_Span) 29 2::.box b_2 [.slice truth_p truth.length truth_c,.int .i64 r_2.1,.int .i64 r_2.2] 165::.box b_1 [.slice numbers_p numbers.length numbers_c,.int .i64 r_1.2.1,.int .i64 r_1.2.2] 165::Lf) w) ?_ ?_
 ·cases hb : ((r_3.2 != 0) || (r_4.2 != 0))
  ·rw [hb] at hf
   refine stP hf rfl rfl rfl (pM rfl) fun a hf => stP hf rfl rfl rfl (pNe rfl rfl) fun a hf => stP hf rfl rfl rfl (pPf rfl rfl) fun a hf => cNil ⟨hf.keep ⟨rfl,rfl,rfl,rfl,rfl,rfl,rfl,rfl,rfl,rfl,rfl,rfl,rfl,rfl,rfl,rfl,trivial⟩,hc⟩
  ·rw [hb] at hf
   refine stS hf rfl rfl rfl fun a hf => stS hf rfl rfl rfl fun a hf => stP hf rfl rfl rfl (pPt rfl rfl) fun a hf => cNil ⟨hf.keep ⟨rfl,rfl,rfl,rfl,rfl,rfl,rfl,rfl,rfl,rfl,rfl,rfl,rfl,rfl,rfl,rfl,trivial⟩,hc⟩
 intro a w ⟨hf,hc⟩
 refine stP hf rfl rfl rfl (pM rfl) fun a hf => stCut 6 (fun a w => Has 325 a [(9,.slice p_1 r_1.1.length c_1),(10,.pointer (some ⟨b_2,0,none⟩)),(11,.int .i64 (W (at_))),(12,.slice p_2 r_3.1.length c_2),(13,.int .i64 r_3.2),(14,.slice p_3 r_4.1.length c_3),(15,.int .i64 r_4.2),(16,.int .i64 r_5.1),(17,.int .i64 r_5.2.1),(18,.int .i64 r_5.2.2),(61,.int .i64 r_3.2),(62,.bool (r_3.2 != 0)),(63,.bool (r_3.2 != 0)),(66,.bool ((r_3.2 != 0) || (r_4.2 != 0))),(67,.bool ((r_3.2 != 0) || (r_4.2 != 0))),(70,.bool (((r_3.2 != 0) || (r_4.2 != 0)) || (r_5.2.2 != 0))),(71,.bool (((r_3.2 != 0) || (r_4.2 != 0)) || (r_5.2.2 != 0))),(77,.bool ((((r_3.2 != 0) || (r_4.2 != 0)) || (r_5.2.2 != 0)) || (((r_3.1.length : Nat) : Int) != ((r_1.1.length : Nat) : Int))))] ∧ Ctx G (.row p_1 c_1 (r_1.1.map enc_crew_Visit) 31 6::.row p_3 c_3 (r_4.1.map enc_api_Span) 29 2::.row p_2 c_2 (r_3.1.map enc_api_Span) 29 2::.box b_2 [.slice truth_p truth.length truth_c,.int .i64 r_2.1,.int .i64 r_2.2] 165::.box b_1 [.slice numbers_p numbers.length numbers_c,.int .i64 r_1.2.1,.int .i64 r_1.2.2] 165::Lf) w) ?_ ?_
 ·cases hb : (((r_3.2 != 0) || (r_4.2 != 0)) || (r_5.2.2 != 0))
  ·rw [hb] at hf
   refine stP hf rfl rfl rfl (pM rfl) fun a hf => stP hf rfl rfl rfl (pLenS Tryz.underlying33 rfl) fun a hf => stP hf rfl rfl rfl (pM rfl) fun a hf => stP hf rfl rfl rfl (pLenS Tryz.underlying22 rfl) fun a hf => stP hf rfl rfl rfl (pNe rfl rfl) fun a hf => stP hf rfl rfl rfl (pPf rfl rfl) fun a hf => cNil ⟨hf.keep ⟨rfl,rfl,rfl,rfl,rfl,rfl,rfl,rfl,rfl,rfl,rfl,rfl,rfl,rfl,rfl,rfl,rfl,rfl,trivial⟩,hc⟩
  ·rw [hb] at hf
   refine stS hf rfl rfl rfl fun a hf => stS hf rfl rfl rfl fun a hf => stS hf rfl rfl rfl fun a hf => stS hf rfl rfl rfl fun a hf => stS hf rfl rfl rfl fun a hf => stP hf rfl rfl rfl (pPt rfl rfl) fun a hf => cNil ⟨hf.keep ⟨rfl,rfl,rfl,rfl,rfl,rfl,rfl,rfl,rfl,rfl,rfl,rfl,rfl,rfl,rfl,rfl,rfl,rfl,trivial⟩,hc⟩
 intro a w ⟨hf,hc⟩
 refine stP hf rfl rfl rfl (pM rfl) fun a hf => stCut 6 (fun a w => Has 325 a [(9,.slice p_1 r_1.1.length c_1),(10,.pointer (some ⟨b_2,0,none⟩)),(11,.int .i64 (W (at_))),(12,.slice p_2 r_3.1.length c_2),(13,.int .i64 r_3.2),(14,.slice p_3 r_4.1.length c_3),(15,.int .i64 r_4.2),(16,.int .i64 r_5.1),(17,.int .i64 r_5.2.1),(18,.int .i64 r_5.2.2),(61,.int .i64 r_3.2),(62,.bool (r_3.2 != 0)),(63,.bool (r_3.2 != 0)),(66,.bool ((r_3.2 != 0) || (r_4.2 != 0))),(67,.bool ((r_3.2 != 0) || (r_4.2 != 0))),(70,.bool (((r_3.2 != 0) || (r_4.2 != 0)) || (r_5.2.2 != 0))),(71,.bool (((r_3.2 != 0) || (r_4.2 != 0)) || (r_5.2.2 != 0))),(77,.bool ((((r_3.2 != 0) || (r_4.2 != 0)) || (r_5.2.2 != 0)) || (((r_3.1.length : Nat) : Int) != ((r_1.1.length : Nat) : Int)))),(78,.bool ((((r_3.2 != 0) || (r_4.2 != 0)) || (r_5.2.2 != 0)) || (((r_3.1.length : Nat) : Int) != ((r_1.1.length : Nat) : Int)))),(84,.bool (((((r_3.2 != 0) || (r_4.2 != 0)) || (r_5.2.2 != 0)) || (((r_3.1.length : Nat) : Int) != ((r_1.1.length : Nat) : Int))) || (((r_4.1.length : Nat) : Int) != ((r_1.1.length : Nat) : Int))))] ∧ Ctx G (.row p_1 c_1 (r_1.1.map enc_crew_Visit) 31 6::.row p_3 c_3 (r_4.1.map enc_api_Span) 29 2::.row p_2 c_2 (r_3.1.map enc_api_Span) 29 2::.box b_2 [.slice truth_p truth.length truth_c,.int .i64 r_2.1,.int .i64 r_2.2] 165::.box b_1 [.slice numbers_p numbers.length numbers_c,.int .i64 r_1.2.1,.int .i64 r_1.2.2] 165::Lf) w) ?_ ?_
 ·cases hb : ((((r_3.2 != 0) || (r_4.2 != 0)) || (r_5.2.2 != 0)) || (((r_3.1.length : Nat) : Int) != ((r_1.1.length : Nat) : Int)))
  ·rw [hb] at hf
   refine stP hf rfl rfl rfl (pM rfl) fun a hf => stP hf rfl rfl rfl (pLenS Tryz.underlying33 rfl) fun a hf => stP hf rfl rfl rfl (pM rfl) fun a hf => stP hf rfl rfl rfl (pLenS Tryz.underlying22 rfl) fun a hf => stP hf rfl rfl rfl (pNe rfl rfl) fun a hf => stP hf rfl rfl rfl (pPf rfl rfl) fun a hf => cNil ⟨hf.keep ⟨rfl,rfl,rfl,rfl,rfl,rfl,rfl,rfl,rfl,rfl,rfl,rfl,rfl,rfl,rfl,rfl,rfl,rfl,rfl,rfl,trivial⟩,hc⟩
  ·rw [hb] at hf
   refine stS hf rfl rfl rfl fun a hf => stS hf rfl rfl rfl fun a hf => stS hf rfl rfl rfl fun a hf => stS hf rfl rfl rfl fun a hf => stS hf rfl rfl rfl fun a hf => stP hf rfl rfl rfl (pPt rfl rfl) fun a hf => cNil ⟨hf.keep ⟨rfl,rfl,rfl,rfl,rfl,rfl,rfl,rfl,rfl,rfl,rfl,rfl,rfl,rfl,rfl,rfl,rfl,rfl,rfl,rfl,trivial⟩,hc⟩
 intro a w ⟨hf,hc⟩
 refine stP hf rfl rfl rfl (pM rfl) fun a hf => stCut 12 (fun a w => Has 325 a [(9,.slice p_1 r_1.1.length c_1),(10,.pointer (some ⟨b_2,0,none⟩)),(11,.int .i64 (W (at_))),(12,.slice p_2 r_3.1.length c_2),(13,.int .i64 r_3.2),(14,.slice p_3 r_4.1.length c_3),(15,.int .i64 r_4.2),(16,.int .i64 r_5.1),(17,.int .i64 r_5.2.1),(18,.int .i64 r_5.2.2),(61,.int .i64 r_3.2),(62,.bool (r_3.2 != 0)),(63,.bool (r_3.2 != 0)),(66,.bool ((r_3.2 != 0) || (r_4.2 != 0))),(67,.bool ((r_3.2 != 0) || (r_4.2 != 0))),(70,.bool (((r_3.2 != 0) || (r_4.2 != 0)) || (r_5.2.2 != 0))),(71,.bool (((r_3.2 != 0) || (r_4.2 != 0)) || (r_5.2.2 != 0))),(77,.bool ((((r_3.2 != 0) || (r_4.2 != 0)) || (r_5.2.2 != 0)) || (((r_3.1.length : Nat) : Int) != ((r_1.1.length : Nat) : Int)))),(78,.bool ((((r_3.2 != 0) || (r_4.2 != 0)) || (r_5.2.2 != 0)) || (((r_3.1.length : Nat) : Int) != ((r_1.1.length : Nat) : Int)))),(84,.bool (((((r_3.2 != 0) || (r_4.2 != 0)) || (r_5.2.2 != 0)) || (((r_3.1.length : Nat) : Int) != ((r_1.1.length : Nat) : Int))) || (((r_4.1.length : Nat) : Int) != ((r_1.1.length : Nat) : Int)))),(85,.bool (((((r_3.2 != 0) || (r_4.2 != 0)) || (r_5.2.2 != 0)) || (((r_3.1.length : Nat) : Int) != ((r_1.1.length : Nat) : Int))) || (((r_4.1.length : Nat) : Int) != ((r_1.1.length : Nat) : Int)))),(97,.bool ((((((r_3.2 != 0) || (r_4.2 != 0)) || (r_5.2.2 != 0)) || (((r_3.1.length : Nat) : Int) != ((r_1.1.length : Nat) : Int))) || (((r_4.1.length : Nat) : Int) != ((r_1.1.length : Nat) : Int))) || ((r_5.2.1 != (-1)) && ((r_5.1 == (-1)) || (decide (r_5.2.1 < r_5.1))))))] ∧ Ctx G (.row p_1 c_1 (r_1.1.map enc_crew_Visit) 31 6::.row p_3 c_3 (r_4.1.map enc_api_Span) 29 2::.row p_2 c_2 (r_3.1.map enc_api_Span) 29 2::.box b_2 [.slice truth_p truth.length truth_c,.int .i64 r_2.1,.int .i64 r_2.2] 165::.box b_1 [.slice numbers_p numbers.length numbers_c,.int .i64 r_1.2.1,.int .i64 r_1.2.2] 165::Lf) w) ?_ ?_
 ·cases hb : (((((r_3.2 != 0) || (r_4.2 != 0)) || (r_5.2.2 != 0)) || (((r_3.1.length : Nat) : Int) != ((r_1.1.length : Nat) : Int))) || (((r_4.1.length : Nat) : Int) != ((r_1.1.length : Nat) : Int)))
  ·rw [hb] at hf
   refine stP hf rfl rfl rfl (pM rfl) fun a hf => stP hf rfl rfl rfl (pNe rfl rfl) fun a hf => stP hf rfl rfl rfl (pM rfl) fun a hf => stCut 8 (fun a w => Has 325 a [(9,.slice p_1 r_1.1.length c_1),(10,.pointer (some ⟨b_2,0,none⟩)),(11,.int .i64 (W (at_))),(12,.slice p_2 r_3.1.length c_2),(13,.int .i64 r_3.2),(14,.slice p_3 r_4.1.length c_3),(15,.int .i64 r_4.2),(16,.int .i64 r_5.1),(17,.int .i64 r_5.2.1),(18,.int .i64 r_5.2.2),(61,.int .i64 r_3.2),(62,.bool (r_3.2 != 0)),(63,.bool (r_3.2 != 0)),(66,.bool ((r_3.2 != 0) || (r_4.2 != 0))),(67,.bool ((r_3.2 != 0) || (r_4.2 != 0))),(70,.bool (((r_3.2 != 0) || (r_4.2 != 0)) || (r_5.2.2 != 0))),(71,.bool (((r_3.2 != 0) || (r_4.2 != 0)) || (r_5.2.2 != 0))),(77,.bool ((((r_3.2 != 0) || (r_4.2 != 0)) || (r_5.2.2 != 0)) || (((r_3.1.length : Nat) : Int) != ((r_1.1.length : Nat) : Int)))),(78,.bool ((((r_3.2 != 0) || (r_4.2 != 0)) || (r_5.2.2 != 0)) || (((r_3.1.length : Nat) : Int) != ((r_1.1.length : Nat) : Int)))),(84,.bool false),(85,.bool false),(86,.int .i64 r_5.2.1),(87,.bool (r_5.2.1 != (-1))),(88,.bool (r_5.2.1 != (-1))),(96,.bool ((r_5.2.1 != (-1)) && ((r_5.1 == (-1)) || (decide (r_5.2.1 < r_5.1)))))] ∧ Ctx G (.row p_1 c_1 (r_1.1.map enc_crew_Visit) 31 6::.row p_3 c_3 (r_4.1.map enc_api_Span) 29 2::.row p_2 c_2 (r_3.1.map enc_api_Span) 29 2::.box b_2 [.slice truth_p truth.length truth_c,.int .i64 r_2.1,.int .i64 r_2.2] 165::.box b_1 [.slice numbers_p numbers.length numbers_c,.int .i64 r_1.2.1,.int .i64 r_1.2.2] 165::Lf) w) ?_ ?_
   ·cases hb : (r_5.2.1 != (-1))
    ·rw [hb] at hf
     refine stS hf rfl rfl rfl fun a hf => stS hf rfl rfl rfl fun a hf => stS hf rfl rfl rfl fun a hf => stS hf rfl rfl rfl fun a hf => stS hf rfl rfl rfl fun a hf => stS hf rfl rfl rfl fun a hf => stS hf rfl rfl rfl fun a hf => stP hf rfl rfl rfl (pPf rfl rfl) fun a hf => cNil ⟨hf.keep ⟨rfl,rfl,rfl,rfl,rfl,rfl,rfl,rfl,rfl,rfl,rfl,rfl,rfl,rfl,rfl,rfl,rfl,rfl,rfl,rfl,rfl,rfl,rfl,rfl,rfl,trivial⟩,hc⟩
    ·rw [hb] at hf
     refine stP hf rfl rfl rfl (pM rfl) fun a hf => stP hf rfl rfl rfl (pEq rfl rfl) fun a hf => stP hf rfl rfl rfl (pM rfl) fun a hf => stCut 4 (fun a w => Has 325 a [(9,.slice p_1 r_1.1.length c_1),(10,.pointer (some ⟨b_2,0,none⟩)),(11,.int .i64 (W (at_))),(12,.slice p_2 r_3.1.length c_2),(13,.int .i64 r_3.2),(14,.slice p_3 r_4.1.length c_3),(15,.int .i64 r_4.2),(16,.int .i64 r_5.1),(17,.int .i64 r_5.2.1),(18,.int .i64 r_5.2.2),(61,.int .i64 r_3.2),(62,.bool (r_3.2 != 0)),(63,.bool (r_3.2 != 0)),(66,.bool ((r_3.2 != 0) || (r_4.2 != 0))),(67,.bool ((r_3.2 != 0) || (r_4.2 != 0))),(70,.bool (((r_3.2 != 0) || (r_4.2 != 0)) || (r_5.2.2 != 0))),(71,.bool (((r_3.2 != 0) || (r_4.2 != 0)) || (r_5.2.2 != 0))),(77,.bool ((((r_3.2 != 0) || (r_4.2 != 0)) || (r_5.2.2 != 0)) || (((r_3.1.length : Nat) : Int) != ((r_1.1.length : Nat) : Int)))),(78,.bool ((((r_3.2 != 0) || (r_4.2 != 0)) || (r_5.2.2 != 0)) || (((r_3.1.length : Nat) : Int) != ((r_1.1.length : Nat) : Int)))),(84,.bool false),(85,.bool false),(86,.int .i64 r_5.2.1),(87,.bool true),(88,.bool true),(89,.int .i64 r_5.1),(90,.bool (r_5.1 == (-1))),(91,.bool (r_5.1 == (-1))),(95,.bool ((r_5.1 == (-1)) || (decide (r_5.2.1 < r_5.1))))] ∧ Ctx G (.row p_1 c_1 (r_1.1.map enc_crew_Visit) 31 6::.row p_3 c_3 (r_4.1.map enc_api_Span) 29 2::.row p_2 c_2 (r_3.1.map enc_api_Span) 29 2::.box b_2 [.slice truth_p truth.length truth_c,.int .i64 r_2.1,.int .i64 r_2.2] 165::.box b_1 [.slice numbers_p numbers.length numbers_c,.int .i64 r_1.2.1,.int .i64 r_1.2.2] 165::Lf) w) ?_ ?_
     ·cases hb : (r_5.1 == (-1))
      ·rw [hb] at hf
       refine stP hf rfl rfl rfl (pM rfl) fun a hf => stP hf rfl rfl rfl (pM rfl) fun a hf => stP hf rfl rfl rfl (pGt rfl rfl) fun a hf => stP hf rfl rfl rfl (pPf rfl rfl) fun a hf => cNil ⟨hf.keep ⟨rfl,rfl,rfl,rfl,rfl,rfl,rfl,rfl,rfl,rfl,rfl,rfl,rfl,rfl,rfl,rfl,rfl,rfl,rfl,rfl,rfl,rfl,rfl,rfl,rfl,rfl,rfl,rfl,trivial⟩,hc⟩
      ·rw [hb] at hf
       refine stS hf rfl rfl rfl fun a hf => stS hf rfl rfl rfl fun a hf => stS hf rfl rfl rfl fun a hf => stP hf rfl rfl rfl (pPt rfl rfl) fun a hf => cNil ⟨hf.keep ⟨rfl,rfl,rfl,rfl,rfl,rfl,rfl,rfl,rfl,rfl,rfl,rfl,rfl,rfl,rfl,rfl,rfl,rfl,rfl,rfl,rfl,rfl,rfl,rfl,rfl,rfl,rfl,rfl,trivial⟩,hc⟩
     intro a w ⟨hf,hc⟩
     refine stP hf rfl rfl rfl (pPt rfl rfl) fun a hf => cNil ⟨hf.keep ⟨rfl,rfl,rfl,rfl,rfl,rfl,rfl,rfl,rfl,rfl,rfl,rfl,rfl,rfl,rfl,rfl,rfl,rfl,rfl,rfl,rfl,rfl,rfl,rfl,rfl,trivial⟩,hc⟩
   intro a w ⟨hf,hc⟩
   refine stP hf rfl rfl rfl (pPf rfl rfl) fun a hf => cNil ⟨hf.keep ⟨rfl,rfl,rfl,rfl,rfl,rfl,rfl,rfl,rfl,rfl,rfl,rfl,rfl,rfl,rfl,rfl,rfl,rfl,rfl,rfl,rfl,rfl,trivial⟩,hc⟩
  ·rw [hb] at hf
   refine stS hf rfl rfl rfl fun a hf => stS hf rfl rfl rfl fun a hf => stS hf rfl rfl rfl fun a hf => stS hf rfl rfl rfl fun a hf => stS hf rfl rfl rfl fun a hf => stS hf rfl rfl rfl fun a hf => stS hf rfl rfl rfl fun a hf => stS hf rfl rfl rfl fun a hf => stS hf rfl rfl rfl fun a hf => stS hf rfl rfl rfl fun a hf => stS hf rfl rfl rfl fun a hf => stP hf rfl rfl rfl (pPt rfl rfl) fun a hf => cNil ⟨hf.keep ⟨rfl,rfl,rfl,rfl,rfl,rfl,rfl,rfl,rfl,rfl,rfl,rfl,rfl,rfl,rfl,rfl,rfl,rfl,rfl,rfl,rfl,rfl,trivial⟩,hc⟩
 intro a w ⟨hf,hc⟩
 refine cNil ?_
 refine h9 _ _ ?_
 refine cCond (b := ((((((r_3.2 != 0) || (r_4.2 != 0)) || (r_5.2.2 != 0)) || (((r_3.1.length : Nat) : Int) != ((r_1.1.length : Nat) : Int))) || (((r_4.1.length : Nat) : Int) != ((r_1.1.length : Nat) : Int))) || ((r_5.2.1 != (-1)) && ((r_5.1 == (-1)) || (decide (r_5.2.1 < r_5.1)))))) hf rfl (fun hb => ?_) (fun hb => ?_)
 ·replace hF := condT hb hF
  clear hb
  refine wp_seq_k fun K10 h10 => cReg ?_
  refine stP hf rfl rfl rfl (pA rfl) fun a hf => cNil ?_
  refine h10 _ _ ?_
  refine wp_ret ?_
  refine xThenR ?_
  obtain rfl := Option.some.inj hF
  replace hc := hc.drop k4
  replace hc := hc.drop k3
  replace hc := hc.drop k2
  replace hc := hc.drop k1
  replace hc := hc.drop k0
  exact fnOut1 (by simp) rfl Tryz.results6 hf hc (show look _ 8 = _ from rfl) ⟨rfl,hc⟩
 ·replace hF := condF hb hF
  clear hb
  refine wp_skip ?_
  refine h8 _ _ ?_
  refine wp_seq_k fun K11 h11 => cReg ?_
  refine stP hf rfl rfl rfl (pM rfl) fun a hf => stP hf rfl rfl rfl (pM rfl) fun a hf => stP hf rfl rfl rfl (pM rfl) fun a hf => stP hf rfl rfl rfl (pA rfl) fun a hf => stP hf rfl rfl rfl (pA rfl) fun a hf => stP hf rfl rfl rfl (pA rfl) fun a hf => cNil ?_
  refine h11 _ _ ?_
  refine wp_seq_k fun K12 h12 => wp_seq_k fun K13 h13 => cReg ?_
  refine stP hf rfl rfl rfl (pM rfl) fun a hf => stP hf rfl rfl rfl (pLenS Tryz.underlying22 rfl) fun a hf => stP hf rfl rfl rfl (pM rfl) fun a hf => cNil ?_
  refine h13 _ _ ?_
  refine wp_block ?_
  obtain ⟨x14,hx14,hF⟩ := bnd_some hF
  let S14 : (Int × Int × Int × Int × Int × Int) → Act → World → Prop := (fun (zz : Int × Int × Int × Int × Int × Int) a w => ∃ (p_4 : Option Addr) (c_4 : Nat) (p_5 : Option Addr) (c_5 : Nat),Has 325 a [(9,.slice p_4 r_1.1.length c_4),(10,.pointer (some ⟨b_2,0,none⟩)),(12,.slice p_5 r_3.1.length c_5),(14,.slice p_3 r_4.1.length c_3),(16,.int .i64 r_5.1),(17,.int .i64 r_5.2.1),(19,.int .i64 zz.1),(20,.int .i64 zz.2.1),(21,.int .i64 zz.2.2.1),(101,.slice p_4 r_1.1.length c_4),(102,.int .i64 ((r_1.1.length : Nat) : Int)),(103,.int .i64 zz.2.2.2.1)] ∧ Ctx G (.row p_4 c_4 (r_1.1.map enc_crew_Visit) 31 6::.row p_3 c_3 (r_4.1.map enc_api_Span) 29 2::.row p_5 c_5 (r_3.1.map enc_api_Span) 29 2::.box b_2 [.slice truth_p truth.length truth_c,.int .i64 zz.2.2.2.2.1,.int .i64 zz.2.2.2.2.2] 165::Lf) w)
  have hr14 : ∀ (zz : Int × Int × Int × Int × Int × Int) a w,x14 = .go zz → S14 zz a w → K12 a w := by
   rintro ⟨a_1,b_3,c_6,x,x_1,x_2⟩ a w rfl ⟨p_4,c_4,p_5,c_5,hf,hc⟩
   replace hF := exK_go hF
   refine h12 _ _ ?_
   refine wp_seq_k fun K15 h15 => cReg ?_
   refine stP hf rfl rfl rfl (pM rfl) fun a hf => ?_
   obtain ⟨r_6,hr_6,hF⟩ := bnd_some hF
   refine stE hf hc rfl rfl rfl (eC (v := .tuple #[.int .i64 r_6.1,.int .i64 r_6.2]) (vs := [.slice p_4 r_1.1.length c_4]) (caps := []) en_24 rfl rfl rfl rfl (fun w hc => by obtain ⟨G1,hle1,hrd1,hc,hth1⟩ := lend hc k0; exact (crew_Latest_ok r_1.1 hrd1 hc hr_6).mono fun e w h => ⟨h.1,((hth1 _ _ h.2).unpick k0)⟩)) fun a w hf hc => stP hf rfl rfl rfl (pM rfl) fun a hf => stP hf rfl rfl rfl (pX rfl rfl) fun a hf => stP hf rfl rfl rfl (pX rfl rfl) fun a hf => stP hf rfl rfl rfl (pA rfl) fun a hf => stP hf rfl rfl rfl (pA rfl) fun a hf => cNil ?_
   refine h15 _ _ ?_
   refine wp_seq_k fun K16 h16 => wp_seq_k fun K17 h17 => cReg ?_
   refine stP hf rfl rfl rfl (pM rfl) fun a hf => stP hf rfl rfl rfl (pNe rfl rfl) fun a hf => cNil ?_
   refine h17 _ _ ?_
   refine cCond (b := (r_6.2 != 0)) hf rfl (fun hb => ?_) (fun hb => ?_)
   ·replace hF := condT hb hF
    clear hb
    refine wp_seq_k fun K18 h18 => cReg ?_
    refine stP hf rfl rfl rfl (pM rfl) fun a hf => ?_
    obtain ⟨r_7,hr_7,hF⟩ := bnd_some hF
    refine stE hf hc rfl rfl rfl (eC (v := .tuple #[.int .i64 r_7.1,.int .i64 r_7.2.1,.int .i64 r_7.2.2]) (vs := [.int .i64 0,.slice p_4 r_1.1.length c_4]) (caps := []) en_22 rfl rfl rfl rfl (fun w hc => by obtain ⟨G1,hle1,hrd1,hc,hth1⟩ := lend hc k0; exact (crew_Late_ok 0 r_1.1 hrd1 hc hr_7).mono fun e w h => ⟨h.1,((hth1 _ _ h.2).unpick k0)⟩)) fun a w hf hc => stP hf rfl rfl rfl (pM rfl) fun a hf => stP hf rfl rfl rfl (pX rfl rfl) fun a hf => stP hf rfl rfl rfl (pX rfl rfl) fun a hf => stP hf rfl rfl rfl (pX rfl rfl) fun a hf => stP hf rfl rfl rfl (pA rfl) fun a hf => stP hf rfl rfl rfl (pA rfl) fun a hf => stP hf rfl rfl rfl (pA rfl) fun a hf => cNil ?_
    refine h18 _ _ ?_
    refine wp_seq_k fun K19 h19 => cReg ?_
    refine stP hf rfl rfl rfl (pM rfl) fun a hf => stP hf rfl rfl rfl (pEq rfl rfl) fun a hf => stP hf rfl rfl rfl (pM rfl) fun a hf => stCut 3 (fun a w => Has 325 a [(13,.int .i64 r_6.2),(25,.int .i64 r_7.1),(27,.int .i64 r_7.2.2),(258,.int .i64 r_6.2),(259,.bool (r_6.2 == 5)),(260,.bool (r_6.2 == 5)),(263,.bool ((r_6.2 == 5) && (r_7.2.2 == 0)))] ∧ Ctx G (.row p_4 c_4 (r_1.1.map enc_crew_Visit) 31 6::.row p_3 c_3 (r_4.1.map enc_api_Span) 29 2::.row p_5 c_5 (r_3.1.map enc_api_Span) 29 2::.box b_2 [.slice truth_p truth.length truth_c,.int .i64 x_1,.int .i64 x_2] 165::Lf) w) ?_ ?_
    ·cases hb : (r_6.2 == 5)
     ·rw [hb] at hf
      refine stS hf rfl rfl rfl fun a hf => stS hf rfl rfl rfl fun a hf => stP hf rfl rfl rfl (pPf rfl rfl) fun a hf => cNil ⟨hf.keep ⟨rfl,rfl,rfl,rfl,rfl,rfl,rfl,trivial⟩,hc⟩
     ·rw [hb] at hf
      refine stP hf rfl rfl rfl (pM rfl) fun a hf => stP hf rfl rfl rfl (pEq rfl rfl) fun a hf => stP hf rfl rfl rfl (pPt rfl rfl) fun a hf => cNil ⟨hf.keep ⟨rfl,rfl,rfl,rfl,rfl,rfl,rfl,trivial⟩,hc⟩
    intro a w ⟨hf,hc⟩
    refine stP hf rfl rfl rfl (pM rfl) fun a hf => stCut 3 (fun a w => Has 325 a [(13,.int .i64 r_6.2),(25,.int .i64 r_7.1),(27,.int .i64 r_7.2.2),(258,.int .i64 r_6.2),(259,.bool (r_6.2 == 5)),(260,.bool (r_6.2 == 5)),(263,.bool ((r_6.2 == 5) && (r_7.2.2 == 0))),(264,.bool ((r_6.2 == 5) && (r_7.2.2 == 0))),(267,.bool (((r_6.2 == 5) && (r_7.2.2 == 0)) && (r_7.1 != (-1))))] ∧ Ctx G (.row p_4 c_4 (r_1.1.map enc_crew_Visit) 31 6::.row p_3 c_3 (r_4.1.map enc_api_Span) 29 2::.row p_5 c_5 (r_3.1.map enc_api_Span) 29 2::.box b_2 [.slice truth_p truth.length truth_c,.int .i64 x_1,.int .i64 x_2] 165::Lf) w) ?_ ?_
    ·cases hb : ((r_6.2 == 5) && (r_7.2.2 == 0))
     ·rw [hb] at hf
      refine stS hf rfl rfl rfl fun a hf => stS hf rfl rfl rfl fun a hf => stP hf rfl rfl rfl (pPf rfl rfl) fun a hf => cNil ⟨hf.keep ⟨rfl,rfl,rfl,rfl,rfl,rfl,rfl,rfl,rfl,trivial⟩,hc⟩
     ·rw [hb] at hf
      refine stP hf rfl rfl rfl (pM rfl) fun a hf => stP hf rfl rfl rfl (pNe rfl rfl) fun a hf => stP hf rfl rfl rfl (pPt rfl rfl) fun a hf => cNil ⟨hf.keep ⟨rfl,rfl,rfl,rfl,rfl,rfl,rfl,rfl,rfl,trivial⟩,hc⟩
    intro a w ⟨hf,hc⟩
    refine stP hf rfl rfl rfl (pM rfl) fun a hf => ?_
    obtain ⟨t_1,ht_1,hF⟩ := bnd_some hF
    refine stCut 2 (fun a w => Has 325 a [(13,.int .i64 r_6.2),(25,.int .i64 r_7.1),(27,.int .i64 r_7.2.2),(258,.int .i64 r_6.2),(259,.bool (r_6.2 == 5)),(260,.bool (r_6.2 == 5)),(263,.bool ((r_6.2 == 5) && (r_7.2.2 == 0))),(264,.bool ((r_6.2 == 5) && (r_7.2.2 == 0))),(267,.bool (((r_6.2 == 5) && (r_7.2.2 == 0)) && (r_7.1 != (-1)))),(268,.bool (((r_6.2 == 5) && (r_7.2.2 == 0)) && (r_7.1 != (-1)))),(270,.bool t_1)] ∧ Ctx G (.row p_4 c_4 (r_1.1.map enc_crew_Visit) 31 6::.row p_3 c_3 (r_4.1.map enc_api_Span) 29 2::.row p_5 c_5 (r_3.1.map enc_api_Span) 29 2::.box b_2 [.slice truth_p truth.length truth_c,.int .i64 x_1,.int .i64 x_2] 165::Lf) w) ?_ ?_
    ·cases hb : (((r_6.2 == 5) && (r_7.2.2 == 0)) && (r_7.1 != (-1)))
     ·rw [hb] at hf
      have hF := condF hb ht_1
      obtain rfl := Option.some.inj hF
      refine stS hf rfl rfl rfl fun a hf => stP hf rfl rfl rfl (pPf rfl rfl) fun a hf => cNil ⟨hf.keep ⟨rfl,rfl,rfl,rfl,rfl,rfl,rfl,rfl,rfl,rfl,rfl,trivial⟩,hc⟩
     ·rw [hb] at hf
      have hF := condT hb ht_1
      obtain ⟨r_8,hr_8,hF⟩ := bnd_some hF
      refine stE hf hc rfl rfl rfl (eC (v := .bool r_8) (vs := []) (caps := []) en_15 rfl rfl rfl rfl (fun w hc => law11_awake_ok hc hr_8)) fun a w hf hc => stP hf rfl rfl rfl (pPt rfl rfl) fun a hf => ?_
      obtain rfl := Option.some.inj hF
      exact cNil ⟨hf.keep ⟨rfl,rfl,rfl,rfl,rfl,rfl,rfl,rfl,rfl,rfl,rfl,trivial⟩,hc⟩
    intro a w ⟨hf,hc⟩
    refine stP hf rfl rfl rfl (pA rfl) fun a hf => cNil ?_
    refine h19 _ _ ?_
    refine wp_ret ?_
    refine xThenR ?_
    obtain rfl := Option.some.inj hF
    replace hc := hc.drop k3
    replace hc := hc.drop k2
    replace hc := hc.drop k1
    replace hc := hc.drop k0
    exact fnOut1 (by simp) rfl Tryz.results6 hf hc (show look _ 8 = _ from rfl) ⟨rfl,hc⟩
   ·replace hF := condF hb hF
    clear hb
    refine wp_skip ?_
    refine h16 _ _ ?_
    refine wp_seq_k fun K20 h20 => cReg ?_
    refine stP hf rfl rfl rfl (pM rfl) fun a hf => stP hf rfl rfl rfl (pM rfl) fun a hf => ?_
    obtain ⟨r_9,hr_9,hF⟩ := bnd_some hF
    refine stE hf hc rfl rfl rfl (eC (v := .tuple #[.int .i64 r_9.1,.int .i64 r_9.2.1,.int .i64 r_9.2.2]) (vs := [.int .i64 r_6.1,.slice p_4 r_1.1.length c_4]) (caps := []) en_22 rfl rfl rfl rfl (fun w hc => by obtain ⟨G1,hle1,hrd1,hc,hth1⟩ := lend hc k0; exact (crew_Late_ok r_6.1 r_1.1 hrd1 hc hr_9).mono fun e w h => ⟨h.1,((hth1 _ _ h.2).unpick k0)⟩)) fun a w hf hc => stP hf rfl rfl rfl (pM rfl) fun a hf => stP hf rfl rfl rfl (pX rfl rfl) fun a hf => stP hf rfl rfl rfl (pX rfl rfl) fun a hf => stP hf rfl rfl rfl (pX rfl rfl) fun a hf => stP hf rfl rfl rfl (pA rfl) fun a hf => stP hf rfl rfl rfl (pA rfl) fun a hf => cNil ?_
    refine h20 _ _ ?_
    refine wp_seq_k fun K21 h21 => cReg ?_
    refine stP hf rfl rfl rfl (pM rfl) fun a hf => stP hf rfl rfl rfl (pM rfl) fun a hf => stP hf rfl rfl rfl (pAdd rfl rfl) fun a hf => ?_
    obtain ⟨r_10,hr_10,hF⟩ := bnd_some hF
    refine stC (vs := [.pointer (some ⟨b_2,0,none⟩),.int .i64 (W (r_6.1 + 1))]) (caps := []) hf rfl rfl rfl en_45 rfl rfl rfl rfl (kit_Stream_Next_ok (⟨truth,x_1,x_2⟩ : kit_Stream) (W (r_6.1 + 1)) h_truth (hc.pick k3) hr_10) ?_
    rintro _ w ⟨rfl,hc⟩
    refine ⟨_,rfl,fun a hf => ?_⟩
    refine stP hf rfl rfl rfl (pM rfl) fun a hf => ?_
    obtain ⟨r_11,hr_11,hF⟩ := bnd_some hF
    refine stE hf hc rfl rfl rfl (eC (v := .tuple #[.int .i64 r_11.1,.int .i64 r_11.2.1,.int .i64 r_11.2.2]) (vs := [.int .i64 r_10.1,.slice p_4 r_1.1.length c_4]) (caps := []) en_22 rfl rfl rfl rfl (fun w hc => by obtain ⟨G1,hle1,hrd1,hc,hth1⟩ := lend hc k1; exact (crew_Late_ok r_10.1 r_1.1 hrd1 hc hr_11).mono fun e w h => ⟨h.1,((hth1 _ _ h.2).unpick k1)⟩)) fun a w hf hc => stP hf rfl rfl rfl (pM rfl) fun a hf => stP hf rfl rfl rfl (pX rfl rfl) fun a hf => stP hf rfl rfl rfl (pX rfl rfl) fun a hf => stP hf rfl rfl rfl (pX rfl rfl) fun a hf => stP hf rfl rfl rfl (pA rfl) fun a hf => stP hf rfl rfl rfl (pA rfl) fun a hf => stP hf rfl rfl rfl (pA rfl) fun a hf => cNil ?_
    refine h21 _ _ ?_
    refine wp_seq_k fun K22 h22 => cReg ?_
    refine stP hf rfl rfl rfl (pM rfl) fun a hf => stP hf rfl rfl rfl (pAdd rfl rfl) fun a hf => stP hf rfl rfl rfl (pM rfl) fun a hf => ?_
    obtain ⟨r_12,hr_12,hF⟩ := bnd_some hF
    refine stE hf hc rfl rfl rfl (eC (v := .tuple #[.int .i64 r_12.1,.int .i64 r_12.2.1,.int .i64 r_12.2.2]) (vs := [.int .i64 (W (r_6.1 + 1)),.slice p_4 r_1.1.length c_4]) (caps := []) en_22 rfl rfl rfl rfl (fun w hc => by obtain ⟨G1,hle1,hrd1,hc,hth1⟩ := lend hc k1; exact (crew_Late_ok (W (r_6.1 + 1)) r_1.1 hrd1 hc hr_12).mono fun e w h => ⟨h.1,((hth1 _ _ h.2).unpick k1)⟩)) fun a w hf hc => stP hf rfl rfl rfl (pM rfl) fun a hf => stP hf rfl rfl rfl (pX rfl rfl) fun a hf => stP hf rfl rfl rfl (pX rfl rfl) fun a hf => stP hf rfl rfl rfl (pX rfl rfl) fun a hf => stP hf rfl rfl rfl (pA rfl) fun a hf => stP hf rfl rfl rfl (pA rfl) fun a hf => stP hf rfl rfl rfl (pA rfl) fun a hf => cNil ?_
    refine h22 _ _ ?_
    refine wp_seq_k fun K23 h23 => cReg ?_
    refine stP hf rfl rfl rfl (pM rfl) fun a hf => stP hf rfl rfl rfl (pEq rfl rfl) fun a hf => stP hf rfl rfl rfl (pM rfl) fun a hf => stCut 3 (fun a w => Has 325 a [(16,.int .i64 r_9.1),(13,.int .i64 r_9.2.2),(28,.int .i64 r_11.1),(15,.int .i64 r_11.2.2),(30,.int .i64 r_12.1),(18,.int .i64 r_12.2.2),(296,.int .i64 r_9.2.2),(297,.bool (r_9.2.2 == 0)),(298,.bool (r_9.2.2 == 0)),(301,.bool ((r_9.2.2 == 0) && (r_11.2.2 == 0)))] ∧ Ctx G (.box b_2 [.slice truth_p truth.length truth_c,.int .i64 r_10.2.1,.int .i64 r_10.2.2] 165::.row p_4 c_4 (r_1.1.map enc_crew_Visit) 31 6::.row p_3 c_3 (r_4.1.map enc_api_Span) 29 2::.row p_5 c_5 (r_3.1.map enc_api_Span) 29 2::Lf) w) ?_ ?_
    ·cases hb : (r_9.2.2 == 0)
     ·rw [hb] at hf
      refine stS hf rfl rfl rfl fun a hf => stS hf rfl rfl rfl fun a hf => stP hf rfl rfl rfl (pPf rfl rfl) fun a hf => cNil ⟨hf.keep ⟨rfl,rfl,rfl,rfl,rfl,rfl,rfl,rfl,rfl,rfl,trivial⟩,hc⟩
     ·rw [hb] at hf
      refine stP hf rfl rfl rfl (pM rfl) fun a hf => stP hf rfl rfl rfl (pEq rfl rfl) fun a hf => stP hf rfl rfl rfl (pPt rfl rfl) fun a hf => cNil ⟨hf.keep ⟨rfl,rfl,rfl,rfl,rfl,rfl,rfl,rfl,rfl,rfl,trivial⟩,hc⟩
    intro a w ⟨hf,hc⟩
    refine stP hf rfl rfl rfl (pM rfl) fun a hf => stCut 11 (fun a w => Has 325 a [(16,.int .i64 r_9.1),(13,.int .i64 r_9.2.2),(28,.int .i64 r_11.1),(15,.int .i64 r_11.2.2),(30,.int .i64 r_12.1),(18,.int .i64 r_12.2.2),(296,.int .i64 r_9.2.2),(297,.bool (r_9.2.2 == 0)),(298,.bool (r_9.2.2 == 0)),(301,.bool ((r_9.2.2 == 0) && (r_11.2.2 == 0))),(302,.bool ((r_9.2.2 == 0) && (r_11.2.2 == 0))),(313,.bool (((r_9.2.2 == 0) && (r_11.2.2 == 0)) && (((r_12.2.2 == 0) && (r_12.1 != (-1))) || (r_12.2.2 == 4))))] ∧ Ctx G (.box b_2 [.slice truth_p truth.length truth_c,.int .i64 r_10.2.1,.int .i64 r_10.2.2] 165::.row p_4 c_4 (r_1.1.map enc_crew_Visit) 31 6::.row p_3 c_3 (r_4.1.map enc_api_Span) 29 2::.row p_5 c_5 (r_3.1.map enc_api_Span) 29 2::Lf) w) ?_ ?_
    ·cases hb : ((r_9.2.2 == 0) && (r_11.2.2 == 0))
     ·rw [hb] at hf
      refine stS hf rfl rfl rfl fun a hf => stS hf rfl rfl rfl fun a hf => stS hf rfl rfl rfl fun a hf => stS hf rfl rfl rfl fun a hf => stS hf rfl rfl rfl fun a hf => stS hf rfl rfl rfl fun a hf => stS hf rfl rfl rfl fun a hf => stS hf rfl rfl rfl fun a hf => stS hf rfl rfl rfl fun a hf => stS hf rfl rfl rfl fun a hf => stP hf rfl rfl rfl (pPf rfl rfl) fun a hf => cNil ⟨hf.keep ⟨rfl,rfl,rfl,rfl,rfl,rfl,rfl,rfl,rfl,rfl,rfl,rfl,trivial⟩,hc⟩
     ·rw [hb] at hf
      refine stP hf rfl rfl rfl (pM rfl) fun a hf => stP hf rfl rfl rfl (pEq rfl rfl) fun a hf => stP hf rfl rfl rfl (pM rfl) fun a hf => stCut 3 (fun a w => Has 325 a [(16,.int .i64 r_9.1),(13,.int .i64 r_9.2.2),(28,.int .i64 r_11.1),(15,.int .i64 r_11.2.2),(30,.int .i64 r_12.1),(18,.int .i64 r_12.2.2),(296,.int .i64 r_9.2.2),(297,.bool (r_9.2.2 == 0)),(298,.bool (r_9.2.2 == 0)),(301,.bool true),(302,.bool true),(303,.int .i64 r_12.2.2),(304,.bool (r_12.2.2 == 0)),(305,.bool (r_12.2.2 == 0)),(308,.bool ((r_12.2.2 == 0) && (r_12.1 != (-1))))] ∧ Ctx G (.box b_2 [.slice truth_p truth.length truth_c,.int .i64 r_10.2.1,.int .i64 r_10.2.2] 165::.row p_4 c_4 (r_1.1.map enc_crew_Visit) 31 6::.row p_3 c_3 (r_4.1.map enc_api_Span) 29 2::.row p_5 c_5 (r_3.1.map enc_api_Span) 29 2::Lf) w) ?_ ?_
      ·cases hb : (r_12.2.2 == 0)
       ·rw [hb] at hf
        refine stS hf rfl rfl rfl fun a hf => stS hf rfl rfl rfl fun a hf => stP hf rfl rfl rfl (pPf rfl rfl) fun a hf => cNil ⟨hf.keep ⟨rfl,rfl,rfl,rfl,rfl,rfl,rfl,rfl,rfl,rfl,rfl,rfl,rfl,rfl,rfl,trivial⟩,hc⟩
       ·rw [hb] at hf
        refine stP hf rfl rfl rfl (pM rfl) fun a hf => stP hf rfl rfl rfl (pNe rfl rfl) fun a hf => stP hf rfl rfl rfl (pPt rfl rfl) fun a hf => cNil ⟨hf.keep ⟨rfl,rfl,rfl,rfl,rfl,rfl,rfl,rfl,rfl,rfl,rfl,rfl,rfl,rfl,rfl,trivial⟩,hc⟩
      intro a w ⟨hf,hc⟩
      refine stP hf rfl rfl rfl (pM rfl) fun a hf => stCut 3 (fun a w => Has 325 a [(16,.int .i64 r_9.1),(13,.int .i64 r_9.2.2),(28,.int .i64 r_11.1),(15,.int .i64 r_11.2.2),(30,.int .i64 r_12.1),(18,.int .i64 r_12.2.2),(296,.int .i64 r_9.2.2),(297,.bool (r_9.2.2 == 0)),(298,.bool (r_9.2.2 == 0)),(301,.bool true),(302,.bool true),(303,.int .i64 r_12.2.2),(304,.bool (r_12.2.2 == 0)),(305,.bool (r_12.2.2 == 0)),(308,.bool ((r_12.2.2 == 0) && (r_12.1 != (-1)))),(309,.bool ((r_12.2.2 == 0) && (r_12.1 != (-1)))),(312,.bool (((r_12.2.2 == 0) && (r_12.1 != (-1))) || (r_12.2.2 == 4)))] ∧ Ctx G (.box b_2 [.slice truth_p truth.length truth_c,.int .i64 r_10.2.1,.int .i64 r_10.2.2] 165::.row p_4 c_4 (r_1.1.map enc_crew_Visit) 31 6::.row p_3 c_3 (r_4.1.map enc_api_Span) 29 2::.row p_5 c_5 (r_3.1.map enc_api_Span) 29 2::Lf) w) ?_ ?_
      ·cases hb : ((r_12.2.2 == 0) && (r_12.1 != (-1)))
       ·rw [hb] at hf
        refine stP hf rfl rfl rfl (pM rfl) fun a hf => stP hf rfl rfl rfl (pEq rfl rfl) fun a hf => stP hf rfl rfl rfl (pPf rfl rfl) fun a hf => cNil ⟨hf.keep ⟨rfl,rfl,rfl,rfl,rfl,rfl,rfl,rfl,rfl,rfl,rfl,rfl,rfl,rfl,rfl,rfl,rfl,trivial⟩,hc⟩
       ·rw [hb] at hf
        refine stS hf rfl rfl rfl fun a hf => stS hf rfl rfl rfl fun a hf => stP hf rfl rfl rfl (pPt rfl rfl) fun a hf => cNil ⟨hf.keep ⟨rfl,rfl,rfl,rfl,rfl,rfl,rfl,rfl,rfl,rfl,rfl,rfl,rfl,rfl,rfl,rfl,rfl,trivial⟩,hc⟩
      intro a w ⟨hf,hc⟩
      refine stP hf rfl rfl rfl (pPt rfl rfl) fun a hf => cNil ⟨hf.keep ⟨rfl,rfl,rfl,rfl,rfl,rfl,rfl,rfl,rfl,rfl,rfl,rfl,trivial⟩,hc⟩
    intro a w ⟨hf,hc⟩
    refine stP hf rfl rfl rfl (pM rfl) fun a hf => stCut 3 (fun a w => Has 325 a [(16,.int .i64 r_9.1),(13,.int .i64 r_9.2.2),(28,.int .i64 r_11.1),(15,.int .i64 r_11.2.2),(30,.int .i64 r_12.1),(18,.int .i64 r_12.2.2),(296,.int .i64 r_9.2.2),(297,.bool (r_9.2.2 == 0)),(298,.bool (r_9.2.2 == 0)),(301,.bool ((r_9.2.2 == 0) && (r_11.2.2 == 0))),(302,.bool ((r_9.2.2 == 0) && (r_11.2.2 == 0))),(313,.bool (((r_9.2.2 == 0) && (r_11.2.2 == 0)) && (((r_12.2.2 == 0) && (r_12.1 != (-1))) || (r_12.2.2 == 4)))),(314,.bool (((r_9.2.2 == 0) && (r_11.2.2 == 0)) && (((r_12.2.2 == 0) && (r_12.1 != (-1))) || (r_12.2.2 == 4)))),(317,.bool ((((r_9.2.2 == 0) && (r_11.2.2 == 0)) && (((r_12.2.2 == 0) && (r_12.1 != (-1))) || (r_12.2.2 == 4))) && (r_9.1 == (-1))))] ∧ Ctx G (.box b_2 [.slice truth_p truth.length truth_c,.int .i64 r_10.2.1,.int .i64 r_10.2.2] 165::.row p_4 c_4 (r_1.1.map enc_crew_Visit) 31 6::.row p_3 c_3 (r_4.1.map enc_api_Span) 29 2::.row p_5 c_5 (r_3.1.map enc_api_Span) 29 2::Lf) w) ?_ ?_
    ·cases hb : (((r_9.2.2 == 0) && (r_11.2.2 == 0)) && (((r_12.2.2 == 0) && (r_12.1 != (-1))) || (r_12.2.2 == 4)))
     ·rw [hb] at hf
      refine stS hf rfl rfl rfl fun a hf => stS hf rfl rfl rfl fun a hf => stP hf rfl rfl rfl (pPf rfl rfl) fun a hf => cNil ⟨hf.keep ⟨rfl,rfl,rfl,rfl,rfl,rfl,rfl,rfl,rfl,rfl,rfl,rfl,rfl,rfl,trivial⟩,hc⟩
     ·rw [hb] at hf
      refine stP hf rfl rfl rfl (pM rfl) fun a hf => stP hf rfl rfl rfl (pEq rfl rfl) fun a hf => stP hf rfl rfl rfl (pPt rfl rfl) fun a hf => cNil ⟨hf.keep ⟨rfl,rfl,rfl,rfl,rfl,rfl,rfl,rfl,rfl,rfl,rfl,rfl,rfl,rfl,trivial⟩,hc⟩
    intro a w ⟨hf,hc⟩
    refine stP hf rfl rfl rfl (pM rfl) fun a hf => stCut 3 (fun a w => Has 325 a [(16,.int .i64 r_9.1),(13,.int .i64 r_9.2.2),(28,.int .i64 r_11.1),(15,.int .i64 r_11.2.2),(30,.int .i64 r_12.1),(18,.int .i64 r_12.2.2),(296,.int .i64 r_9.2.2),(297,.bool (r_9.2.2 == 0)),(298,.bool (r_9.2.2 == 0)),(301,.bool ((r_9.2.2 == 0) && (r_11.2.2 == 0))),(302,.bool ((r_9.2.2 == 0) && (r_11.2.2 == 0))),(313,.bool (((r_9.2.2 == 0) && (r_11.2.2 == 0)) && (((r_12.2.2 == 0) && (r_12.1 != (-1))) || (r_12.2.2 == 4)))),(314,.bool (((r_9.2.2 == 0) && (r_11.2.2 == 0)) && (((r_12.2.2 == 0) && (r_12.1 != (-1))) || (r_12.2.2 == 4)))),(317,.bool ((((r_9.2.2 == 0) && (r_11.2.2 == 0)) && (((r_12.2.2 == 0) && (r_12.1 != (-1))) || (r_12.2.2 == 4))) && (r_9.1 == (-1)))),(318,.bool ((((r_9.2.2 == 0) && (r_11.2.2 == 0)) && (((r_12.2.2 == 0) && (r_12.1 != (-1))) || (r_12.2.2 == 4))) && (r_9.1 == (-1)))),(321,.bool (((((r_9.2.2 == 0) && (r_11.2.2 == 0)) && (((r_12.2.2 == 0) && (r_12.1 != (-1))) || (r_12.2.2 == 4))) && (r_9.1 == (-1))) && (r_11.1 == (-1))))] ∧ Ctx G (.box b_2 [.slice truth_p truth.length truth_c,.int .i64 r_10.2.1,.int .i64 r_10.2.2] 165::.row p_4 c_4 (r_1.1.map enc_crew_Visit) 31 6::.row p_3 c_3 (r_4.1.map enc_api_Span) 29 2::.row p_5 c_5 (r_3.1.map enc_api_Span) 29 2::Lf) w) ?_ ?_
    ·cases hb : ((((r_9.2.2 == 0) && (r_11.2.2 == 0)) && (((r_12.2.2 == 0) && (r_12.1 != (-1))) || (r_12.2.2 == 4))) && (r_9.1 == (-1)))
     ·rw [hb] at hf
      refine stS hf rfl rfl rfl fun a hf => stS hf rfl rfl rfl fun a hf => stP hf rfl rfl rfl (pPf rfl rfl) fun a hf => cNil ⟨hf.keep ⟨rfl,rfl,rfl,rfl,rfl,rfl,rfl,rfl,rfl,rfl,rfl,rfl,rfl,rfl,rfl,rfl,trivial⟩,hc⟩
     ·rw [hb] at hf
      refine stP hf rfl rfl rfl (pM rfl) fun a hf => stP hf rfl rfl rfl (pEq rfl rfl) fun a hf => stP hf rfl rfl rfl (pPt rfl rfl) fun a hf => cNil ⟨hf.keep ⟨rfl,rfl,rfl,rfl,rfl,rfl,rfl,rfl,rfl,rfl,rfl,rfl,rfl,rfl,rfl,rfl,trivial⟩,hc⟩
    intro a w ⟨hf,hc⟩
    refine stP hf rfl rfl rfl (pM rfl) fun a hf => ?_
    obtain ⟨t_2,ht_2,hF⟩ := bnd_some hF
    refine stCut 2 (fun a w => Has 325 a [(16,.int .i64 r_9.1),(13,.int .i64 r_9.2.2),(28,.int .i64 r_11.1),(15,.int .i64 r_11.2.2),(30,.int .i64 r_12.1),(18,.int .i64 r_12.2.2),(296,.int .i64 r_9.2.2),(297,.bool (r_9.2.2 == 0)),(298,.bool (r_9.2.2 == 0)),(301,.bool ((r_9.2.2 == 0) && (r_11.2.2 == 0))),(302,.bool ((r_9.2.2 == 0) && (r_11.2.2 == 0))),(313,.bool (((r_9.2.2 == 0) && (r_11.2.2 == 0)) && (((r_12.2.2 == 0) && (r_12.1 != (-1))) || (r_12.2.2 == 4)))),(314,.bool (((r_9.2.2 == 0) && (r_11.2.2 == 0)) && (((r_12.2.2 == 0) && (r_12.1 != (-1))) || (r_12.2.2 == 4)))),(317,.bool ((((r_9.2.2 == 0) && (r_11.2.2 == 0)) && (((r_12.2.2 == 0) && (r_12.1 != (-1))) || (r_12.2.2 == 4))) && (r_9.1 == (-1)))),(318,.bool ((((r_9.2.2 == 0) && (r_11.2.2 == 0)) && (((r_12.2.2 == 0) && (r_12.1 != (-1))) || (r_12.2.2 == 4))) && (r_9.1 == (-1)))),(321,.bool (((((r_9.2.2 == 0) && (r_11.2.2 == 0)) && (((r_12.2.2 == 0) && (r_12.1 != (-1))) || (r_12.2.2 == 4))) && (r_9.1 == (-1))) && (r_11.1 == (-1)))),(322,.bool (((((r_9.2.2 == 0) && (r_11.2.2 == 0)) && (((r_12.2.2 == 0) && (r_12.1 != (-1))) || (r_12.2.2 == 4))) && (r_9.1 == (-1))) && (r_11.1 == (-1)))),(324,.bool t_2)] ∧ Ctx G (.box b_2 [.slice truth_p truth.length truth_c,.int .i64 r_10.2.1,.int .i64 r_10.2.2] 165::.row p_4 c_4 (r_1.1.map enc_crew_Visit) 31 6::.row p_3 c_3 (r_4.1.map enc_api_Span) 29 2::.row p_5 c_5 (r_3.1.map enc_api_Span) 29 2::Lf) w) ?_ ?_
    ·cases hb : (((((r_9.2.2 == 0) && (r_11.2.2 == 0)) && (((r_12.2.2 == 0) && (r_12.1 != (-1))) || (r_12.2.2 == 4))) && (r_9.1 == (-1))) && (r_11.1 == (-1)))
     ·rw [hb] at hf
      have hF := condF hb ht_2
      obtain rfl := Option.some.inj hF
      refine stS hf rfl rfl rfl fun a hf => stP hf rfl rfl rfl (pPf rfl rfl) fun a hf => cNil ⟨hf.keep ⟨rfl,rfl,rfl,rfl,rfl,rfl,rfl,rfl,rfl,rfl,rfl,rfl,rfl,rfl,rfl,rfl,rfl,rfl,trivial⟩,hc⟩
     ·rw [hb] at hf
      have hF := condT hb ht_2
      obtain ⟨r_13,hr_13,hF⟩ := bnd_some hF
      refine stE hf hc rfl rfl rfl (eC (v := .bool r_13) (vs := []) (caps := []) en_15 rfl rfl rfl rfl (fun w hc => law11_awake_ok hc hr_13)) fun a w hf hc => stP hf rfl rfl rfl (pPt rfl rfl) fun a hf => ?_
      obtain rfl := Option.some.inj hF
      exact cNil ⟨hf.keep ⟨rfl,rfl,rfl,rfl,rfl,rfl,rfl,rfl,rfl,rfl,rfl,rfl,rfl,rfl,rfl,rfl,rfl,rfl,trivial⟩,hc⟩
    intro a w ⟨hf,hc⟩
    refine stP hf rfl rfl rfl (pA rfl) fun a hf => cNil ?_
    refine h23 _ _ ?_
    refine wp_ret ?_
    obtain rfl := Option.some.inj hF
    replace hc := hc.drop k3
    replace hc := hc.drop k2
    replace hc := hc.drop k1
    replace hc := hc.drop k0
    exact fnOut1 (by simp) rfl Tryz.results6 hf hc (show look _ 8 = _ from rfl) ⟨rfl,hc⟩
  have ho14 : ∀ r,x14 = .out r → r = res := by
   rintro r rfl
   exact Option.some.inj hF
  replace hc := hc.drop k4
  refine cLoop N (loopW (S := S14) (x := x14) ?_ N (W (at_),W (at_),W (at_),0,r_2.1,r_2.2) _ _ ⟨p_1,c_1,p_2,c_2,hf.keep ⟨rfl,rfl,rfl,rfl,rfl,rfl,rfl,rfl,rfl,rfl,rfl,rfl,trivial⟩,hc⟩ hx14)
  clear hF hf hc
  rintro ⟨a_1,b_3,c_6,x,x_1,x_2⟩ st14 a w KB14 ⟨p_4,c_4,p_5,c_5,hf,hc⟩ hF hfin14 hK14
  unfold law11_CrewKept_b14 at hF
  refine wp_seq_k fun K24 h24 => cReg ?_
  refine stP hf rfl rfl rfl (pLt rfl rfl) fun a hf => cNil ?_
  refine h24 _ _ ?_
  refine wp_seq_k fun K25 h25 => cCond (b := (decide (x < ((r_1.1.length : Nat) : Int)))) hf rfl (fun hb => ?_) (fun hb => ?_)
  ·replace hF := condT hb hF
   clear hb
   refine wp_skip ?_
   refine h25 _ _ ?_
   refine wp_seq_k fun K26 h26 => wp_block ?_
   refine wp_seq_k fun K27 h27 => cReg ?_
   refine stP hf rfl rfl rfl (pM rfl) fun a hf => ?_
   obtain ⟨e_1,he_1,hF⟩ := bnd_some hF
   obtain ⟨g,rfl,qa,qr⟩ := row_atm hc m0 he_1
   refine stP hf rfl rfl rfl (pIA Tryz.underlying22 sz_31 rfl rfl qa) fun a hf => stE hf hc rfl rfl rfl (eLdN (vs := [.int .i64 e_1.Way.Lo,.int .i64 e_1.Way.Hi,.int .i64 e_1.Work.Lo,.int .i64 e_1.Work.Hi,.int .i64 e_1.Open,.int .i64 e_1.Close]) ag_31 rfl rfl (cells_rw (sz := 6) (i := x.toNat) m0 qr (n := 6) (o' := 0) rfl)) fun a w hf hc => stAl (cs := [.int .i64 0,.int .i64 0,.int .i64 0,.int .i64 0,.int .i64 0,.int .i64 0]) hf hc rfl rfl zr_31 rfl fun b_4 a w hf hc => stP hf rfl rfl rfl (pA rfl) fun a hf => stSt (vs := [.int .i64 e_1.Way.Lo,.int .i64 e_1.Way.Hi,.int .i64 e_1.Work.Lo,.int .i64 e_1.Work.Hi,.int .i64 e_1.Open,.int .i64 e_1.Close]) hf hc rfl rfl rfl rfl sz_31 rfl rfl u0 fun w hc => cNil ?_
   refine h27 _ _ ?_
   refine wp_seq_k fun K28 h28 => ?_
   obtain ⟨r_14,hr_14,hF⟩ := bnd_some hF
   refine regionE (fun θ => (⟨none,none,9,.slice (some ⟨g,0,none⟩) r_1.1.length c_4⟩::⟨none,none,10,.pointer (some ⟨b_2,0,none⟩)⟩::⟨none,none,12,.slice p_5 r_3.1.length c_5⟩::⟨none,none,14,.slice p_3 r_4.1.length c_3⟩::⟨none,none,16,.int .i64 r_5.1⟩::⟨none,none,17,.int .i64 r_5.2.1⟩::⟨none,some 29,19,.int .i64 a_1⟩::⟨none,some 30,20,.int .i64 b_3⟩::⟨none,some 31,21,.int .i64 c_6⟩::⟨none,none,22,.int .i64 x⟩::⟨none,none,23,.pointer (some ⟨b_4,0,none⟩)⟩::⟨none,none,101,.slice (some ⟨g,0,none⟩) r_1.1.length c_4⟩::⟨none,none,102,.int .i64 ((r_1.1.length : Nat) : Int)⟩::⟨none,none,103,.int .i64 x⟩::⟨some 0,none,108,.int .i64 a_1⟩::⟨some 1,none,109,.pointer (some ⟨b_4,0,none⟩)⟩::⟨some 2,none,110,.pointer (some ⟨b_4,0,none⟩)⟩::⟨some 3,none,111,.int .i64 e_1.Way.Lo⟩::⟨some 4,none,112,.int .i64 (W (a_1 + e_1.Way.Lo))⟩::⟨some 5,none,113,.pointer (some ⟨b_4,4,none⟩)⟩::⟨some 6,none,114,.int .i64 e_1.Open⟩::⟨some 7,none,115,.int .i64 (max (W (a_1 + e_1.Way.Lo)) e_1.Open)⟩::⟨some 8,none,116,.int .i64 b_3⟩::⟨some 9,none,117,.pointer (some ⟨b_4,0,none⟩)⟩::⟨some 10,none,118,.pointer (some ⟨b_4,1,none⟩)⟩::⟨some 11,none,119,.int .i64 e_1.Way.Hi⟩::⟨some 12,none,120,.int .i64 (W (b_3 + e_1.Way.Hi))⟩::⟨some 13,none,121,.pointer (some ⟨b_4,4,none⟩)⟩::⟨some 14,none,122,.int .i64 e_1.Open⟩::⟨some 15,none,123,.int .i64 (max (W (b_3 + e_1.Way.Hi)) e_1.Open)⟩::⟨some 16,none,124,.int .i64 c_6⟩::⟨some 17,none,125,.pointer (some ⟨b_2,0,none⟩)⟩::⟨some 18,none,126,.pointer (some ⟨b_4,0,none⟩)⟩::⟨some 19,none,127,.pointer (some ⟨b_4,0,none⟩)⟩::⟨some 20,none,128,.int .i64 e_1.Way.Lo⟩::⟨some 21,none,129,.pointer (some ⟨b_4,0,none⟩)⟩::⟨some 22,none,130,.pointer (some ⟨b_4,1,none⟩)⟩::⟨some 23,none,131,.int .i64 e_1.Way.Hi⟩::⟨some 24,none,132,.int .i64 r_14.1⟩::⟨some 25,none,133,.int .i64 (W (c_6 + r_14.1))⟩::⟨some 26,none,134,.pointer (some ⟨b_4,4,none⟩)⟩::⟨some 27,none,135,.int .i64 e_1.Open⟩::⟨some 28,none,136,.int .i64 (max (W (c_6 + r_14.1)) e_1.Open)⟩::⟨some 29,none,19,.int .i64 (max (W (a_1 + e_1.Way.Lo)) e_1.Open)⟩::⟨some 30,none,20,.int .i64 (max (W (b_3 + e_1.Way.Hi)) e_1.Open)⟩::⟨some 31,none,21,.int .i64 (max (W (c_6 + r_14.1)) e_1.Open)⟩::[])) (fun E θ => .box b_4 [.int .i64 e_1.Way.Lo,.int .i64 e_1.Way.Hi,.int .i64 e_1.Work.Lo,.int .i64 e_1.Work.Hi,.int .i64 e_1.Open,.int .i64 e_1.Close] 31::.row (some ⟨g,0,none⟩) c_4 (r_1.1.map enc_crew_Visit) 31 6::.row p_3 c_3 (r_4.1.map enc_api_Span) 29 2::.row p_5 c_5 (r_3.1.map enc_api_Span) 29 2::(bif E 24 then .box b_2 [.slice truth_p truth.length truth_c,.int .i64 r_14.2.1,.int .i64 r_14.2.2] 165 else .box b_2 [.slice truth_p truth.length truth_c,.int .i64 x_1,.int .i64 x_2] 165)::Lf) [(29,0),(30,8),(31,16)] (fun a w => Has 325 a [(9,.slice (some ⟨g,0,none⟩) r_1.1.length c_4),(10,.pointer (some ⟨b_2,0,none⟩)),(12,.slice p_5 r_3.1.length c_5),(14,.slice p_3 r_4.1.length c_3),(16,.int .i64 r_5.1),(17,.int .i64 r_5.2.1),(22,.int .i64 x),(23,.pointer (some ⟨b_4,0,none⟩)),(101,.slice (some ⟨g,0,none⟩) r_1.1.length c_4),(102,.int .i64 ((r_1.1.length : Nat) : Int)),(103,.int .i64 x),(19,.int .i64 (max (W (a_1 + e_1.Way.Lo)) e_1.Open)),(20,.int .i64 (max (W (b_3 + e_1.Way.Hi)) e_1.Open)),(21,.int .i64 (max (W (c_6 + r_14.1)) e_1.Open))] ∧ Ctx G (.box b_4 [.int .i64 e_1.Way.Lo,.int .i64 e_1.Way.Hi,.int .i64 e_1.Work.Lo,.int .i64 e_1.Work.Hi,.int .i64 e_1.Open,.int .i64 e_1.Close] 31::.row (some ⟨g,0,none⟩) c_4 (r_1.1.map enc_crew_Visit) 31 6::.row p_3 c_3 (r_4.1.map enc_api_Span) 29 2::.row p_5 c_5 (r_3.1.map enc_api_Span) 29 2::.box b_2 [.slice truth_p truth.length truth_c,.int .i64 r_14.2.1,.int .i64 r_14.2.2] 165::Lf) w) follows_mx (by kernel_rfl) (by kernel_rfl) (HasE.of hf ⟨rfl,rfl,rfl,rfl,rfl,rfl,rfl,rfl,rfl,rfl,rfl,rfl,rfl,rfl,trivial,trivial,trivial,trivial,trivial,trivial,trivial,trivial,trivial,trivial,trivial,trivial,trivial,trivial,trivial,trivial,trivial,trivial,trivial,trivial,trivial,trivial,trivial,trivial,trivial,trivial,trivial,trivial,trivial,trivial,trivial,trivial,trivial⟩) hc ⟨?_,?_,?_,?_,?_,?_,?_,?_,?_,?_,?_,?_,?_,?_,?_,?_,?_,?_,?_,?_,?_,?_,?_,?_,?_,?_,?_,?_,?_,?_,?_,?_,trivial⟩ ?_ ?_
   ·intro E θ a w hD hi hp he hc
    have e29 := hD.f 0 rfl hi
    have hf := he.h0
    replace hf := hf.more he 6 rfl (onN e29)
    refine stP hf rfl rfl rfl (pM rfl) fun a hf => cNil ?_
    refine xThenN ?_
    intro ds u hau
    refine ⟨θ,he.put0 hi hau hf rfl 14 rfl rfl,?_⟩
    exact hc
   ·intro E θ a w hD hi hp he hc
    have hf := he.h0
    replace hf := hf.more he 10 rfl onT
    refine stP hf rfl rfl rfl (pFA fa_31_0 rfl) fun a hf => cNil ?_
    refine xThenN ?_
    intro ds u hau
    refine ⟨θ,he.put0 hi hau hf rfl 15 rfl rfl,?_⟩
    exact hc
   ·intro E θ a w hD hi hp he hc
    have e1 := hp.of (k := 1) rfl
    have hf := he.h0
    replace hf := hf.more he 15 rfl (onP e1)
    refine stP hf rfl rfl rfl (pFA fa_29_0 rfl) fun a hf => cNil ?_
    refine xThenN ?_
    intro ds u hau
    refine ⟨θ,he.put0 hi hau hf rfl 16 rfl rfl,?_⟩
    exact hc
   ·intro E θ a w hD hi hp he hc
    have e2 := hp.of (k := 2) rfl
    have hf := he.h0
    replace hf := hf.more he 16 rfl (onP e2)
    refine stE hf hc rfl rfl rfl (eLd1 sc_3 rfl (cell_box m0 rfl)) fun a w hf hc => cNil ?_
    refine xThenN ?_
    intro ds u hau
    refine ⟨θ,he.put0 hi hau hf rfl 17 rfl rfl,?_⟩
    exact hc
   ·intro E θ a w hD hi hp he hc
    have e0 := hp.of (k := 0) rfl
    have e3 := hp.of (k := 3) rfl
    have hf := he.h0
    replace hf := hf.more he 14 rfl (onP e0)
    replace hf := hf.more he 17 rfl (onP e3)
    refine stP hf rfl rfl rfl (pAdd rfl rfl) fun a hf => cNil ?_
    refine xThenN ?_
    intro ds u hau
    refine ⟨θ,he.put0 hi hau hf rfl 18 rfl rfl,?_⟩
    exact hc
   ·intro E θ a w hD hi hp he hc
    have hf := he.h0
    replace hf := hf.more he 10 rfl onT
    refine stP hf rfl rfl rfl (pFA fa_31_2 rfl) fun a hf => cNil ?_
    refine xThenN ?_
    intro ds u hau
    refine ⟨θ,he.put0 hi hau hf rfl 19 rfl rfl,?_⟩
    exact hc
   ·intro E θ a w hD hi hp he hc
    have e5 := hp.of (k := 5) rfl
    have hf := he.h0
    replace hf := hf.more he 19 rfl (onP e5)
    refine stE hf hc rfl rfl rfl (eLd1 sc_3 rfl (cell_box m0 rfl)) fun a w hf hc => cNil ?_
    refine xThenN ?_
    intro ds u hau
    refine ⟨θ,he.put0 hi hau hf rfl 20 rfl rfl,?_⟩
    exact hc
   ·intro E θ a w hD hi hp he hc
    have e4 := hp.of (k := 4) rfl
    have e6 := hp.of (k := 6) rfl
    have hf := he.h0
    replace hf := hf.more he 18 rfl (onP e4)
    replace hf := hf.more he 20 rfl (onP e6)
    refine stP hf rfl rfl rfl (pMax2 rfl rfl) fun a hf => cNil ?_
    refine xThenN ?_
    intro ds u hau
    refine ⟨θ,he.put0 hi hau hf rfl 21 rfl rfl,?_⟩
    exact hc
   ·intro E θ a w hD hi hp he hc
    have e30 := hD.f 1 rfl hi
    have hf := he.h0
    replace hf := hf.more he 7 rfl (onN e30)
    refine stP hf rfl rfl rfl (pM rfl) fun a hf => cNil ?_
    refine xThenN ?_
    intro ds u hau
    refine ⟨θ,he.put0 hi hau hf rfl 22 rfl rfl,?_⟩
    exact hc
   ·intro E θ a w hD hi hp he hc
    have hf := he.h0
    replace hf := hf.more he 10 rfl onT
    refine stP hf rfl rfl rfl (pFA fa_31_0 rfl) fun a hf => cNil ?_
    refine xThenN ?_
    intro ds u hau
    refine ⟨θ,he.put0 hi hau hf rfl 23 rfl rfl,?_⟩
    exact hc
   ·intro E θ a w hD hi hp he hc
    have e9 := hp.of (k := 9) rfl
    have hf := he.h0
    replace hf := hf.more he 23 rfl (onP e9)
    refine stP hf rfl rfl rfl (pFA fa_29_1 rfl) fun a hf => cNil ?_
    refine xThenN ?_
    intro ds u hau
    refine ⟨θ,he.put0 hi hau hf rfl 24 rfl rfl,?_⟩
    exact hc
   ·intro E θ a w hD hi hp he hc
    have e10 := hp.of (k := 10) rfl
    have hf := he.h0
    replace hf := hf.more he 24 rfl (onP e10)
    refine stE hf hc rfl rfl rfl (eLd1 sc_3 rfl (cell_box m0 rfl)) fun a w hf hc => cNil ?_
    refine xThenN ?_
    intro ds u hau
    refine ⟨θ,he.put0 hi hau hf rfl 25 rfl rfl,?_⟩
    exact hc
   ·intro E θ a w hD hi hp he hc
    have e8 := hp.of (k := 8) rfl
    have e11 := hp.of (k := 11) rfl
    have hf := he.h0
    replace hf := hf.more he 22 rfl (onP e8)
    replace hf := hf.more he 25 rfl (onP e11)
    refine stP hf rfl rfl rfl (pAdd rfl rfl) fun a hf => cNil ?_
    refine xThenN ?_
    intro ds u hau
    refine ⟨θ,he.put0 hi hau hf rfl 26 rfl rfl,?_⟩
    exact hc
   ·intro E θ a w hD hi hp he hc
    have hf := he.h0
    replace hf := hf.more he 10 rfl onT
    refine stP hf rfl rfl rfl (pFA fa_31_2 rfl) fun a hf => cNil ?_
    refine xThenN ?_
    intro ds u hau
    refine ⟨θ,he.put0 hi hau hf rfl 27 rfl rfl,?_⟩
    exact hc
   ·intro E θ a w hD hi hp he hc
    have e13 := hp.of (k := 13) rfl
    have hf := he.h0
    replace hf := hf.more he 27 rfl (onP e13)
    refine stE hf hc rfl rfl rfl (eLd1 sc_3 rfl (cell_box m0 rfl)) fun a w hf hc => cNil ?_
    refine xThenN ?_
    intro ds u hau
    refine ⟨θ,he.put0 hi hau hf rfl 28 rfl rfl,?_⟩
    exact hc
   ·intro E θ a w hD hi hp he hc
    have e12 := hp.of (k := 12) rfl
    have e14 := hp.of (k := 14) rfl
    have hf := he.h0
    replace hf := hf.more he 26 rfl (onP e12)
    replace hf := hf.more he 28 rfl (onP e14)
    refine stP hf rfl rfl rfl (pMax2 rfl rfl) fun a hf => cNil ?_
    refine xThenN ?_
    intro ds u hau
    refine ⟨θ,he.put0 hi hau hf rfl 29 rfl rfl,?_⟩
    exact hc
   ·intro E θ a w hD hi hp he hc
    have e31 := hD.f 2 rfl hi
    have hf := he.h0
    replace hf := hf.more he 8 rfl (onN e31)
    refine stP hf rfl rfl rfl (pM rfl) fun a hf => cNil ?_
    refine xThenN ?_
    intro ds u hau
    refine ⟨θ,he.put0 hi hau hf rfl 30 rfl rfl,?_⟩
    exact hc
   ·intro E θ a w hD hi hp he hc
    have hf := he.h0
    replace hf := hf.more he 1 rfl onT
    refine stP hf rfl rfl rfl (pM rfl) fun a hf => cNil ?_
    refine xThenN ?_
    intro ds u hau
    refine ⟨θ,he.put0 hi hau hf rfl 31 rfl rfl,?_⟩
    exact hc
   ·intro E θ a w hD hi hp he hc
    have hf := he.h0
    replace hf := hf.more he 10 rfl onT
    refine stP hf rfl rfl rfl (pFA fa_31_0 rfl) fun a hf => cNil ?_
    refine xThenN ?_
    intro ds u hau
    refine ⟨θ,he.put0 hi hau hf rfl 32 rfl rfl,?_⟩
    exact hc
   ·intro E θ a w hD hi hp he hc
    have e18 := hp.of (k := 18) rfl
    have hf := he.h0
    replace hf := hf.more he 32 rfl (onP e18)
    refine stP hf rfl rfl rfl (pFA fa_29_0 rfl) fun a hf => cNil ?_
    refine xThenN ?_
    intro ds u hau
    refine ⟨θ,he.put0 hi hau hf rfl 33 rfl rfl,?_⟩
    exact hc
   ·intro E θ a w hD hi hp he hc
    have e19 := hp.of (k := 19) rfl
    have hf := he.h0
    replace hf := hf.more he 33 rfl (onP e19)
    refine stE hf hc rfl rfl rfl (eLd1 sc_3 rfl (cell_box m0 rfl)) fun a w hf hc => cNil ?_
    refine xThenN ?_
    intro ds u hau
    refine ⟨θ,he.put0 hi hau hf rfl 34 rfl rfl,?_⟩
    exact hc
   ·intro E θ a w hD hi hp he hc
    have hf := he.h0
    replace hf := hf.more he 10 rfl onT
    refine stP hf rfl rfl rfl (pFA fa_31_0 rfl) fun a hf => cNil ?_
    refine xThenN ?_
    intro ds u hau
    refine ⟨θ,he.put0 hi hau hf rfl 35 rfl rfl,?_⟩
    exact hc
   ·intro E θ a w hD hi hp he hc
    have e21 := hp.of (k := 21) rfl
    have hf := he.h0
    replace hf := hf.more he 35 rfl (onP e21)
    refine stP hf rfl rfl rfl (pFA fa_29_1 rfl) fun a hf => cNil ?_
    refine xThenN ?_
    intro ds u hau
    refine ⟨θ,he.put0 hi hau hf rfl 36 rfl rfl,?_⟩
    exact hc
   ·intro E θ a w hD hi hp he hc
    have e22 := hp.of (k := 22) rfl
    have hf := he.h0
    replace hf := hf.more he 36 rfl (onP e22)
    refine stE hf hc rfl rfl rfl (eLd1 sc_3 rfl (cell_box m0 rfl)) fun a w hf hc => cNil ?_
    refine xThenN ?_
    intro ds u hau
    refine ⟨θ,he.put0 hi hau hf rfl 37 rfl rfl,?_⟩
    exact hc
   ·intro E θ a w hD hi hp he hc
    have e17 := hp.of (k := 17) rfl
    have e20 := hp.of (k := 20) rfl
    have e23 := hp.of (k := 23) rfl
    try dsimp only at hc
    rw [hi] at hc
    have hf := he.h0
    replace hf := hf.more he 31 rfl (onP e17)
    replace hf := hf.more he 34 rfl (onP e20)
    replace hf := hf.more he 37 rfl (onP e23)
    refine stC (vs := [.pointer (some ⟨b_2,0,none⟩),.int .i64 e_1.Way.Lo,.int .i64 e_1.Way.Hi]) (caps := []) hf rfl rfl rfl en_50 rfl rfl rfl rfl (kit_Stream_Within_ok (⟨truth,x_1,x_2⟩ : kit_Stream) e_1.Way.Lo e_1.Way.Hi h_truth (hc.pick k4) hr_14) ?_
    rintro _ w ⟨rfl,hc⟩
    refine ⟨_,rfl,fun a hf => ?_⟩
    refine cNil ?_
    refine xThenN ?_
    intro ds u hau
    replace hc := hc.pick k0
    replace hc := hc.pick k4
    replace hc := hc.pick k4
    replace hc := hc.pick k4
    replace hc := hc.pick k4
    refine ⟨θ,he.put0 hi hau hf rfl 38 rfl rfl,?_⟩
    try dsimp only
    rw [updE_self E 24]
    exact hc
   ·intro E θ a w hD hi hp he hc
    have e16 := hp.of (k := 16) rfl
    have e24 := hp.of (k := 24) rfl
    have hf := he.h0
    replace hf := hf.more he 30 rfl (onP e16)
    replace hf := hf.more he 38 rfl (onP e24)
    refine stP hf rfl rfl rfl (pAdd rfl rfl) fun a hf => cNil ?_
    refine xThenN ?_
    intro ds u hau
    refine ⟨θ,he.put0 hi hau hf rfl 39 rfl rfl,?_⟩
    exact hc
   ·intro E θ a w hD hi hp he hc
    have hf := he.h0
    replace hf := hf.more he 10 rfl onT
    refine stP hf rfl rfl rfl (pFA fa_31_2 rfl) fun a hf => cNil ?_
    refine xThenN ?_
    intro ds u hau
    refine ⟨θ,he.put0 hi hau hf rfl 40 rfl rfl,?_⟩
    exact hc
   ·intro E θ a w hD hi hp he hc
    have e26 := hp.of (k := 26) rfl
    have hf := he.h0
    replace hf := hf.more he 40 rfl (onP e26)
    refine stE hf hc rfl rfl rfl (eLd1 sc_3 rfl (cell_box m0 rfl)) fun a w hf hc => cNil ?_
    refine xThenN ?_
    intro ds u hau
    refine ⟨θ,he.put0 hi hau hf rfl 41 rfl rfl,?_⟩
    exact hc
   ·intro E θ a w hD hi hp he hc
    have e25 := hp.of (k := 25) rfl
    have e27 := hp.of (k := 27) rfl
    have hf := he.h0
    replace hf := hf.more he 39 rfl (onP e25)
    replace hf := hf.more he 41 rfl (onP e27)
    refine stP hf rfl rfl rfl (pMax2 rfl rfl) fun a hf => cNil ?_
    refine xThenN ?_
    intro ds u hau
    refine ⟨θ,he.put0 hi hau hf rfl 42 rfl rfl,?_⟩
    exact hc
   ·intro E θ a w hD hi hp he hc
    have e7 := hp.of (k := 7) rfl
    have hf := he.h0
    replace hf := hf.more he 21 rfl (onP e7)
    refine stP hf rfl rfl rfl (pA rfl) fun a hf => cNil ?_
    refine xThenN ?_
    intro ds u hau
    refine ⟨θ,he.put0 hi hau hf rfl 43 rfl rfl,?_⟩
    exact hc
   ·intro E θ a w hD hi hp he hc
    have e15 := hp.of (k := 15) rfl
    have hf := he.h0
    replace hf := hf.more he 29 rfl (onP e15)
    refine stP hf rfl rfl rfl (pA rfl) fun a hf => cNil ?_
    refine xThenN ?_
    intro ds u hau
    refine ⟨θ,he.put0 hi hau hf rfl 44 rfl rfl,?_⟩
    exact hc
   ·intro E θ a w hD hi hp he hc
    have e28 := hp.of (k := 28) rfl
    have hf := he.h0
    replace hf := hf.more he 42 rfl (onP e28)
    refine stP hf rfl rfl rfl (pA rfl) fun a hf => cNil ?_
    refine xThenN ?_
    intro ds u hau
    refine ⟨θ,he.put0 hi hau hf rfl 45 rfl rfl,?_⟩
    exact hc
   ·intro E θ a w hall he hc
    have hf := he.h0
    have e24 := hall 24 rfl
    have e29 := hall 29 rfl
    have e30 := hall 30 rfl
    have e31 := hall 31 rfl
    replace hf := hf.more he 45 rfl (onP e31)
    replace hf := hf.more he 44 rfl (onP e30)
    replace hf := hf.more he 43 rfl (onP e29)
    replace hf := hf.more he 13 rfl (onT)
    replace hf := hf.more he 12 rfl (onT)
    replace hf := hf.more he 11 rfl (onT)
    replace hf := hf.more he 10 rfl (onT)
    replace hf := hf.more he 9 rfl (onT)
    replace hf := hf.more he 5 rfl (onT)
    replace hf := hf.more he 4 rfl (onT)
    replace hf := hf.more he 3 rfl (onT)
    replace hf := hf.more he 2 rfl (onT)
    replace hf := hf.more he 1 rfl (onT)
    replace hf := hf.more he 0 rfl (onT)
    try dsimp only at hc
    rw [e24] at hc
    exact ⟨hf.keep ⟨rfl,rfl,rfl,rfl,rfl,rfl,rfl,rfl,rfl,rfl,rfl,rfl,rfl,rfl,trivial⟩,hc⟩
   rintro a w ⟨hf,hc⟩
   refine h28 _ _ ?_
   refine wp_seq_k fun K29 h29 => wp_seq_k fun K30 h30 => ?_
   obtain ⟨e_2,he_2,hF⟩ := bnd_some hF
   obtain ⟨g_1,rfl,qa_1,qr_1⟩ := row_atm hc m3 he_2
   obtain ⟨r_15,hr_15,hF⟩ := bnd_some hF
   obtain ⟨t_3,ht_3,hF⟩ := bnd_some hF
   obtain ⟨t_4,ht_4,hF⟩ := bnd_some hF
   obtain ⟨t_5,ht_5,hF⟩ := bnd_some hF
   obtain ⟨t_6,ht_6,hF⟩ := bnd_some hF
   refine cQ hc follows_mx (by kernel_rfl) ?_
   refine qE hf rfl rfl rfl (Pu.ev (pM rfl)) fun a hf => qE hf rfl rfl rfl (Pu.ev (pM rfl)) fun a hf => qE hf rfl rfl rfl (Pu.ev (pIA Tryz.underlying33 sz_29 rfl rfl qa_1)) fun a hf => qE hf rfl rfl rfl (eLdN (vs := [.int .i64 e_2.Lo,.int .i64 e_2.Hi]) ag_29 rfl rfl (cells_rw (sz := 2) (i := x.toNat) m3 qr_1 (n := 2) (o' := 0) rfl)) fun a hf => qE hf rfl rfl rfl (Pu.ev (pM rfl)) fun a hf => qE hf rfl rfl rfl (Pu.ev (pM rfl)) fun a hf => qE hf rfl rfl rfl (eC (v := .agg #[.int .i64 r_15.Lo,.int .i64 r_15.Hi]) (vs := [.int .i64 (max (W (a_1 + e_1.Way.Lo)) e_1.Open),.int .i64 (max (W (b_3 + e_1.Way.Hi)) e_1.Open)]) (caps := []) en_51 rfl rfl rfl rfl (fun w hc => law11_span_ok (max (W (a_1 + e_1.Way.Lo)) e_1.Open) (max (W (b_3 + e_1.Way.Hi)) e_1.Open) hc hr_15)) fun a hf => qE hf rfl rfl rfl (Pu.ev (pNeA ge_29 rfl rfl (eqs_29 _ _ _ _))) fun a hf => qE hf rfl rfl rfl (Pu.ev (pM rfl)) fun a hf => qCut 8 (fun a => Has 325 a [(9,.slice (some ⟨g,0,none⟩) r_1.1.length c_4),(10,.pointer (some ⟨b_2,0,none⟩)),(12,.slice (some ⟨g_1,0,none⟩) r_3.1.length c_5),(14,.slice p_3 r_4.1.length c_3),(16,.int .i64 r_5.1),(17,.int .i64 r_5.2.1),(22,.int .i64 x),(23,.pointer (some ⟨b_4,0,none⟩)),(101,.slice (some ⟨g,0,none⟩) r_1.1.length c_4),(102,.int .i64 ((r_1.1.length : Nat) : Int)),(103,.int .i64 x),(19,.int .i64 (max (W (a_1 + e_1.Way.Lo)) e_1.Open)),(20,.int .i64 (max (W (b_3 + e_1.Way.Hi)) e_1.Open)),(21,.int .i64 (max (W (c_6 + r_14.1)) e_1.Open)),(137,.slice (some ⟨g_1,0,none⟩) r_3.1.length c_5),(138,.int .i64 x),(139,.pointer (some ⟨g_1,x.toNat * 2,none⟩)),(140,.agg #[.int .i64 e_2.Lo,.int .i64 e_2.Hi]),(141,.int .i64 (max (W (a_1 + e_1.Way.Lo)) e_1.Open)),(142,.int .i64 (max (W (b_3 + e_1.Way.Hi)) e_1.Open)),(143,.agg #[.int .i64 r_15.Lo,.int .i64 r_15.Hi]),(144,.bool (!(e_2.Lo == r_15.Lo && e_2.Hi == r_15.Hi))),(145,.bool (!(e_2.Lo == r_15.Lo && e_2.Hi == r_15.Hi))),(153,.bool t_3)]) ?_ ?_
   ·cases hb : (!(e_2.Lo == r_15.Lo && e_2.Hi == r_15.Hi))
    ·rw [hb] at hf
     have hF := condF hb ht_3
     obtain ⟨e_3,he_3,hF⟩ := bnd_some hF
     obtain ⟨qa_2,qr_2⟩ := row_atk hc m3 he_3
     refine qE hf rfl rfl rfl (Pu.ev (pM rfl)) fun a hf => qE hf rfl rfl rfl (Pu.ev (pM rfl)) fun a hf => qE hf rfl rfl rfl (Pu.ev (pM rfl)) fun a hf => qE hf rfl rfl rfl (Pu.ev (pIA Tryz.underlying33 sz_29 rfl rfl qa_2)) fun a hf => qE hf rfl rfl rfl (Pu.ev (pFA fa_29_0 rfl)) fun a hf => qE hf rfl rfl rfl (eLd1 sc_3 rfl (cell_row (sz := 2) (i := x.toNat) (j := 0) m3 qr_2 rfl)) fun a hf => qE hf rfl rfl rfl (Pu.ev (pLt rfl rfl)) fun a hf => qE hf rfl rfl rfl (Pu.ev (pPf rfl rfl)) fun a hf => ?_
     obtain rfl := Option.some.inj hF
     exact qNil (hf.keep ⟨rfl,rfl,rfl,rfl,rfl,rfl,rfl,rfl,rfl,rfl,rfl,rfl,rfl,rfl,rfl,rfl,rfl,rfl,rfl,rfl,rfl,rfl,rfl,rfl,trivial⟩)
    ·rw [hb] at hf
     have hF := condT hb ht_3
     obtain rfl := Option.some.inj hF
     refine qS hf rfl rfl rfl fun a hf => qS hf rfl rfl rfl fun a hf => qS hf rfl rfl rfl fun a hf => qS hf rfl rfl rfl fun a hf => qS hf rfl rfl rfl fun a hf => qS hf rfl rfl rfl fun a hf => qS hf rfl rfl rfl fun a hf => qE hf rfl rfl rfl (Pu.ev (pPt rfl rfl)) fun a hf => qNil (hf.keep ⟨rfl,rfl,rfl,rfl,rfl,rfl,rfl,rfl,rfl,rfl,rfl,rfl,rfl,rfl,rfl,rfl,rfl,rfl,rfl,rfl,rfl,rfl,rfl,rfl,trivial⟩)
   intro a hf
   refine qE hf rfl rfl rfl (Pu.ev (pM rfl)) fun a hf => qCut 8 (fun a => Has 325 a [(9,.slice (some ⟨g,0,none⟩) r_1.1.length c_4),(10,.pointer (some ⟨b_2,0,none⟩)),(12,.slice (some ⟨g_1,0,none⟩) r_3.1.length c_5),(14,.slice p_3 r_4.1.length c_3),(16,.int .i64 r_5.1),(17,.int .i64 r_5.2.1),(22,.int .i64 x),(23,.pointer (some ⟨b_4,0,none⟩)),(101,.slice (some ⟨g,0,none⟩) r_1.1.length c_4),(102,.int .i64 ((r_1.1.length : Nat) : Int)),(103,.int .i64 x),(19,.int .i64 (max (W (a_1 + e_1.Way.Lo)) e_1.Open)),(20,.int .i64 (max (W (b_3 + e_1.Way.Hi)) e_1.Open)),(21,.int .i64 (max (W (c_6 + r_14.1)) e_1.Open)),(137,.slice (some ⟨g_1,0,none⟩) r_3.1.length c_5),(138,.int .i64 x),(139,.pointer (some ⟨g_1,x.toNat * 2,none⟩)),(140,.agg #[.int .i64 e_2.Lo,.int .i64 e_2.Hi]),(141,.int .i64 (max (W (a_1 + e_1.Way.Lo)) e_1.Open)),(142,.int .i64 (max (W (b_3 + e_1.Way.Hi)) e_1.Open)),(143,.agg #[.int .i64 r_15.Lo,.int .i64 r_15.Hi]),(144,.bool (!(e_2.Lo == r_15.Lo && e_2.Hi == r_15.Hi))),(145,.bool (!(e_2.Lo == r_15.Lo && e_2.Hi == r_15.Hi))),(153,.bool t_3),(154,.bool t_3),(162,.bool t_4)]) ?_ ?_
   ·cases hb : t_3
    ·rw [hb] at hf
     have hF := condF hb ht_4
     obtain ⟨e_4,he_4,hF⟩ := bnd_some hF
     obtain ⟨qa_3,qr_3⟩ := row_atk hc m3 he_4
     refine qE hf rfl rfl rfl (Pu.ev (pM rfl)) fun a hf => qE hf rfl rfl rfl (Pu.ev (pM rfl)) fun a hf => qE hf rfl rfl rfl (Pu.ev (pM rfl)) fun a hf => qE hf rfl rfl rfl (Pu.ev (pIA Tryz.underlying33 sz_29 rfl rfl qa_3)) fun a hf => qE hf rfl rfl rfl (Pu.ev (pFA fa_29_1 rfl)) fun a hf => qE hf rfl rfl rfl (eLd1 sc_3 rfl (cell_row (sz := 2) (i := x.toNat) (j := 1) m3 qr_3 rfl)) fun a hf => qE hf rfl rfl rfl (Pu.ev (pGt rfl rfl)) fun a hf => qE hf rfl rfl rfl (Pu.ev (pPf rfl rfl)) fun a hf => ?_
     obtain rfl := Option.some.inj hF
     exact qNil (hf.keep ⟨rfl,rfl,rfl,rfl,rfl,rfl,rfl,rfl,rfl,rfl,rfl,rfl,rfl,rfl,rfl,rfl,rfl,rfl,rfl,rfl,rfl,rfl,rfl,rfl,rfl,rfl,trivial⟩)
    ·rw [hb] at hf
     have hF := condT hb ht_4
     obtain rfl := Option.some.inj hF
     refine qS hf rfl rfl rfl fun a hf => qS hf rfl rfl rfl fun a hf => qS hf rfl rfl rfl fun a hf => qS hf rfl rfl rfl fun a hf => qS hf rfl rfl rfl fun a hf => qS hf rfl rfl rfl fun a hf => qS hf rfl rfl rfl fun a hf => qE hf rfl rfl rfl (Pu.ev (pPt rfl rfl)) fun a hf => qNil (hf.keep ⟨rfl,rfl,rfl,rfl,rfl,rfl,rfl,rfl,rfl,rfl,rfl,rfl,rfl,rfl,rfl,rfl,rfl,rfl,rfl,rfl,rfl,rfl,rfl,rfl,rfl,rfl,trivial⟩)
   intro a hf
   refine qE hf rfl rfl rfl (Pu.ev (pM rfl)) fun a hf => qCut 8 (fun a => Has 325 a [(9,.slice (some ⟨g,0,none⟩) r_1.1.length c_4),(10,.pointer (some ⟨b_2,0,none⟩)),(12,.slice (some ⟨g_1,0,none⟩) r_3.1.length c_5),(14,.slice p_3 r_4.1.length c_3),(16,.int .i64 r_5.1),(17,.int .i64 r_5.2.1),(22,.int .i64 x),(23,.pointer (some ⟨b_4,0,none⟩)),(101,.slice (some ⟨g,0,none⟩) r_1.1.length c_4),(102,.int .i64 ((r_1.1.length : Nat) : Int)),(103,.int .i64 x),(19,.int .i64 (max (W (a_1 + e_1.Way.Lo)) e_1.Open)),(20,.int .i64 (max (W (b_3 + e_1.Way.Hi)) e_1.Open)),(21,.int .i64 (max (W (c_6 + r_14.1)) e_1.Open)),(137,.slice (some ⟨g_1,0,none⟩) r_3.1.length c_5),(138,.int .i64 x),(139,.pointer (some ⟨g_1,x.toNat * 2,none⟩)),(140,.agg #[.int .i64 e_2.Lo,.int .i64 e_2.Hi]),(141,.int .i64 (max (W (a_1 + e_1.Way.Lo)) e_1.Open)),(142,.int .i64 (max (W (b_3 + e_1.Way.Hi)) e_1.Open)),(143,.agg #[.int .i64 r_15.Lo,.int .i64 r_15.Hi]),(144,.bool (!(e_2.Lo == r_15.Lo && e_2.Hi == r_15.Hi))),(145,.bool (!(e_2.Lo == r_15.Lo && e_2.Hi == r_15.Hi))),(153,.bool t_3),(154,.bool t_3),(162,.bool t_4),(163,.bool t_4),(171,.bool t_5)]) ?_ ?_
   ·cases hb : t_4
    ·rw [hb] at hf
     have hF := condF hb ht_5
     obtain ⟨e_5,he_5,hF⟩ := bnd_some hF
     obtain ⟨g_2,rfl,qa_4,qr_4⟩ := row_atm hc m2 he_5
     refine qE hf rfl rfl rfl (Pu.ev (pM rfl)) fun a hf => qE hf rfl rfl rfl (Pu.ev (pM rfl)) fun a hf => qE hf rfl rfl rfl (Pu.ev (pIA Tryz.underlying33 sz_29 rfl rfl qa_4)) fun a hf => qE hf rfl rfl rfl (Pu.ev (pFA fa_29_0 rfl)) fun a hf => qE hf rfl rfl rfl (eLd1 sc_3 rfl (cell_row (sz := 2) (i := x.toNat) (j := 0) m2 qr_4 rfl)) fun a hf => qE hf rfl rfl rfl (Pu.ev (pM rfl)) fun a hf => qE hf rfl rfl rfl (Pu.ev (pLt rfl rfl)) fun a hf => qE hf rfl rfl rfl (Pu.ev (pPf rfl rfl)) fun a hf => ?_
     obtain rfl := Option.some.inj hF
     exact qNil (hf.keep ⟨rfl,rfl,rfl,rfl,rfl,rfl,rfl,rfl,rfl,rfl,rfl,rfl,rfl,rfl,rfl,rfl,rfl,rfl,rfl,rfl,rfl,rfl,rfl,rfl,rfl,rfl,rfl,rfl,trivial⟩)
    ·rw [hb] at hf
     have hF := condT hb ht_5
     obtain rfl := Option.some.inj hF
     refine qS hf rfl rfl rfl fun a hf => qS hf rfl rfl rfl fun a hf => qS hf rfl rfl rfl fun a hf => qS hf rfl rfl rfl fun a hf => qS hf rfl rfl rfl fun a hf => qS hf rfl rfl rfl fun a hf => qS hf rfl rfl rfl fun a hf => qE hf rfl rfl rfl (Pu.ev (pPt rfl rfl)) fun a hf => qNil (hf.keep ⟨rfl,rfl,rfl,rfl,rfl,rfl,rfl,rfl,rfl,rfl,rfl,rfl,rfl,rfl,rfl,rfl,rfl,rfl,rfl,rfl,rfl,rfl,rfl,rfl,rfl,rfl,rfl,rfl,trivial⟩)
   intro a hf
   refine qE hf rfl rfl rfl (Pu.ev (pM rfl)) fun a hf => qCut 8 (fun a => Has 325 a ((9,.slice (some ⟨g,0,none⟩) r_1.1.length c_4)::(10,.pointer (some ⟨b_2,0,none⟩))::(12,.slice (some ⟨g_1,0,none⟩) r_3.1.length c_5)::(14,.slice p_3 r_4.1.length c_3)::(16,.int .i64 r_5.1)::(17,.int .i64 r_5.2.1)::(22,.int .i64 x)::(23,.pointer (some ⟨b_4,0,none⟩))::(101,.slice (some ⟨g,0,none⟩) r_1.1.length c_4)::(102,.int .i64 ((r_1.1.length : Nat) : Int))::(103,.int .i64 x)::(19,.int .i64 (max (W (a_1 + e_1.Way.Lo)) e_1.Open))::(20,.int .i64 (max (W (b_3 + e_1.Way.Hi)) e_1.Open))::(21,.int .i64 (max (W (c_6 + r_14.1)) e_1.Open))::(137,.slice (some ⟨g_1,0,none⟩) r_3.1.length c_5)::(138,.int .i64 x)::(139,.pointer (some ⟨g_1,x.toNat * 2,none⟩))::(140,.agg #[.int .i64 e_2.Lo,.int .i64 e_2.Hi])::(141,.int .i64 (max (W (a_1 + e_1.Way.Lo)) e_1.Open))::(142,.int .i64 (max (W (b_3 + e_1.Way.Hi)) e_1.Open))::(143,.agg #[.int .i64 r_15.Lo,.int .i64 r_15.Hi])::(144,.bool (!(e_2.Lo == r_15.Lo && e_2.Hi == r_15.Hi)))::(145,.bool (!(e_2.Lo == r_15.Lo && e_2.Hi == r_15.Hi)))::(153,.bool t_3)::(154,.bool t_3)::(162,.bool t_4)::(163,.bool t_4)::(171,.bool t_5)::(172,.bool t_5)::(180,.bool t_6)::[])) ?_ ?_
   ·cases hb : t_5
    ·rw [hb] at hf
     have hF := condF hb ht_6
     obtain ⟨e_6,he_6,hF⟩ := bnd_some hF
     obtain ⟨g_3,rfl,qa_5,qr_5⟩ := row_atm hc m2 he_6
     refine qE hf rfl rfl rfl (Pu.ev (pM rfl)) fun a hf => qE hf rfl rfl rfl (Pu.ev (pM rfl)) fun a hf => qE hf rfl rfl rfl (Pu.ev (pIA Tryz.underlying33 sz_29 rfl rfl qa_5)) fun a hf => qE hf rfl rfl rfl (Pu.ev (pFA fa_29_1 rfl)) fun a hf => qE hf rfl rfl rfl (eLd1 sc_3 rfl (cell_row (sz := 2) (i := x.toNat) (j := 1) m2 qr_5 rfl)) fun a hf => qE hf rfl rfl rfl (Pu.ev (pM rfl)) fun a hf => qE hf rfl rfl rfl (Pu.ev (pLt rfl rfl)) fun a hf => qE hf rfl rfl rfl (Pu.ev (pPf rfl rfl)) fun a hf => ?_
     obtain rfl := Option.some.inj hF
     exact qNil (hf.keep ⟨rfl,rfl,rfl,rfl,rfl,rfl,rfl,rfl,rfl,rfl,rfl,rfl,rfl,rfl,rfl,rfl,rfl,rfl,rfl,rfl,rfl,rfl,rfl,rfl,rfl,rfl,rfl,rfl,rfl,rfl,trivial⟩)
    ·rw [hb] at hf
     have hF := condT hb ht_6
     obtain rfl := Option.some.inj hF
     refine qS hf rfl rfl rfl fun a hf => qS hf rfl rfl rfl fun a hf => qS hf rfl rfl rfl fun a hf => qS hf rfl rfl rfl fun a hf => qS hf rfl rfl rfl fun a hf => qS hf rfl rfl rfl fun a hf => qS hf rfl rfl rfl fun a hf => qE hf rfl rfl rfl (Pu.ev (pPt rfl rfl)) fun a hf => qNil (hf.keep ⟨rfl,rfl,rfl,rfl,rfl,rfl,rfl,rfl,rfl,rfl,rfl,rfl,rfl,rfl,rfl,rfl,rfl,rfl,rfl,rfl,rfl,rfl,rfl,rfl,rfl,rfl,rfl,rfl,rfl,rfl,trivial⟩)
   intro a hf
   intro w hc
   refine h30 _ _ ?_
   refine cCond (b := t_6) hf rfl (fun hb => ?_) (fun hb => ?_)
   ·replace hF := condT hb hF
    clear hb
    refine wp_seq_k fun K31 h31 => cReg ?_
    refine stP hf rfl rfl rfl (pA rfl) fun a hf => cNil ?_
    refine h31 _ _ ?_
    refine wp_ret ?_
    refine xThenR ?_
    refine xBlkR ?_
    refine xThenR ?_
    refine xThenR ?_
    have he := Option.some.inj hF
    rw [← he] at hfin14
    replace hF := ho14 _ hfin14
    refine xBlkR ?_
    refine xThenR ?_
    obtain rfl := hF
    replace hc := hc.drop k4
    replace hc := hc.drop k3
    replace hc := hc.drop k2
    replace hc := hc.drop k1
    replace hc := hc.drop k0
    exact fnOut1 (by simp) rfl Tryz.results6 hf hc (show look _ 8 = _ from rfl) ⟨rfl,hc⟩
   ·replace hF := condF hb hF
    clear hb
    refine wp_skip ?_
    refine h29 _ _ ?_
    refine wp_seq_k fun K32 h32 => wp_seq_k fun K33 h33 => cReg ?_
    refine stP hf rfl rfl rfl (pM rfl) fun a hf => stP hf rfl rfl rfl (pFA fa_31_3 rfl) fun a hf => stE hf hc rfl rfl rfl (eLd1 sc_3 rfl (cell_box m0 rfl)) fun a w hf hc => stP hf rfl rfl rfl (pGt rfl rfl) fun a hf => stP hf rfl rfl rfl (pM rfl) fun a hf => stCut 8 (fun a w => Has 325 a [(9,.slice (some ⟨g,0,none⟩) r_1.1.length c_4),(10,.pointer (some ⟨b_2,0,none⟩)),(12,.slice (some ⟨g_1,0,none⟩) r_3.1.length c_5),(14,.slice p_3 r_4.1.length c_3),(16,.int .i64 r_5.1),(17,.int .i64 r_5.2.1),(22,.int .i64 x),(23,.pointer (some ⟨b_4,0,none⟩)),(101,.slice (some ⟨g,0,none⟩) r_1.1.length c_4),(102,.int .i64 ((r_1.1.length : Nat) : Int)),(103,.int .i64 x),(19,.int .i64 (max (W (a_1 + e_1.Way.Lo)) e_1.Open)),(20,.int .i64 (max (W (b_3 + e_1.Way.Hi)) e_1.Open)),(21,.int .i64 (max (W (c_6 + r_14.1)) e_1.Open)),(181,.int .i64 (max (W (b_3 + e_1.Way.Hi)) e_1.Open)),(182,.pointer (some ⟨b_4,5,none⟩)),(183,.int .i64 e_1.Close),(184,.bool (decide (e_1.Close < (max (W (b_3 + e_1.Way.Hi)) e_1.Open)))),(185,.bool (decide (e_1.Close < (max (W (b_3 + e_1.Way.Hi)) e_1.Open)))),(193,.bool ((decide (e_1.Close < (max (W (b_3 + e_1.Way.Hi)) e_1.Open))) && ((r_5.1 == (-1)) || (decide (x < r_5.1)))))] ∧ Ctx G (.box b_4 [.int .i64 e_1.Way.Lo,.int .i64 e_1.Way.Hi,.int .i64 e_1.Work.Lo,.int .i64 e_1.Work.Hi,.int .i64 e_1.Open,.int .i64 e_1.Close] 31::.row (some ⟨g,0,none⟩) c_4 (r_1.1.map enc_crew_Visit) 31 6::.row p_3 c_3 (r_4.1.map enc_api_Span) 29 2::.row (some ⟨g_1,0,none⟩) c_5 (r_3.1.map enc_api_Span) 29 2::.box b_2 [.slice truth_p truth.length truth_c,.int .i64 r_14.2.1,.int .i64 r_14.2.2] 165::Lf) w) ?_ ?_
    ·cases hb : (decide (e_1.Close < (max (W (b_3 + e_1.Way.Hi)) e_1.Open)))
     ·rw [hb] at hf
      refine stS hf rfl rfl rfl fun a hf => stS hf rfl rfl rfl fun a hf => stS hf rfl rfl rfl fun a hf => stS hf rfl rfl rfl fun a hf => stS hf rfl rfl rfl fun a hf => stS hf rfl rfl rfl fun a hf => stS hf rfl rfl rfl fun a hf => stP hf rfl rfl rfl (pPf rfl rfl) fun a hf => cNil ⟨hf.keep ⟨rfl,rfl,rfl,rfl,rfl,rfl,rfl,rfl,rfl,rfl,rfl,rfl,rfl,rfl,rfl,rfl,rfl,rfl,rfl,rfl,trivial⟩,hc⟩
     ·rw [hb] at hf
      refine stP hf rfl rfl rfl (pM rfl) fun a hf => stP hf rfl rfl rfl (pEq rfl rfl) fun a hf => stP hf rfl rfl rfl (pM rfl) fun a hf => stCut 4 (fun a w => Has 325 a [(9,.slice (some ⟨g,0,none⟩) r_1.1.length c_4),(10,.pointer (some ⟨b_2,0,none⟩)),(12,.slice (some ⟨g_1,0,none⟩) r_3.1.length c_5),(14,.slice p_3 r_4.1.length c_3),(16,.int .i64 r_5.1),(17,.int .i64 r_5.2.1),(22,.int .i64 x),(23,.pointer (some ⟨b_4,0,none⟩)),(101,.slice (some ⟨g,0,none⟩) r_1.1.length c_4),(102,.int .i64 ((r_1.1.length : Nat) : Int)),(103,.int .i64 x),(19,.int .i64 (max (W (a_1 + e_1.Way.Lo)) e_1.Open)),(20,.int .i64 (max (W (b_3 + e_1.Way.Hi)) e_1.Open)),(21,.int .i64 (max (W (c_6 + r_14.1)) e_1.Open)),(181,.int .i64 (max (W (b_3 + e_1.Way.Hi)) e_1.Open)),(182,.pointer (some ⟨b_4,5,none⟩)),(183,.int .i64 e_1.Close),(184,.bool true),(185,.bool true),(186,.int .i64 r_5.1),(187,.bool (r_5.1 == (-1))),(188,.bool (r_5.1 == (-1))),(192,.bool ((r_5.1 == (-1)) || (decide (x < r_5.1))))] ∧ Ctx G (.box b_4 [.int .i64 e_1.Way.Lo,.int .i64 e_1.Way.Hi,.int .i64 e_1.Work.Lo,.int .i64 e_1.Work.Hi,.int .i64 e_1.Open,.int .i64 e_1.Close] 31::.row (some ⟨g,0,none⟩) c_4 (r_1.1.map enc_crew_Visit) 31 6::.row p_3 c_3 (r_4.1.map enc_api_Span) 29 2::.row (some ⟨g_1,0,none⟩) c_5 (r_3.1.map enc_api_Span) 29 2::.box b_2 [.slice truth_p truth.length truth_c,.int .i64 r_14.2.1,.int .i64 r_14.2.2] 165::Lf) w) ?_ ?_
      ·cases hb : (r_5.1 == (-1))
       ·rw [hb] at hf
        refine stP hf rfl rfl rfl (pM rfl) fun a hf => stP hf rfl rfl rfl (pM rfl) fun a hf => stP hf rfl rfl rfl (pGt rfl rfl) fun a hf => stP hf rfl rfl rfl (pPf rfl rfl) fun a hf => cNil ⟨hf.keep ⟨rfl,rfl,rfl,rfl,rfl,rfl,rfl,rfl,rfl,rfl,rfl,rfl,rfl,rfl,rfl,rfl,rfl,rfl,rfl,rfl,rfl,rfl,rfl,trivial⟩,hc⟩
       ·rw [hb] at hf
        refine stS hf rfl rfl rfl fun a hf => stS hf rfl rfl rfl fun a hf => stS hf rfl rfl rfl fun a hf => stP hf rfl rfl rfl (pPt rfl rfl) fun a hf => cNil ⟨hf.keep ⟨rfl,rfl,rfl,rfl,rfl,rfl,rfl,rfl,rfl,rfl,rfl,rfl,rfl,rfl,rfl,rfl,rfl,rfl,rfl,rfl,rfl,rfl,rfl,trivial⟩,hc⟩
      intro a w ⟨hf,hc⟩
      refine stP hf rfl rfl rfl (pPt rfl rfl) fun a hf => cNil ⟨hf.keep ⟨rfl,rfl,rfl,rfl,rfl,rfl,rfl,rfl,rfl,rfl,rfl,rfl,rfl,rfl,rfl,rfl,rfl,rfl,rfl,rfl,trivial⟩,hc⟩
    intro a w ⟨hf,hc⟩
    refine stP hf rfl rfl rfl (pM rfl) fun a hf => stCut 14 (fun a w => Has 325 a [(9,.slice (some ⟨g,0,none⟩) r_1.1.length c_4),(10,.pointer (some ⟨b_2,0,none⟩)),(12,.slice (some ⟨g_1,0,none⟩) r_3.1.length c_5),(14,.slice p_3 r_4.1.length c_3),(16,.int .i64 r_5.1),(17,.int .i64 r_5.2.1),(22,.int .i64 x),(23,.pointer (some ⟨b_4,0,none⟩)),(101,.slice (some ⟨g,0,none⟩) r_1.1.length c_4),(102,.int .i64 ((r_1.1.length : Nat) : Int)),(103,.int .i64 x),(19,.int .i64 (max (W (a_1 + e_1.Way.Lo)) e_1.Open)),(20,.int .i64 (max (W (b_3 + e_1.Way.Hi)) e_1.Open)),(21,.int .i64 (max (W (c_6 + r_14.1)) e_1.Open)),(181,.int .i64 (max (W (b_3 + e_1.Way.Hi)) e_1.Open)),(182,.pointer (some ⟨b_4,5,none⟩)),(183,.int .i64 e_1.Close),(184,.bool (decide (e_1.Close < (max (W (b_3 + e_1.Way.Hi)) e_1.Open)))),(185,.bool (decide (e_1.Close < (max (W (b_3 + e_1.Way.Hi)) e_1.Open)))),(193,.bool ((decide (e_1.Close < (max (W (b_3 + e_1.Way.Hi)) e_1.Open))) && ((r_5.1 == (-1)) || (decide (x < r_5.1))))),(194,.bool ((decide (e_1.Close < (max (W (b_3 + e_1.Way.Hi)) e_1.Open))) && ((r_5.1 == (-1)) || (decide (x < r_5.1))))),(208,.bool (((decide (e_1.Close < (max (W (b_3 + e_1.Way.Hi)) e_1.Open))) && ((r_5.1 == (-1)) || (decide (x < r_5.1)))) || ((decide (e_1.Close < (max (W (a_1 + e_1.Way.Lo)) e_1.Open))) && ((r_5.2.1 == (-1)) || (decide (x < r_5.2.1))))))] ∧ Ctx G (.box b_4 [.int .i64 e_1.Way.Lo,.int .i64 e_1.Way.Hi,.int .i64 e_1.Work.Lo,.int .i64 e_1.Work.Hi,.int .i64 e_1.Open,.int .i64 e_1.Close] 31::.row (some ⟨g,0,none⟩) c_4 (r_1.1.map enc_crew_Visit) 31 6::.row p_3 c_3 (r_4.1.map enc_api_Span) 29 2::.row (some ⟨g_1,0,none⟩) c_5 (r_3.1.map enc_api_Span) 29 2::.box b_2 [.slice truth_p truth.length truth_c,.int .i64 r_14.2.1,.int .i64 r_14.2.2] 165::Lf) w) ?_ ?_
    ·cases hb : ((decide (e_1.Close < (max (W (b_3 + e_1.Way.Hi)) e_1.Open))) && ((r_5.1 == (-1)) || (decide (x < r_5.1))))
     ·rw [hb] at hf
      refine stP hf rfl rfl rfl (pM rfl) fun a hf => stP hf rfl rfl rfl (pFA fa_31_3 rfl) fun a hf => stE hf hc rfl rfl rfl (eLd1 sc_3 rfl (cell_box m0 rfl)) fun a w hf hc => stP hf rfl rfl rfl (pGt rfl rfl) fun a hf => stP hf rfl rfl rfl (pM rfl) fun a hf => stCut 8 (fun a w => Has 325 a [(9,.slice (some ⟨g,0,none⟩) r_1.1.length c_4),(10,.pointer (some ⟨b_2,0,none⟩)),(12,.slice (some ⟨g_1,0,none⟩) r_3.1.length c_5),(14,.slice p_3 r_4.1.length c_3),(16,.int .i64 r_5.1),(17,.int .i64 r_5.2.1),(22,.int .i64 x),(23,.pointer (some ⟨b_4,0,none⟩)),(101,.slice (some ⟨g,0,none⟩) r_1.1.length c_4),(102,.int .i64 ((r_1.1.length : Nat) : Int)),(103,.int .i64 x),(19,.int .i64 (max (W (a_1 + e_1.Way.Lo)) e_1.Open)),(20,.int .i64 (max (W (b_3 + e_1.Way.Hi)) e_1.Open)),(21,.int .i64 (max (W (c_6 + r_14.1)) e_1.Open)),(181,.int .i64 (max (W (b_3 + e_1.Way.Hi)) e_1.Open)),(182,.pointer (some ⟨b_4,5,none⟩)),(183,.int .i64 e_1.Close),(184,.bool (decide (e_1.Close < (max (W (b_3 + e_1.Way.Hi)) e_1.Open)))),(185,.bool (decide (e_1.Close < (max (W (b_3 + e_1.Way.Hi)) e_1.Open)))),(193,.bool false),(194,.bool false),(195,.int .i64 (max (W (a_1 + e_1.Way.Lo)) e_1.Open)),(196,.pointer (some ⟨b_4,5,none⟩)),(197,.int .i64 e_1.Close),(198,.bool (decide (e_1.Close < (max (W (a_1 + e_1.Way.Lo)) e_1.Open)))),(199,.bool (decide (e_1.Close < (max (W (a_1 + e_1.Way.Lo)) e_1.Open)))),(207,.bool ((decide (e_1.Close < (max (W (a_1 + e_1.Way.Lo)) e_1.Open))) && ((r_5.2.1 == (-1)) || (decide (x < r_5.2.1)))))] ∧ Ctx G (.box b_4 [.int .i64 e_1.Way.Lo,.int .i64 e_1.Way.Hi,.int .i64 e_1.Work.Lo,.int .i64 e_1.Work.Hi,.int .i64 e_1.Open,.int .i64 e_1.Close] 31::.row (some ⟨g,0,none⟩) c_4 (r_1.1.map enc_crew_Visit) 31 6::.row p_3 c_3 (r_4.1.map enc_api_Span) 29 2::.row (some ⟨g_1,0,none⟩) c_5 (r_3.1.map enc_api_Span) 29 2::.box b_2 [.slice truth_p truth.length truth_c,.int .i64 r_14.2.1,.int .i64 r_14.2.2] 165::Lf) w) ?_ ?_
      ·cases hb : (decide (e_1.Close < (max (W (a_1 + e_1.Way.Lo)) e_1.Open)))
       ·rw [hb] at hf
        refine stS hf rfl rfl rfl fun a hf => stS hf rfl rfl rfl fun a hf => stS hf rfl rfl rfl fun a hf => stS hf rfl rfl rfl fun a hf => stS hf rfl rfl rfl fun a hf => stS hf rfl rfl rfl fun a hf => stS hf rfl rfl rfl fun a hf => stP hf rfl rfl rfl (pPf rfl rfl) fun a hf => cNil ⟨hf.keep ⟨rfl,rfl,rfl,rfl,rfl,rfl,rfl,rfl,rfl,rfl,rfl,rfl,rfl,rfl,rfl,rfl,rfl,rfl,rfl,rfl,rfl,rfl,rfl,rfl,rfl,rfl,rfl,trivial⟩,hc⟩
       ·rw [hb] at hf
        refine stP hf rfl rfl rfl (pM rfl) fun a hf => stP hf rfl rfl rfl (pEq rfl rfl) fun a hf => stP hf rfl rfl rfl (pM rfl) fun a hf => stCut 4 (fun a w => Has 325 a ((9,.slice (some ⟨g,0,none⟩) r_1.1.length c_4)::(10,.pointer (some ⟨b_2,0,none⟩))::(12,.slice (some ⟨g_1,0,none⟩) r_3.1.length c_5)::(14,.slice p_3 r_4.1.length c_3)::(16,.int .i64 r_5.1)::(17,.int .i64 r_5.2.1)::(22,.int .i64 x)::(23,.pointer (some ⟨b_4,0,none⟩))::(101,.slice (some ⟨g,0,none⟩) r_1.1.length c_4)::(102,.int .i64 ((r_1.1.length : Nat) : Int))::(103,.int .i64 x)::(19,.int .i64 (max (W (a_1 + e_1.Way.Lo)) e_1.Open))::(20,.int .i64 (max (W (b_3 + e_1.Way.Hi)) e_1.Open))::(21,.int .i64 (max (W (c_6 + r_14.1)) e_1.Open))::(181,.int .i64 (max (W (b_3 + e_1.Way.Hi)) e_1.Open))::(182,.pointer (some ⟨b_4,5,none⟩))::(183,.int .i64 e_1.Close)::(184,.bool (decide (e_1.Close < (max (W (b_3 + e_1.Way.Hi)) e_1.Open))))::(185,.bool (decide (e_1.Close < (max (W (b_3 + e_1.Way.Hi)) e_1.Open))))::(193,.bool false)::(194,.bool false)::(195,.int .i64 (max (W (a_1 + e_1.Way.Lo)) e_1.Open))::(196,.pointer (some ⟨b_4,5,none⟩))::(197,.int .i64 e_1.Close)::(198,.bool true)::(199,.bool true)::(200,.int .i64 r_5.2.1)::(201,.bool (r_5.2.1 == (-1)))::(202,.bool (r_5.2.1 == (-1)))::(206,.bool ((r_5.2.1 == (-1)) || (decide (x < r_5.2.1))))::[]) ∧ Ctx G (.box b_4 [.int .i64 e_1.Way.Lo,.int .i64 e_1.Way.Hi,.int .i64 e_1.Work.Lo,.int .i64 e_1.Work.Hi,.int .i64 e_1.Open,.int .i64 e_1.Close] 31::.row (some ⟨g,0,none⟩) c_4 (r_1.1.map enc_crew_Visit) 31 6::.row p_3 c_3 (r_4.1.map enc_api_Span) 29 2::.row (some ⟨g_1,0,none⟩) c_5 (r_3.1.map enc_api_Span) 29 2::.box b_2 [.slice truth_p truth.length truth_c,.int .i64 r_14.2.1,.int .i64 r_14.2.2] 165::Lf) w) ?_ ?_
        ·cases hb : (r_5.2.1 == (-1))
         ·rw [hb] at hf
          refine stP hf rfl rfl rfl (pM rfl) fun a hf => stP hf rfl rfl rfl (pM rfl) fun a hf => stP hf rfl rfl rfl (pGt rfl rfl) fun a hf => stP hf rfl rfl rfl (pPf rfl rfl) fun a hf => cNil ⟨hf.keep ⟨rfl,rfl,rfl,rfl,rfl,rfl,rfl,rfl,rfl,rfl,rfl,rfl,rfl,rfl,rfl,rfl,rfl,rfl,rfl,rfl,rfl,rfl,rfl,rfl,rfl,rfl,rfl,rfl,rfl,rfl,trivial⟩,hc⟩
         ·rw [hb] at hf
          refine stS hf rfl rfl rfl fun a hf => stS hf rfl rfl rfl fun a hf => stS hf rfl rfl rfl fun a hf => stP hf rfl rfl rfl (pPt rfl rfl) fun a hf => cNil ⟨hf.keep ⟨rfl,rfl,rfl,rfl,rfl,rfl,rfl,rfl,rfl,rfl,rfl,rfl,rfl,rfl,rfl,rfl,rfl,rfl,rfl,rfl,rfl,rfl,rfl,rfl,rfl,rfl,rfl,rfl,rfl,rfl,trivial⟩,hc⟩
        intro a w ⟨hf,hc⟩
        refine stP hf rfl rfl rfl (pPt rfl rfl) fun a hf => cNil ⟨hf.keep ⟨rfl,rfl,rfl,rfl,rfl,rfl,rfl,rfl,rfl,rfl,rfl,rfl,rfl,rfl,rfl,rfl,rfl,rfl,rfl,rfl,rfl,rfl,rfl,rfl,rfl,rfl,rfl,trivial⟩,hc⟩
      intro a w ⟨hf,hc⟩
      refine stP hf rfl rfl rfl (pPf rfl rfl) fun a hf => cNil ⟨hf.keep ⟨rfl,rfl,rfl,rfl,rfl,rfl,rfl,rfl,rfl,rfl,rfl,rfl,rfl,rfl,rfl,rfl,rfl,rfl,rfl,rfl,rfl,rfl,trivial⟩,hc⟩
     ·rw [hb] at hf
      refine stS hf rfl rfl rfl fun a hf => stS hf rfl rfl rfl fun a hf => stS hf rfl rfl rfl fun a hf => stS hf rfl rfl rfl fun a hf => stS hf rfl rfl rfl fun a hf => stS hf rfl rfl rfl fun a hf => stS hf rfl rfl rfl fun a hf => stS hf rfl rfl rfl fun a hf => stS hf rfl rfl rfl fun a hf => stS hf rfl rfl rfl fun a hf => stS hf rfl rfl rfl fun a hf => stS hf rfl rfl rfl fun a hf => stS hf rfl rfl rfl fun a hf => ?_
      refine stP hf rfl rfl rfl (pPt rfl rfl) fun a hf => cNil ⟨hf.keep ⟨rfl,rfl,rfl,rfl,rfl,rfl,rfl,rfl,rfl,rfl,rfl,rfl,rfl,rfl,rfl,rfl,rfl,rfl,rfl,rfl,rfl,rfl,trivial⟩,hc⟩
    intro a w ⟨hf,hc⟩
    refine stP hf rfl rfl rfl (pM rfl) fun a hf => stCut 14 (fun a w => Has 325 a [(9,.slice (some ⟨g,0,none⟩) r_1.1.length c_4),(10,.pointer (some ⟨b_2,0,none⟩)),(12,.slice (some ⟨g_1,0,none⟩) r_3.1.length c_5),(14,.slice p_3 r_4.1.length c_3),(16,.int .i64 r_5.1),(17,.int .i64 r_5.2.1),(22,.int .i64 x),(23,.pointer (some ⟨b_4,0,none⟩)),(101,.slice (some ⟨g,0,none⟩) r_1.1.length c_4),(102,.int .i64 ((r_1.1.length : Nat) : Int)),(103,.int .i64 x),(19,.int .i64 (max (W (a_1 + e_1.Way.Lo)) e_1.Open)),(20,.int .i64 (max (W (b_3 + e_1.Way.Hi)) e_1.Open)),(21,.int .i64 (max (W (c_6 + r_14.1)) e_1.Open)),(181,.int .i64 (max (W (b_3 + e_1.Way.Hi)) e_1.Open)),(182,.pointer (some ⟨b_4,5,none⟩)),(183,.int .i64 e_1.Close),(184,.bool (decide (e_1.Close < (max (W (b_3 + e_1.Way.Hi)) e_1.Open)))),(185,.bool (decide (e_1.Close < (max (W (b_3 + e_1.Way.Hi)) e_1.Open)))),(193,.bool ((decide (e_1.Close < (max (W (b_3 + e_1.Way.Hi)) e_1.Open))) && ((r_5.1 == (-1)) || (decide (x < r_5.1))))),(194,.bool ((decide (e_1.Close < (max (W (b_3 + e_1.Way.Hi)) e_1.Open))) && ((r_5.1 == (-1)) || (decide (x < r_5.1))))),(208,.bool (((decide (e_1.Close < (max (W (b_3 + e_1.Way.Hi)) e_1.Open))) && ((r_5.1 == (-1)) || (decide (x < r_5.1)))) || ((decide (e_1.Close < (max (W (a_1 + e_1.Way.Lo)) e_1.Open))) && ((r_5.2.1 == (-1)) || (decide (x < r_5.2.1)))))),(209,.bool (((decide (e_1.Close < (max (W (b_3 + e_1.Way.Hi)) e_1.Open))) && ((r_5.1 == (-1)) || (decide (x < r_5.1)))) || ((decide (e_1.Close < (max (W (a_1 + e_1.Way.Lo)) e_1.Open))) && ((r_5.2.1 == (-1)) || (decide (x < r_5.2.1)))))),(223,.bool ((((decide (e_1.Close < (max (W (b_3 + e_1.Way.Hi)) e_1.Open))) && ((r_5.1 == (-1)) || (decide (x < r_5.1)))) || ((decide (e_1.Close < (max (W (a_1 + e_1.Way.Lo)) e_1.Open))) && ((r_5.2.1 == (-1)) || (decide (x < r_5.2.1))))) || ((decide (e_1.Close < (max (W (c_6 + r_14.1)) e_1.Open))) && ((r_5.1 == (-1)) || (decide (x < r_5.1))))))] ∧ Ctx G (.box b_4 [.int .i64 e_1.Way.Lo,.int .i64 e_1.Way.Hi,.int .i64 e_1.Work.Lo,.int .i64 e_1.Work.Hi,.int .i64 e_1.Open,.int .i64 e_1.Close] 31::.row (some ⟨g,0,none⟩) c_4 (r_1.1.map enc_crew_Visit) 31 6::.row p_3 c_3 (r_4.1.map enc_api_Span) 29 2::.row (some ⟨g_1,0,none⟩) c_5 (r_3.1.map enc_api_Span) 29 2::.box b_2 [.slice truth_p truth.length truth_c,.int .i64 r_14.2.1,.int .i64 r_14.2.2] 165::Lf) w) ?_ ?_
    ·cases hb : (((decide (e_1.Close < (max (W (b_3 + e_1.Way.Hi)) e_1.Open))) && ((r_5.1 == (-1)) || (decide (x < r_5.1)))) || ((decide (e_1.Close < (max (W (a_1 + e_1.Way.Lo)) e_1.Open))) && ((r_5.2.1 == (-1)) || (decide (x < r_5.2.1)))))
     ·rw [hb] at hf
      refine stP hf rfl rfl rfl (pM rfl) fun a hf => stP hf rfl rfl rfl (pFA fa_31_3 rfl) fun a hf => stE hf hc rfl rfl rfl (eLd1 sc_3 rfl (cell_box m0 rfl)) fun a w hf hc => stP hf rfl rfl rfl (pGt rfl rfl) fun a hf => stP hf rfl rfl rfl (pM rfl) fun a hf => stCut 8 (fun a w => Has 325 a [(9,.slice (some ⟨g,0,none⟩) r_1.1.length c_4),(10,.pointer (some ⟨b_2,0,none⟩)),(12,.slice (some ⟨g_1,0,none⟩) r_3.1.length c_5),(14,.slice p_3 r_4.1.length c_3),(16,.int .i64 r_5.1),(17,.int .i64 r_5.2.1),(22,.int .i64 x),(23,.pointer (some ⟨b_4,0,none⟩)),(101,.slice (some ⟨g,0,none⟩) r_1.1.length c_4),(102,.int .i64 ((r_1.1.length : Nat) : Int)),(103,.int .i64 x),(19,.int .i64 (max (W (a_1 + e_1.Way.Lo)) e_1.Open)),(20,.int .i64 (max (W (b_3 + e_1.Way.Hi)) e_1.Open)),(21,.int .i64 (max (W (c_6 + r_14.1)) e_1.Open)),(181,.int .i64 (max (W (b_3 + e_1.Way.Hi)) e_1.Open)),(182,.pointer (some ⟨b_4,5,none⟩)),(183,.int .i64 e_1.Close),(184,.bool (decide (e_1.Close < (max (W (b_3 + e_1.Way.Hi)) e_1.Open)))),(185,.bool (decide (e_1.Close < (max (W (b_3 + e_1.Way.Hi)) e_1.Open)))),(193,.bool ((decide (e_1.Close < (max (W (b_3 + e_1.Way.Hi)) e_1.Open))) && ((r_5.1 == (-1)) || (decide (x < r_5.1))))),(194,.bool ((decide (e_1.Close < (max (W (b_3 + e_1.Way.Hi)) e_1.Open))) && ((r_5.1 == (-1)) || (decide (x < r_5.1))))),(208,.bool false),(209,.bool false),(210,.int .i64 (max (W (c_6 + r_14.1)) e_1.Open)),(211,.pointer (some ⟨b_4,5,none⟩)),(212,.int .i64 e_1.Close),(213,.bool (decide (e_1.Close < (max (W (c_6 + r_14.1)) e_1.Open)))),(214,.bool (decide (e_1.Close < (max (W (c_6 + r_14.1)) e_1.Open)))),(222,.bool ((decide (e_1.Close < (max (W (c_6 + r_14.1)) e_1.Open))) && ((r_5.1 == (-1)) || (decide (x < r_5.1)))))] ∧ Ctx G (.box b_4 [.int .i64 e_1.Way.Lo,.int .i64 e_1.Way.Hi,.int .i64 e_1.Work.Lo,.int .i64 e_1.Work.Hi,.int .i64 e_1.Open,.int .i64 e_1.Close] 31::.row (some ⟨g,0,none⟩) c_4 (r_1.1.map enc_crew_Visit) 31 6::.row p_3 c_3 (r_4.1.map enc_api_Span) 29 2::.row (some ⟨g_1,0,none⟩) c_5 (r_3.1.map enc_api_Span) 29 2::.box b_2 [.slice truth_p truth.length truth_c,.int .i64 r_14.2.1,.int .i64 r_14.2.2] 165::Lf) w) ?_ ?_
      ·cases hb : (decide (e_1.Close < (max (W (c_6 + r_14.1)) e_1.Open)))
       ·rw [hb] at hf
        refine stS hf rfl rfl rfl fun a hf => stS hf rfl rfl rfl fun a hf => stS hf rfl rfl rfl fun a hf => stS hf rfl rfl rfl fun a hf => stS hf rfl rfl rfl fun a hf => stS hf rfl rfl rfl fun a hf => stS hf rfl rfl rfl fun a hf => stP hf rfl rfl rfl (pPf rfl rfl) fun a hf => cNil ⟨hf.keep ⟨rfl,rfl,rfl,rfl,rfl,rfl,rfl,rfl,rfl,rfl,rfl,rfl,rfl,rfl,rfl,rfl,rfl,rfl,rfl,rfl,rfl,rfl,rfl,rfl,rfl,rfl,rfl,rfl,rfl,trivial⟩,hc⟩
       ·rw [hb] at hf
        refine stP hf rfl rfl rfl (pM rfl) fun a hf => stP hf rfl rfl rfl (pEq rfl rfl) fun a hf => stP hf rfl rfl rfl (pM rfl) fun a hf => stCut 4 (fun a w => Has 325 a ((9,.slice (some ⟨g,0,none⟩) r_1.1.length c_4)::(10,.pointer (some ⟨b_2,0,none⟩))::(12,.slice (some ⟨g_1,0,none⟩) r_3.1.length c_5)::(14,.slice p_3 r_4.1.length c_3)::(16,.int .i64 r_5.1)::(17,.int .i64 r_5.2.1)::(22,.int .i64 x)::(23,.pointer (some ⟨b_4,0,none⟩))::(101,.slice (some ⟨g,0,none⟩) r_1.1.length c_4)::(102,.int .i64 ((r_1.1.length : Nat) : Int))::(103,.int .i64 x)::(19,.int .i64 (max (W (a_1 + e_1.Way.Lo)) e_1.Open))::(20,.int .i64 (max (W (b_3 + e_1.Way.Hi)) e_1.Open))::(21,.int .i64 (max (W (c_6 + r_14.1)) e_1.Open))::(181,.int .i64 (max (W (b_3 + e_1.Way.Hi)) e_1.Open))::(182,.pointer (some ⟨b_4,5,none⟩))::(183,.int .i64 e_1.Close)::(184,.bool (decide (e_1.Close < (max (W (b_3 + e_1.Way.Hi)) e_1.Open))))::(185,.bool (decide (e_1.Close < (max (W (b_3 + e_1.Way.Hi)) e_1.Open))))::(193,.bool ((decide (e_1.Close < (max (W (b_3 + e_1.Way.Hi)) e_1.Open))) && ((r_5.1 == (-1)) || (decide (x < r_5.1)))))::(194,.bool ((decide (e_1.Close < (max (W (b_3 + e_1.Way.Hi)) e_1.Open))) && ((r_5.1 == (-1)) || (decide (x < r_5.1)))))::(208,.bool false)::(209,.bool false)::(210,.int .i64 (max (W (c_6 + r_14.1)) e_1.Open))::(211,.pointer (some ⟨b_4,5,none⟩))::(212,.int .i64 e_1.Close)::(213,.bool true)::(214,.bool true)::(215,.int .i64 r_5.1)::(216,.bool (r_5.1 == (-1)))::(217,.bool (r_5.1 == (-1)))::(221,.bool ((r_5.1 == (-1)) || (decide (x < r_5.1))))::[]) ∧ Ctx G (.box b_4 [.int .i64 e_1.Way.Lo,.int .i64 e_1.Way.Hi,.int .i64 e_1.Work.Lo,.int .i64 e_1.Work.Hi,.int .i64 e_1.Open,.int .i64 e_1.Close] 31::.row (some ⟨g,0,none⟩) c_4 (r_1.1.map enc_crew_Visit) 31 6::.row p_3 c_3 (r_4.1.map enc_api_Span) 29 2::.row (some ⟨g_1,0,none⟩) c_5 (r_3.1.map enc_api_Span) 29 2::.box b_2 [.slice truth_p truth.length truth_c,.int .i64 r_14.2.1,.int .i64 r_14.2.2] 165::Lf) w) ?_ ?_
        ·cases hb : (r_5.1 == (-1))
         ·rw [hb] at hf
          refine stP hf rfl rfl rfl (pM rfl) fun a hf => stP hf rfl rfl rfl (pM rfl) fun a hf => stP hf rfl rfl rfl (pGt rfl rfl) fun a hf => stP hf rfl rfl rfl (pPf rfl rfl) fun a hf => cNil ⟨hf.keep ⟨rfl,rfl,rfl,rfl,rfl,rfl,rfl,rfl,rfl,rfl,rfl,rfl,rfl,rfl,rfl,rfl,rfl,rfl,rfl,rfl,rfl,rfl,rfl,rfl,rfl,rfl,rfl,rfl,rfl,rfl,rfl,rfl,trivial⟩,hc⟩
         ·rw [hb] at hf
          refine stS hf rfl rfl rfl fun a hf => stS hf rfl rfl rfl fun a hf => stS hf rfl rfl rfl fun a hf => stP hf rfl rfl rfl (pPt rfl rfl) fun a hf => cNil ⟨hf.keep ⟨rfl,rfl,rfl,rfl,rfl,rfl,rfl,rfl,rfl,rfl,rfl,rfl,rfl,rfl,rfl,rfl,rfl,rfl,rfl,rfl,rfl,rfl,rfl,rfl,rfl,rfl,rfl,rfl,rfl,rfl,rfl,rfl,trivial⟩,hc⟩
        intro a w ⟨hf,hc⟩
        refine stP hf rfl rfl rfl (pPt rfl rfl) fun a hf => cNil ⟨hf.keep ⟨rfl,rfl,rfl,rfl,rfl,rfl,rfl,rfl,rfl,rfl,rfl,rfl,rfl,rfl,rfl,rfl,rfl,rfl,rfl,rfl,rfl,rfl,rfl,rfl,rfl,rfl,rfl,rfl,rfl,trivial⟩,hc⟩
      intro a w ⟨hf,hc⟩
      refine stP hf rfl rfl rfl (pPf rfl rfl) fun a hf => cNil ⟨hf.keep ⟨rfl,rfl,rfl,rfl,rfl,rfl,rfl,rfl,rfl,rfl,rfl,rfl,rfl,rfl,rfl,rfl,rfl,rfl,rfl,rfl,rfl,rfl,rfl,rfl,trivial⟩,hc⟩
     ·rw [hb] at hf
      refine stS hf rfl rfl rfl fun a hf => stS hf rfl rfl rfl fun a hf => stS hf rfl rfl rfl fun a hf => stS hf rfl rfl rfl fun a hf => stS hf rfl rfl rfl fun a hf => stS hf rfl rfl rfl fun a hf => stS hf rfl rfl rfl fun a hf => stS hf rfl rfl rfl fun a hf => stS hf rfl rfl rfl fun a hf => stS hf rfl rfl rfl fun a hf => stS hf rfl rfl rfl fun a hf => stS hf rfl rfl rfl fun a hf => stS hf rfl rfl rfl fun a hf => ?_
      refine stP hf rfl rfl rfl (pPt rfl rfl) fun a hf => cNil ⟨hf.keep ⟨rfl,rfl,rfl,rfl,rfl,rfl,rfl,rfl,rfl,rfl,rfl,rfl,rfl,rfl,rfl,rfl,rfl,rfl,rfl,rfl,rfl,rfl,rfl,rfl,trivial⟩,hc⟩
    intro a w ⟨hf,hc⟩
    refine cNil ?_
    refine h33 _ _ ?_
    refine cCond (b := ((((decide (e_1.Close < (max (W (b_3 + e_1.Way.Hi)) e_1.Open))) && ((r_5.1 == (-1)) || (decide (x < r_5.1)))) || ((decide (e_1.Close < (max (W (a_1 + e_1.Way.Lo)) e_1.Open))) && ((r_5.2.1 == (-1)) || (decide (x < r_5.2.1))))) || ((decide (e_1.Close < (max (W (c_6 + r_14.1)) e_1.Open))) && ((r_5.1 == (-1)) || (decide (x < r_5.1)))))) hf rfl (fun hb => ?_) (fun hb => ?_)
    ·replace hF := condT hb hF
     clear hb
     refine wp_seq_k fun K34 h34 => cReg ?_
     refine stP hf rfl rfl rfl (pA rfl) fun a hf => cNil ?_
     refine h34 _ _ ?_
     refine wp_ret ?_
     refine xThenR ?_
     refine xBlkR ?_
     refine xThenR ?_
     refine xThenR ?_
     have he := Option.some.inj hF
     rw [← he] at hfin14
     replace hF := ho14 _ hfin14
     refine xBlkR ?_
     refine xThenR ?_
     obtain rfl := hF
     replace hc := hc.drop k4
     replace hc := hc.drop k3
     replace hc := hc.drop k2
     replace hc := hc.drop k1
     replace hc := hc.drop k0
     exact fnOut1 (by simp) rfl Tryz.results6 hf hc (show look _ 8 = _ from rfl) ⟨rfl,hc⟩
    ·replace hF := condF hb hF
     clear hb
     refine wp_skip ?_
     refine h32 _ _ ?_
     obtain ⟨r_16,hr_16,hF⟩ := bnd_some hF
     refine regionE (fun θ => (⟨none,none,9,.slice (some ⟨g,0,none⟩) r_1.1.length c_4⟩::⟨none,none,10,.pointer (some ⟨b_2,0,none⟩)⟩::⟨none,none,12,.slice (some ⟨g_1,0,none⟩) r_3.1.length c_5⟩::⟨none,none,14,.slice p_3 r_4.1.length c_3⟩::⟨none,none,16,.int .i64 r_5.1⟩::⟨none,none,17,.int .i64 r_5.2.1⟩::⟨none,some 20,19,.int .i64 (max (W (a_1 + e_1.Way.Lo)) e_1.Open)⟩::⟨none,some 21,20,.int .i64 (max (W (b_3 + e_1.Way.Hi)) e_1.Open)⟩::⟨none,some 22,21,.int .i64 (max (W (c_6 + r_14.1)) e_1.Open)⟩::⟨none,none,23,.pointer (some ⟨b_4,0,none⟩)⟩::⟨none,none,101,.slice (some ⟨g,0,none⟩) r_1.1.length c_4⟩::⟨none,none,102,.int .i64 ((r_1.1.length : Nat) : Int)⟩::⟨none,none,103,.int .i64 x⟩::⟨some 0,none,224,.int .i64 (max (W (a_1 + e_1.Way.Lo)) e_1.Open)⟩::⟨some 1,none,225,.pointer (some ⟨b_4,2,none⟩)⟩::⟨some 2,none,226,.pointer (some ⟨b_4,2,none⟩)⟩::⟨some 3,none,227,.int .i64 e_1.Work.Lo⟩::⟨some 4,none,228,.int .i64 (W ((max (W (a_1 + e_1.Way.Lo)) e_1.Open) + e_1.Work.Lo))⟩::⟨some 5,none,229,.int .i64 (max (W (b_3 + e_1.Way.Hi)) e_1.Open)⟩::⟨some 6,none,230,.pointer (some ⟨b_4,2,none⟩)⟩::⟨some 7,none,231,.pointer (some ⟨b_4,3,none⟩)⟩::⟨some 8,none,232,.int .i64 e_1.Work.Hi⟩::⟨some 9,none,233,.int .i64 (W ((max (W (b_3 + e_1.Way.Hi)) e_1.Open) + e_1.Work.Hi))⟩::⟨some 10,none,234,.int .i64 (max (W (c_6 + r_14.1)) e_1.Open)⟩::⟨some 11,none,235,.pointer (some ⟨b_2,0,none⟩)⟩::⟨some 12,none,236,.pointer (some ⟨b_4,2,none⟩)⟩::⟨some 13,none,237,.pointer (some ⟨b_4,2,none⟩)⟩::⟨some 14,none,238,.int .i64 e_1.Work.Lo⟩::⟨some 15,none,239,.pointer (some ⟨b_4,2,none⟩)⟩::⟨some 16,none,240,.pointer (some ⟨b_4,3,none⟩)⟩::⟨some 17,none,241,.int .i64 e_1.Work.Hi⟩::⟨some 18,none,242,.int .i64 r_16.1⟩::⟨some 19,none,243,.int .i64 (W ((max (W (c_6 + r_14.1)) e_1.Open) + r_16.1))⟩::⟨some 20,none,19,.int .i64 (W ((max (W (a_1 + e_1.Way.Lo)) e_1.Open) + e_1.Work.Lo))⟩::⟨some 21,none,20,.int .i64 (W ((max (W (b_3 + e_1.Way.Hi)) e_1.Open) + e_1.Work.Hi))⟩::⟨some 22,none,21,.int .i64 (W ((max (W (c_6 + r_14.1)) e_1.Open) + r_16.1))⟩::[])) (fun E θ => .box b_4 [.int .i64 e_1.Way.Lo,.int .i64 e_1.Way.Hi,.int .i64 e_1.Work.Lo,.int .i64 e_1.Work.Hi,.int .i64 e_1.Open,.int .i64 e_1.Close] 31::.row (some ⟨g,0,none⟩) c_4 (r_1.1.map enc_crew_Visit) 31 6::.row p_3 c_3 (r_4.1.map enc_api_Span) 29 2::.row (some ⟨g_1,0,none⟩) c_5 (r_3.1.map enc_api_Span) 29 2::(bif E 18 then .box b_2 [.slice truth_p truth.length truth_c,.int .i64 r_16.2.1,.int .i64 r_16.2.2] 165 else .box b_2 [.slice truth_p truth.length truth_c,.int .i64 r_14.2.1,.int .i64 r_14.2.2] 165)::Lf) [(20,0),(21,5),(22,10)] (fun a w => Has 325 a [(9,.slice (some ⟨g,0,none⟩) r_1.1.length c_4),(10,.pointer (some ⟨b_2,0,none⟩)),(12,.slice (some ⟨g_1,0,none⟩) r_3.1.length c_5),(14,.slice p_3 r_4.1.length c_3),(16,.int .i64 r_5.1),(17,.int .i64 r_5.2.1),(101,.slice (some ⟨g,0,none⟩) r_1.1.length c_4),(102,.int .i64 ((r_1.1.length : Nat) : Int)),(103,.int .i64 x),(19,.int .i64 (W ((max (W (a_1 + e_1.Way.Lo)) e_1.Open) + e_1.Work.Lo))),(20,.int .i64 (W ((max (W (b_3 + e_1.Way.Hi)) e_1.Open) + e_1.Work.Hi))),(21,.int .i64 (W ((max (W (c_6 + r_14.1)) e_1.Open) + r_16.1)))] ∧ Ctx G (.box b_4 [.int .i64 e_1.Way.Lo,.int .i64 e_1.Way.Hi,.int .i64 e_1.Work.Lo,.int .i64 e_1.Work.Hi,.int .i64 e_1.Open,.int .i64 e_1.Close] 31::.row (some ⟨g,0,none⟩) c_4 (r_1.1.map enc_crew_Visit) 31 6::.row p_3 c_3 (r_4.1.map enc_api_Span) 29 2::.row (some ⟨g_1,0,none⟩) c_5 (r_3.1.map enc_api_Span) 29 2::.box b_2 [.slice truth_p truth.length truth_c,.int .i64 r_16.2.1,.int .i64 r_16.2.2] 165::Lf) w) follows_mx (by kernel_rfl) (by kernel_rfl) (HasE.of hf ⟨rfl,rfl,rfl,rfl,rfl,rfl,rfl,rfl,rfl,rfl,rfl,rfl,rfl,trivial,trivial,trivial,trivial,trivial,trivial,trivial,trivial,trivial,trivial,trivial,trivial,trivial,trivial,trivial,trivial,trivial,trivial,trivial,trivial,trivial,trivial,trivial,trivial⟩) hc ⟨?_,?_,?_,?_,?_,?_,?_,?_,?_,?_,?_,?_,?_,?_,?_,?_,?_,?_,?_,?_,?_,?_,?_,trivial⟩ ?_ ?_
     ·intro E θ a w hD hi hp he hc
      have e20 := hD.f 0 rfl hi
      have hf := he.h0
      replace hf := hf.more he 6 rfl (onN e20)
      refine stP hf rfl rfl rfl (pM rfl) fun a hf => cNil ?_
      refine xThenN ?_
      intro ds u hau
      refine ⟨θ,he.put0 hi hau hf rfl 13 rfl rfl,?_⟩
      exact hc
     ·intro E θ a w hD hi hp he hc
      have hf := he.h0
      replace hf := hf.more he 9 rfl onT
      refine stP hf rfl rfl rfl (pFA fa_31_1 rfl) fun a hf => cNil ?_
      refine xThenN ?_
      intro ds u hau
      refine ⟨θ,he.put0 hi hau hf rfl 14 rfl rfl,?_⟩
      exact hc
     ·intro E θ a w hD hi hp he hc
      have e1 := hp.of (k := 1) rfl
      have hf := he.h0
      replace hf := hf.more he 14 rfl (onP e1)
      refine stP hf rfl rfl rfl (pFA fa_29_0 rfl) fun a hf => cNil ?_
      refine xThenN ?_
      intro ds u hau
      refine ⟨θ,he.put0 hi hau hf rfl 15 rfl rfl,?_⟩
      exact hc
     ·intro E θ a w hD hi hp he hc
      have e2 := hp.of (k := 2) rfl
      have hf := he.h0
      replace hf := hf.more he 15 rfl (onP e2)
      refine stE hf hc rfl rfl rfl (eLd1 sc_3 rfl (cell_box m0 rfl)) fun a w hf hc => cNil ?_
      refine xThenN ?_
      intro ds u hau
      refine ⟨θ,he.put0 hi hau hf rfl 16 rfl rfl,?_⟩
      exact hc
     ·intro E θ a w hD hi hp he hc
      have e0 := hp.of (k := 0) rfl
      have e3 := hp.of (k := 3) rfl
      have hf := he.h0
      replace hf := hf.more he 13 rfl (onP e0)
      replace hf := hf.more he 16 rfl (onP e3)
      refine stP hf rfl rfl rfl (pAdd rfl rfl) fun a hf => cNil ?_
      refine xThenN ?_
      intro ds u hau
      refine ⟨θ,he.put0 hi hau hf rfl 17 rfl rfl,?_⟩
      exact hc
     ·intro E θ a w hD hi hp he hc
      have e21 := hD.f 1 rfl hi
      have hf := he.h0
      replace hf := hf.more he 7 rfl (onN e21)
      refine stP hf rfl rfl rfl (pM rfl) fun a hf => cNil ?_
      refine xThenN ?_
      intro ds u hau
      refine ⟨θ,he.put0 hi hau hf rfl 18 rfl rfl,?_⟩
      exact hc
     ·intro E θ a w hD hi hp he hc
      have hf := he.h0
      replace hf := hf.more he 9 rfl onT
      refine stP hf rfl rfl rfl (pFA fa_31_1 rfl) fun a hf => cNil ?_
      refine xThenN ?_
      intro ds u hau
      refine ⟨θ,he.put0 hi hau hf rfl 19 rfl rfl,?_⟩
      exact hc
     ·intro E θ a w hD hi hp he hc
      have e6 := hp.of (k := 6) rfl
      have hf := he.h0
      replace hf := hf.more he 19 rfl (onP e6)
      refine stP hf rfl rfl rfl (pFA fa_29_1 rfl) fun a hf => cNil ?_
      refine xThenN ?_
      intro ds u hau
      refine ⟨θ,he.put0 hi hau hf rfl 20 rfl rfl,?_⟩
      exact hc
     ·intro E θ a w hD hi hp he hc
      have e7 := hp.of (k := 7) rfl
      have hf := he.h0
      replace hf := hf.more he 20 rfl (onP e7)
      refine stE hf hc rfl rfl rfl (eLd1 sc_3 rfl (cell_box m0 rfl)) fun a w hf hc => cNil ?_
      refine xThenN ?_
      intro ds u hau
      refine ⟨θ,he.put0 hi hau hf rfl 21 rfl rfl,?_⟩
      exact hc
     ·intro E θ a w hD hi hp he hc
      have e5 := hp.of (k := 5) rfl
      have e8 := hp.of (k := 8) rfl
      have hf := he.h0
      replace hf := hf.more he 18 rfl (onP e5)
      replace hf := hf.more he 21 rfl (onP e8)
      refine stP hf rfl rfl rfl (pAdd rfl rfl) fun a hf => cNil ?_
      refine xThenN ?_
      intro ds u hau
      refine ⟨θ,he.put0 hi hau hf rfl 22 rfl rfl,?_⟩
      exact hc
     ·intro E θ a w hD hi hp he hc
      have e22 := hD.f 2 rfl hi
      have hf := he.h0
      replace hf := hf.more he 8 rfl (onN e22)
      refine stP hf rfl rfl rfl (pM rfl) fun a hf => cNil ?_
      refine xThenN ?_
      intro ds u hau
      refine ⟨θ,he.put0 hi hau hf rfl 23 rfl rfl,?_⟩
      exact hc
     ·intro E θ a w hD hi hp he hc
      have hf := he.h0
      replace hf := hf.more he 1 rfl onT
      refine stP hf rfl rfl rfl (pM rfl) fun a hf => cNil ?_
      refine xThenN ?_
      intro ds u hau
      refine ⟨θ,he.put0 hi hau hf rfl 24 rfl rfl,?_⟩
      exact hc
     ·intro E θ a w hD hi hp he hc
      have hf := he.h0
      replace hf := hf.more he 9 rfl onT
      refine stP hf rfl rfl rfl (pFA fa_31_1 rfl) fun a hf => cNil ?_
      refine xThenN ?_
      intro ds u hau
      refine ⟨θ,he.put0 hi hau hf rfl 25 rfl rfl,?_⟩
      exact hc
     ·intro E θ a w hD hi hp he hc
      have e12 := hp.of (k := 12) rfl
      have hf := he.h0
      replace hf := hf.more he 25 rfl (onP e12)
      refine stP hf rfl rfl rfl (pFA fa_29_0 rfl) fun a hf => cNil ?_
      refine xThenN ?_
      intro ds u hau
      refine ⟨θ,he.put0 hi hau hf rfl 26 rfl rfl,?_⟩
      exact hc
     ·intro E θ a w hD hi hp he hc
      have e13 := hp.of (k := 13) rfl
      have hf := he.h0
      replace hf := hf.more he 26 rfl (onP e13)
      refine stE hf hc rfl rfl rfl (eLd1 sc_3 rfl (cell_box m0 rfl)) fun a w hf hc => cNil ?_
      refine xThenN ?_
      intro ds u hau
      refine ⟨θ,he.put0 hi hau hf rfl 27 rfl rfl,?_⟩
      exact hc
     ·intro E θ a w hD hi hp he hc
      have hf := he.h0
      replace hf := hf.more he 9 rfl onT
      refine stP hf rfl rfl rfl (pFA fa_31_1 rfl) fun a hf => cNil ?_
      refine xThenN ?_
      intro ds u hau
      refine ⟨θ,he.put0 hi hau hf rfl 28 rfl rfl,?_⟩
      exact hc
     ·intro E θ a w hD hi hp he hc
      have e15 := hp.of (k := 15) rfl
      have hf := he.h0
      replace hf := hf.more he 28 rfl (onP e15)
      refine stP hf rfl rfl rfl (pFA fa_29_1 rfl) fun a hf => cNil ?_
      refine xThenN ?_
      intro ds u hau
      refine ⟨θ,he.put0 hi hau hf rfl 29 rfl rfl,?_⟩
      exact hc
     ·intro E θ a w hD hi hp he hc
      have e16 := hp.of (k := 16) rfl
      have hf := he.h0
      replace hf := hf.more he 29 rfl (onP e16)
      refine stE hf hc rfl rfl rfl (eLd1 sc_3 rfl (cell_box m0 rfl)) fun a w hf hc => cNil ?_
      refine xThenN ?_
      intro ds u hau
      refine ⟨θ,he.put0 hi hau hf rfl 30 rfl rfl,?_⟩
      exact hc
     ·intro E θ a w hD hi hp he hc
      have e11 := hp.of (k := 11) rfl
      have e14 := hp.of (k := 14) rfl
      have e17 := hp.of (k := 17) rfl
      try dsimp only at hc
      rw [hi] at hc
      have hf := he.h0
      replace hf := hf.more he 24 rfl (onP e11)
      replace hf := hf.more he 27 rfl (onP e14)
      replace hf := hf.more he 30 rfl (onP e17)
      refine stC (vs := [.pointer (some ⟨b_2,0,none⟩),.int .i64 e_1.Work.Lo,.int .i64 e_1.Work.Hi]) (caps := []) hf rfl rfl rfl en_50 rfl rfl rfl rfl (kit_Stream_Within_ok (⟨truth,r_14.2.1,r_14.2.2⟩ : kit_Stream) e_1.Work.Lo e_1.Work.Hi h_truth (hc.pick k4) hr_16) ?_
      rintro _ w ⟨rfl,hc⟩
      refine ⟨_,rfl,fun a hf => ?_⟩
      refine cNil ?_
      refine xThenN ?_
      intro ds u hau
      replace hc := hc.pick k0
      replace hc := hc.pick k4
      replace hc := hc.pick k4
      replace hc := hc.pick k4
      replace hc := hc.pick k4
      refine ⟨θ,he.put0 hi hau hf rfl 31 rfl rfl,?_⟩
      try dsimp only
      rw [updE_self E 18]
      exact hc
     ·intro E θ a w hD hi hp he hc
      have e10 := hp.of (k := 10) rfl
      have e18 := hp.of (k := 18) rfl
      have hf := he.h0
      replace hf := hf.more he 23 rfl (onP e10)
      replace hf := hf.more he 31 rfl (onP e18)
      refine stP hf rfl rfl rfl (pAdd rfl rfl) fun a hf => cNil ?_
      refine xThenN ?_
      intro ds u hau
      refine ⟨θ,he.put0 hi hau hf rfl 32 rfl rfl,?_⟩
      exact hc
     ·intro E θ a w hD hi hp he hc
      have e4 := hp.of (k := 4) rfl
      have hf := he.h0
      replace hf := hf.more he 17 rfl (onP e4)
      refine stP hf rfl rfl rfl (pA rfl) fun a hf => cNil ?_
      refine xThenN ?_
      intro ds u hau
      refine ⟨θ,he.put0 hi hau hf rfl 33 rfl rfl,?_⟩
      exact hc
     ·intro E θ a w hD hi hp he hc
      have e9 := hp.of (k := 9) rfl
      have hf := he.h0
      replace hf := hf.more he 22 rfl (onP e9)
      refine stP hf rfl rfl rfl (pA rfl) fun a hf => cNil ?_
      refine xThenN ?_
      intro ds u hau
      refine ⟨θ,he.put0 hi hau hf rfl 34 rfl rfl,?_⟩
      exact hc
     ·intro E θ a w hD hi hp he hc
      have e19 := hp.of (k := 19) rfl
      have hf := he.h0
      replace hf := hf.more he 32 rfl (onP e19)
      refine stP hf rfl rfl rfl (pA rfl) fun a hf => cNil ?_
      refine xThenN ?_
      intro ds u hau
      refine ⟨θ,he.put0 hi hau hf rfl 35 rfl rfl,?_⟩
      exact hc
     ·intro E θ a w hall he hc
      have hf := he.h0
      have e18 := hall 18 rfl
      have e20 := hall 20 rfl
      have e21 := hall 21 rfl
      have e22 := hall 22 rfl
      replace hf := hf.more he 35 rfl (onP e22)
      replace hf := hf.more he 34 rfl (onP e21)
      replace hf := hf.more he 33 rfl (onP e20)
      replace hf := hf.more he 12 rfl (onT)
      replace hf := hf.more he 11 rfl (onT)
      replace hf := hf.more he 10 rfl (onT)
      replace hf := hf.more he 5 rfl (onT)
      replace hf := hf.more he 4 rfl (onT)
      replace hf := hf.more he 3 rfl (onT)
      replace hf := hf.more he 2 rfl (onT)
      replace hf := hf.more he 1 rfl (onT)
      replace hf := hf.more he 0 rfl (onT)
      try dsimp only at hc
      rw [e18] at hc
      exact ⟨hf.keep ⟨rfl,rfl,rfl,rfl,rfl,rfl,rfl,rfl,rfl,rfl,rfl,rfl,trivial⟩,hc⟩
     rintro a w ⟨hf,hc⟩
     refine h26 _ _ ?_
     refine cReg ?_
     refine stP hf rfl rfl rfl (pAdd rfl rfl) fun a hf => stP hf rfl rfl rfl (pM rfl) fun a hf => cNil ?_
     replace hc := hc.drop k0
     exact hK14 (W ((max (W (a_1 + e_1.Way.Lo)) e_1.Open) + e_1.Work.Lo),W ((max (W (b_3 + e_1.Way.Hi)) e_1.Open) + e_1.Work.Hi),W ((max (W (c_6 + r_14.1)) e_1.Open) + r_16.1),W (x + 1),r_16.2.1,r_16.2.2) _ _ (Option.some.inj hF).symm ⟨(some ⟨g,0,none⟩),c_4,(some ⟨g_1,0,none⟩),c_5,hf.keep ⟨rfl,rfl,rfl,rfl,rfl,rfl,rfl,rfl,rfl,rfl,rfl,rfl,trivial⟩,hc⟩
  ·replace hF := condF hb hF
   clear hb
   refine wp_exit ?_
   refine xThen ?_
   refine xThen ?_
   have he := Option.some.inj hF
   rw [← he] at hfin14
   refine cHit ?_
   exact hr14 _ _ _ hfin14 ⟨p_4,c_4,p_5,c_5,hf.keep ⟨rfl,rfl,rfl,rfl,rfl,rfl,rfl,rfl,rfl,rfl,rfl,rfl,trivial⟩,hc⟩

end Go.Nilo
