/-
 What functions of the Go text compute, as plain functions, and that they do, part 5 of 5. Conditions: what each theorem names.
-/
import Derived.Test.YtpfmkhhhamdpeaaGreatPa4
import Derived.Test.YtpfmkhhhamdpeaaGreatProg
set_option linter.unusedVariables false
set_option linter.unusedSimpArgs false
set_option maxRecDepth 100000
set_option maxHeartbeats 4000000
namespace Go.Nilo
open Go.Proofs


def law11_CrewPaid_b8 (N : Nat) (numbers : List Int) (r_1 : Int × Int × Int) (r_2 : Int × Int × Int) (r_3 : Int × Int × Int) (r_4 : Int × Int × Int) (days : List Int) (sum : Int) (x : Int) (x_1 : Int) (x_2 : Int) : Option (Step ((List Int) × Int × Int × Int × Int) (Bool)) :=
 cond (decide (x < r_4.1))
 (Option.bind (kit_Stream_Next N (⟨numbers,x_1,x_2⟩ : kit_Stream) 900) fun r_16 =>
 Option.bind (room ((days ++ [r_16.1])).length) fun un =>
 Option.bind (subO (days ++ [r_16.1]) (W ((((days ++ [r_16.1]).length : Nat) : Int) - 1)) (((days ++ [r_16.1]).length : Nat) : Int)) fun sub =>
 Option.bind (crew_Paid N (⟨r_1.1,r_2.1,r_3.1⟩ : crew_Pay) sub) fun r_17 =>
 cond (r_17.2 != 0)
 (some (.ret false))
 (some (.cont ((days ++ [r_16.1]),W (sum + r_17.1),W (x + 1),r_16.2.1,r_16.2.2))))
 (some (.brk (days,sum,x,x_1,x_2)))
def law11_CrewPaid (N : Nat) (numbers : List Int) (more : Int) : Option (Bool) :=
 Option.bind (kit_New N numbers) fun r =>
 Option.bind (kit_Stream_Next N (⟨numbers,r.1,r.2⟩ : kit_Stream) 3000) fun r_1 =>
 Option.bind (kit_Stream_Next N (⟨numbers,r_1.2.1,r_1.2.2⟩ : kit_Stream) 600) fun r_2 =>
 Option.bind (kit_Stream_Next N (⟨numbers,r_2.2.1,r_2.2.2⟩ : kit_Stream) 1001) fun r_3 =>
 Option.bind (kit_Stream_Within N (⟨numbers,r_3.2.1,r_3.2.2⟩ : kit_Stream) 1 12) fun r_4 =>
 Option.bind (loopO (fun s8 => law11_CrewPaid_b8 N numbers r_1 r_2 r_3 r_4 s8.1 s8.2.1 s8.2.2.1 s8.2.2.2.1 s8.2.2.2.2) N (([] : List Int),0,0,r_4.2.1,r_4.2.2)) fun x8 =>
 exK x8 (fun s8 => Option.bind (crew_Paid N (⟨r_1.1,r_2.1,r_3.1⟩ : crew_Pay) s8.1) fun r_5 =>
 cond (((r_5.2 != 0) || (decide (s8.2.1 < r_5.1))) || (decide (r_5.1 ≤ (W (s8.2.1 - ((s8.1.length : Nat) : Int))))))
 (some false)
 (Option.bind (kit_Stream_Next N (⟨numbers,s8.2.2.2.1,s8.2.2.2.2⟩ : kit_Stream) ((s8.1.length : Nat) : Int)) fun r_6 =>
 Option.bind (kit_Copy_int N s8.1) fun r_7 =>
 Option.bind (getI r_7 r_6.1) fun e_1 =>
 Option.bind (getI r_7 r_6.1) fun e_2 =>
 Option.bind (crew_Paid N (⟨r_1.1,r_2.1,r_3.1⟩ : crew_Pay) (r_7.set r_6.1.toNat (min 1440 (W (e_1 + (W (more))))))) fun r_8 =>
 Option.bind (crew_Paid N (⟨W (r_1.1 + (W (more))),r_2.1,r_3.1⟩ : crew_Pay) s8.1) fun r_9 =>
 Option.bind (crew_Paid N (⟨r_1.1,r_2.1,min 1000 (W (r_3.1 + (W (more))))⟩ : crew_Pay) s8.1) fun r_10 =>
 cond ((((((r_8.2 != 0) || (r_9.2 != 0)) || (r_10.2 != 0)) || (decide (r_8.1 < r_5.1))) || (decide (r_9.1 < r_5.1))) || (decide (r_10.1 < r_5.1)))
 (some false)
 (Option.bind (crew_Paid N (⟨r_1.1,1440,r_3.1⟩ : crew_Pay) s8.1) fun r_11 =>
 Option.bind (crew_Paid N (⟨r_1.1,1440,0⟩ : crew_Pay) s8.1) fun r_12 =>
 Option.bind (crew_Paid N (⟨r_1.1,1440,0⟩ : crew_Pay) ([60] : List Int)) fun r_13 =>
 Option.bind (crew_Paid N (⟨r_1.1,1440,0⟩ : crew_Pay) ([] : List Int)) fun r_14 =>
 Option.bind (cond ((((((((r_11.2 == 0) && (r_12.2 == 0)) && (r_13.2 == 0)) && (r_14.2 == 0)) && (r_11.1 == r_12.1)) && (decide (r_11.1 ≤ r_5.1))) && (r_13.1 == r_1.1)) && (r_14.1 == 0)) (Option.bind (law11_awake N) fun r_15 =>
 some r_15) (some false)) fun t_1 =>
 some t_1))) some
theorem law11_CrewPaid_ok {N : Nat} {G : Pers} {Lf : List Ent} {w : World} (numbers : List Int) (more : Int) {numbers_p : Option Addr} {numbers_c : Nat} (h_numbers : Rd G 1 numbers_p numbers_c (numbers.map encI_u8)) (hc : Ctx G (Lf) w) {res : Bool} (hF : law11_CrewPaid N numbers more = some res) : Calls Tryz.prog 8 #[.slice numbers_p numbers.length numbers_c,.int .u8 more] w (fun e w => e = .returned (.bool res) ∧ Ctx G (Lf) w) := by
 unfold law11_CrewPaid at hF
 refine fnIn (args := [.slice numbers_p numbers.length numbers_c,.int .u8 more]) Tryz.func8 rfl Tryz.ntmps8 rfl fun a hf => wp_seq_k fun K1 h1 => cReg ?_
 refine stP hf rfl rfl rfl (pA rfl) fun a hf => cNil ?_
 refine h1 _ _ ?_
 refine wp_seq_k fun K2 h2 => cReg ?_
 refine stP hf rfl rfl rfl (pM rfl) fun a hf => ?_
 obtain ⟨r,hr,hF⟩ := bnd_some hF
 refine stC (vs := [.slice numbers_p numbers.length numbers_c]) (caps := []) hf rfl rfl rfl en_42 rfl rfl rfl rfl (kit_New_ok numbers h_numbers hc hr) ?_
 rintro _ w ⟨b_1,rfl,hc⟩
 refine ⟨_,rfl,fun a hf => ?_⟩
 refine stP hf rfl rfl rfl (pA rfl) fun a hf => cNil ?_
 refine h2 _ _ ?_
 refine wp_seq_k fun K3 h3 => cReg ?_
 refine stP hf rfl rfl rfl (pM rfl) fun a hf => ?_
 obtain ⟨r_1,hr_1,hF⟩ := bnd_some hF
 refine stC (vs := [.pointer (some ⟨b_1,0,none⟩),.int .i64 3000]) (caps := []) hf rfl rfl rfl en_45 rfl rfl rfl rfl (kit_Stream_Next_ok (⟨numbers,r.1,r.2⟩ : kit_Stream) 3000 h_numbers (hc.pick k0) hr_1) ?_
 rintro _ w ⟨rfl,hc⟩
 refine ⟨_,rfl,fun a hf => ?_⟩
 refine stP hf rfl rfl rfl (pM rfl) fun a hf => ?_
 obtain ⟨r_2,hr_2,hF⟩ := bnd_some hF
 refine stC (vs := [.pointer (some ⟨b_1,0,none⟩),.int .i64 600]) (caps := []) hf rfl rfl rfl en_45 rfl rfl rfl rfl (kit_Stream_Next_ok (⟨numbers,r_1.2.1,r_1.2.2⟩ : kit_Stream) 600 h_numbers (hc.pick k0) hr_2) ?_
 rintro _ w ⟨rfl,hc⟩
 refine ⟨_,rfl,fun a hf => ?_⟩
 refine stP hf rfl rfl rfl (pM rfl) fun a hf => ?_
 obtain ⟨r_3,hr_3,hF⟩ := bnd_some hF
 refine stC (vs := [.pointer (some ⟨b_1,0,none⟩),.int .i64 1001]) (caps := []) hf rfl rfl rfl en_45 rfl rfl rfl rfl (kit_Stream_Next_ok (⟨numbers,r_2.2.1,r_2.2.2⟩ : kit_Stream) 1001 h_numbers (hc.pick k0) hr_3) ?_
 rintro _ w ⟨rfl,hc⟩
 refine ⟨_,rfl,fun a hf => ?_⟩
 refine stP hf rfl rfl rfl (pBuildS (cells := [.int .i64 r_1.1,.int .i64 r_2.1,.int .i64 r_3.1]) bt_24 rfl rfl) fun a hf => stAl (cs := [.int .i64 0,.int .i64 0,.int .i64 0]) hf hc rfl rfl zr_24 rfl fun b_2 a w hf hc => stSt (vs := [.int .i64 r_1.1,.int .i64 r_2.1,.int .i64 r_3.1]) hf hc rfl rfl rfl rfl sz_24 rfl rfl u0 fun w hc => cNil ?_
 refine h3 _ _ ?_
 refine wp_seq_k fun K4 h4 => cReg ?_
 refine stP hf rfl rfl rfl (pA rfl) fun a hf => cNil ?_
 refine h4 _ _ ?_
 refine wp_seq_k fun K5 h5 => cReg ?_
 refine stP hf rfl rfl rfl (pA rfl) fun a hf => cNil ?_
 refine h5 _ _ ?_
 refine wp_seq_k fun K6 h6 => wp_seq_k fun K7 h7 => cReg ?_
 refine stP hf rfl rfl rfl (pM rfl) fun a hf => ?_
 obtain ⟨r_4,hr_4,hF⟩ := bnd_some hF
 refine stC (vs := [.pointer (some ⟨b_1,0,none⟩),.int .i64 1,.int .i64 12]) (caps := []) hf rfl rfl rfl en_50 rfl rfl rfl rfl (kit_Stream_Within_ok (⟨numbers,r_3.2.1,r_3.2.2⟩ : kit_Stream) 1 12 h_numbers (hc.pick k1) hr_4) ?_
 rintro _ w ⟨rfl,hc⟩
 refine ⟨_,rfl,fun a hf => ?_⟩
 refine stP hf rfl rfl rfl (pM rfl) fun a hf => cNil ?_
 refine h7 _ _ ?_
 refine wp_block ?_
 obtain ⟨x8,hx8,hF⟩ := bnd_some hF
 let S8 : ((List Int) × Int × Int × Int × Int) → Act → World → Prop := (fun (zz : (List Int) × Int × Int × Int × Int) a w => ∃ (p_1 : Option Addr) (c_1 : Nat),Has 219 a [(1,.int .u8 more),(5,.pointer (some ⟨b_1,0,none⟩)),(6,.pointer (some ⟨b_2,0,none⟩)),(7,.slice p_1 zz.1.length c_1),(8,.int .i64 zz.2.1),(37,.int .i64 r_4.1),(38,.int .i64 zz.2.2.1)] ∧ Ctx G (.row p_1 c_1 (zz.1.map encI_i64) 3 1::.box b_1 [.slice numbers_p numbers.length numbers_c,.int .i64 zz.2.2.2.1,.int .i64 zz.2.2.2.2] 165::.box b_2 [.int .i64 r_1.1,.int .i64 r_2.1,.int .i64 r_3.1] 24::Lf) w)
 have hr8 : ∀ (zz : (List Int) × Int × Int × Int × Int) a w,x8 = .go zz → S8 zz a w → K6 a w := by
  rintro ⟨days,sum,x,x_1,x_2⟩ a w rfl ⟨p_1,c_1,hf,hc⟩
  replace hF := exK_go hF
  refine h6 _ _ ?_
  refine wp_seq_k fun K9 h9 => cReg ?_
  refine stE hf hc rfl rfl rfl (eLdN (vs := [.int .i64 r_1.1,.int .i64 r_2.1,.int .i64 r_3.1]) ag_24 rfl rfl (cells_box (n := 3) m2 rfl)) fun a w hf hc => stP hf rfl rfl rfl (pM rfl) fun a hf => ?_
  obtain ⟨r_5,hr_5,hF⟩ := bnd_some hF
  refine stE hf hc rfl rfl rfl (eC (v := .tuple #[.int .i64 r_5.1,.int .i64 r_5.2]) (vs := [.agg #[.int .i64 r_1.1,.int .i64 r_2.1,.int .i64 r_3.1],.slice p_1 days.length c_1]) (caps := []) en_26 rfl rfl rfl rfl (fun w hc => by obtain ⟨G1,hle1,hrd1,hc,hth1⟩ := lend hc k0; exact (crew_Paid_ok (⟨r_1.1,r_2.1,r_3.1⟩ : crew_Pay) days hrd1 hc hr_5).mono fun e w h => ⟨h.1,((hth1 _ _ h.2).unpick k0)⟩)) fun a w hf hc => stP hf rfl rfl rfl (pM rfl) fun a hf => stP hf rfl rfl rfl (pX rfl rfl) fun a hf => stP hf rfl rfl rfl (pX rfl rfl) fun a hf => stP hf rfl rfl rfl (pA rfl) fun a hf => stP hf rfl rfl rfl (pA rfl) fun a hf => cNil ?_
  refine h9 _ _ ?_
  refine wp_seq_k fun K10 h10 => wp_seq_k fun K11 h11 => cReg ?_
  refine stP hf rfl rfl rfl (pM rfl) fun a hf => stP hf rfl rfl rfl (pNe rfl rfl) fun a hf => stP hf rfl rfl rfl (pM rfl) fun a hf => stCut 4 (fun a w => Has 219 a [(1,.int .u8 more),(5,.pointer (some ⟨b_1,0,none⟩)),(6,.pointer (some ⟨b_2,0,none⟩)),(7,.slice p_1 days.length c_1),(8,.int .i64 sum),(11,.int .i64 r_5.1),(12,.int .i64 r_5.2),(67,.int .i64 r_5.2),(68,.bool (r_5.2 != 0)),(69,.bool (r_5.2 != 0)),(73,.bool ((r_5.2 != 0) || (decide (sum < r_5.1))))] ∧ Ctx G (.row p_1 c_1 (days.map encI_i64) 3 1::.box b_1 [.slice numbers_p numbers.length numbers_c,.int .i64 x_1,.int .i64 x_2] 165::.box b_2 [.int .i64 r_1.1,.int .i64 r_2.1,.int .i64 r_3.1] 24::Lf) w) ?_ ?_
  ·cases hb : (r_5.2 != 0)
   ·rw [hb] at hf
    refine stP hf rfl rfl rfl (pM rfl) fun a hf => stP hf rfl rfl rfl (pM rfl) fun a hf => stP hf rfl rfl rfl (pGt rfl rfl) fun a hf => stP hf rfl rfl rfl (pPf rfl rfl) fun a hf => cNil ⟨hf.keep ⟨rfl,rfl,rfl,rfl,rfl,rfl,rfl,rfl,rfl,rfl,rfl,trivial⟩,hc⟩
   ·rw [hb] at hf
    refine stS hf rfl rfl rfl fun a hf => stS hf rfl rfl rfl fun a hf => stS hf rfl rfl rfl fun a hf => stP hf rfl rfl rfl (pPt rfl rfl) fun a hf => cNil ⟨hf.keep ⟨rfl,rfl,rfl,rfl,rfl,rfl,rfl,rfl,rfl,rfl,rfl,trivial⟩,hc⟩
  intro a w ⟨hf,hc⟩
  refine stP hf rfl rfl rfl (pM rfl) fun a hf => stCut 7 (fun a w => Has 219 a [(1,.int .u8 more),(5,.pointer (some ⟨b_1,0,none⟩)),(6,.pointer (some ⟨b_2,0,none⟩)),(7,.slice p_1 days.length c_1),(8,.int .i64 sum),(11,.int .i64 r_5.1),(12,.int .i64 r_5.2),(67,.int .i64 r_5.2),(68,.bool (r_5.2 != 0)),(69,.bool (r_5.2 != 0)),(73,.bool ((r_5.2 != 0) || (decide (sum < r_5.1)))),(74,.bool ((r_5.2 != 0) || (decide (sum < r_5.1)))),(81,.bool (((r_5.2 != 0) || (decide (sum < r_5.1))) || (decide (r_5.1 ≤ (W (sum - ((days.length : Nat) : Int)))))))] ∧ Ctx G (.row p_1 c_1 (days.map encI_i64) 3 1::.box b_1 [.slice numbers_p numbers.length numbers_c,.int .i64 x_1,.int .i64 x_2] 165::.box b_2 [.int .i64 r_1.1,.int .i64 r_2.1,.int .i64 r_3.1] 24::Lf) w) ?_ ?_
  ·cases hb : ((r_5.2 != 0) || (decide (sum < r_5.1)))
   ·rw [hb] at hf
    refine stP hf rfl rfl rfl (pM rfl) fun a hf => stP hf rfl rfl rfl (pM rfl) fun a hf => stP hf rfl rfl rfl (pM rfl) fun a hf => stP hf rfl rfl rfl (pLenS Tryz.underlying25 rfl) fun a hf => stP hf rfl rfl rfl (pSub rfl rfl) fun a hf => stP hf rfl rfl rfl (pLe rfl rfl) fun a hf => stP hf rfl rfl rfl (pPf rfl rfl) fun a hf => cNil ⟨hf.keep ⟨rfl,rfl,rfl,rfl,rfl,rfl,rfl,rfl,rfl,rfl,rfl,rfl,rfl,trivial⟩,hc⟩
   ·rw [hb] at hf
    refine stS hf rfl rfl rfl fun a hf => stS hf rfl rfl rfl fun a hf => stS hf rfl rfl rfl fun a hf => stS hf rfl rfl rfl fun a hf => stS hf rfl rfl rfl fun a hf => stS hf rfl rfl rfl fun a hf => stP hf rfl rfl rfl (pPt rfl rfl) fun a hf => cNil ⟨hf.keep ⟨rfl,rfl,rfl,rfl,rfl,rfl,rfl,rfl,rfl,rfl,rfl,rfl,rfl,trivial⟩,hc⟩
  intro a w ⟨hf,hc⟩
  refine cNil ?_
  refine h11 _ _ ?_
  refine cCond (b := (((r_5.2 != 0) || (decide (sum < r_5.1))) || (decide (r_5.1 ≤ (W (sum - ((days.length : Nat) : Int))))))) hf rfl (fun hb => ?_) (fun hb => ?_)
  ·replace hF := condT hb hF
   clear hb
   refine wp_seq_k fun K12 h12 => cReg ?_
   refine stP hf rfl rfl rfl (pA rfl) fun a hf => cNil ?_
   refine h12 _ _ ?_
   refine wp_ret ?_
   refine xThenR ?_
   obtain rfl := Option.some.inj hF
   replace hc := hc.drop k2
   replace hc := hc.drop k1
   replace hc := hc.drop k0
   exact fnOut1 (by simp) rfl Tryz.results8 hf hc (show look _ 4 = _ from rfl) ⟨rfl,hc⟩
  ·replace hF := condF hb hF
   clear hb
   refine wp_skip ?_
   refine h10 _ _ ?_
   refine wp_seq_k fun K13 h13 => cReg ?_
   refine stP hf rfl rfl rfl (pM rfl) fun a hf => stP hf rfl rfl rfl (pM rfl) fun a hf => stP hf rfl rfl rfl (pLenS Tryz.underlying25 rfl) fun a hf => ?_
   obtain ⟨r_6,hr_6,hF⟩ := bnd_some hF
   refine stC (vs := [.pointer (some ⟨b_1,0,none⟩),.int .i64 ((days.length : Nat) : Int)]) (caps := []) hf rfl rfl rfl en_45 rfl rfl rfl rfl (kit_Stream_Next_ok (⟨numbers,x_1,x_2⟩ : kit_Stream) ((days.length : Nat) : Int) h_numbers (hc.pick k1) hr_6) ?_
   rintro _ w ⟨rfl,hc⟩
   refine ⟨_,rfl,fun a hf => ?_⟩
   refine stP hf rfl rfl rfl (pA rfl) fun a hf => cNil ?_
   refine h13 _ _ ?_
   refine wp_seq_k fun K14 h14 => cReg ?_
   refine stP hf rfl rfl rfl (pM rfl) fun a hf => ?_
   obtain ⟨r_7,hr_7,hF⟩ := bnd_some hF
   obtain ⟨G1,hle1,hrd1,hc,hth1⟩ := lend hc k1
   refine stC (vs := [.slice p_1 days.length c_1]) (caps := []) hf rfl rfl rfl en_17 rfl rfl rfl rfl (kit_Copy_int_ok days hrd1 hc hr_7) ?_
   rintro _ w ⟨p_2,c_2,rfl,hc⟩
   refine ⟨_,rfl,fun a hf => ?_⟩
   replace hc := hth1 _ _ hc
   refine stP hf rfl rfl rfl (pA rfl) fun a hf => cNil ?_
   refine h14 _ _ ?_
   refine wp_seq_k fun K15 h15 => cReg ?_
   refine stP hf rfl rfl rfl (pM rfl) fun a hf => stP hf rfl rfl rfl (pM rfl) fun a hf => stP hf rfl rfl rfl (pM rfl) fun a hf => stP hf rfl rfl rfl (pM rfl) fun a hf => ?_
   obtain ⟨e_1,he_1,hF⟩ := bnd_some hF
   obtain ⟨g,rfl,qa,qr⟩ := row_atm hc m1 he_1
   refine stP hf rfl rfl rfl (pIA Tryz.underlying25 sz_3 rfl rfl qa) fun a hf => stE hf hc rfl rfl rfl (eLd1 sc_3 rfl (cell_row (sz := 1) (i := r_6.1.toNat) (j := 0) m1 qr rfl)) fun a w hf hc => stP hf rfl rfl rfl (pM rfl) fun a hf => stP hf rfl rfl rfl (pCv Tryz.underlying5 Tryz.underlying3 rfl) fun a hf => stP hf rfl rfl rfl (pAdd rfl rfl) fun a hf => stP hf rfl rfl rfl (pMin2 rfl rfl) fun a hf => ?_
   obtain ⟨e_2,he_2,hF⟩ := bnd_some hF
   obtain ⟨qa_1,qr_1⟩ := row_atk hc m1 he_2
   refine stP hf rfl rfl rfl (pIA Tryz.underlying25 sz_3 rfl rfl qa_1) fun a hf => stRw (vs := [.int .i64 (min 1440 (W (e_1 + (W (more)))))]) (o' := 0) (z := min 1440 (W (e_1 + (W (more))))) (xs := r_7) hf hc rfl rfl rfl rfl sz_3 rfl (fun x => (one_encI_i64 x).1) (getI_lt he_2) (fun _ _ => rfl) rfl u1 fun w hc => cNil ?_
   refine h15 _ _ ?_
   refine wp_seq_k fun K16 h16 => ?_
   replace hc := hc.nilRow 0 0
   replace hc := hc.nilRow 0 0
   refine regionE (fun θ => [⟨none,none,1,.int .u8 more⟩,⟨none,none,6,.pointer (some ⟨b_2,0,none⟩)⟩,⟨none,none,7,.slice p_1 days.length c_1⟩,⟨none,none,11,.int .i64 r_5.1⟩,⟨none,none,14,.slice (some ⟨g,0,none⟩) r_7.length c_2⟩,⟨some 0,none,99,.agg #[.int .i64 r_1.1,.int .i64 r_2.1,.int .i64 r_3.1]⟩,⟨some 1,none,100,.agg #[.int .i64 r_1.1,.int .i64 r_2.1,.int .i64 r_3.1]⟩,⟨some 2,none,15,.pointer (some ⟨(θ 16).b,0,none⟩)⟩,⟨some 3,none,16,.pointer (some ⟨(θ 24).b,0,none⟩)⟩]) (fun E θ => (bif E 5 then .box (θ 24).b [.int .i64 r_1.1,.int .i64 r_2.1,.int .i64 r_3.1] 24 else bif E 3 then .box (θ 24).b [.int .i64 0,.int .i64 0,.int .i64 0] 24 else .row none 0 [] 0 0)::(bif E 4 then .box (θ 16).b [.int .i64 r_1.1,.int .i64 r_2.1,.int .i64 r_3.1] 24 else bif E 2 then .box (θ 16).b [.int .i64 0,.int .i64 0,.int .i64 0] 24 else .row none 0 [] 0 0)::.row p_1 c_1 (days.map encI_i64) 3 1::.row (some ⟨g,0,none⟩) c_2 ((r_7.set r_6.1.toNat (min 1440 (W (e_1 + (W (more)))))).map encI_i64) 3 1::.box b_1 [.slice numbers_p numbers.length numbers_c,.int .i64 r_6.2.1,.int .i64 r_6.2.2] 165::.box b_2 [.int .i64 r_1.1,.int .i64 r_2.1,.int .i64 r_3.1] 24::Lf) [(4,2),(5,3)] (fun a w => ∃ (b_5 : Nat) (b_6 : Nat),Has 219 a [(1,.int .u8 more),(6,.pointer (some ⟨b_2,0,none⟩)),(7,.slice p_1 days.length c_1),(11,.int .i64 r_5.1),(14,.slice (some ⟨g,0,none⟩) r_7.length c_2),(15,.pointer (some ⟨b_5,0,none⟩)),(16,.pointer (some ⟨b_6,0,none⟩))] ∧ Ctx G (.box b_6 [.int .i64 r_1.1,.int .i64 r_2.1,.int .i64 r_3.1] 24::.box b_5 [.int .i64 r_1.1,.int .i64 r_2.1,.int .i64 r_3.1] 24::.row p_1 c_1 (days.map encI_i64) 3 1::.row (some ⟨g,0,none⟩) c_2 ((r_7.set r_6.1.toNat (min 1440 (W (e_1 + (W (more)))))).map encI_i64) 3 1::.box b_1 [.slice numbers_p numbers.length numbers_c,.int .i64 r_6.2.1,.int .i64 r_6.2.2] 165::.box b_2 [.int .i64 r_1.1,.int .i64 r_2.1,.int .i64 r_3.1] 24::Lf) w) follows_mx (by kernel_rfl) (by kernel_rfl) (HasE.of hf ⟨rfl,rfl,rfl,rfl,rfl,trivial,trivial,trivial,trivial,trivial⟩) hc ⟨?_,?_,?_,?_,?_,?_,trivial⟩ ?_ ?_
   ·intro E θ a w hD hi hp he hc
    have hf := he.h0
    replace hf := hf.more he 1 rfl onT
    refine stE hf hc rfl rfl rfl (eLdN (vs := [.int .i64 r_1.1,.int .i64 r_2.1,.int .i64 r_3.1]) ag_24 rfl rfl (cells_box (n := 3) m5 rfl)) fun a w hf hc => cNil ?_
    refine xThenN ?_
    intro ds u hau
    refine ⟨θ,he.put0 hi hau hf rfl 5 rfl rfl,?_⟩
    exact hc
   ·intro E θ a w hD hi hp he hc
    have hf := he.h0
    replace hf := hf.more he 1 rfl onT
    refine stE hf hc rfl rfl rfl (eLdN (vs := [.int .i64 r_1.1,.int .i64 r_2.1,.int .i64 r_3.1]) ag_24 rfl rfl (cells_box (n := 3) m5 rfl)) fun a w hf hc => cNil ?_
    refine xThenN ?_
    intro ds u hau
    refine ⟨θ,he.put0 hi hau hf rfl 6 rfl rfl,?_⟩
    exact hc
   ·intro E θ a w hD hi hp he hc
    have e4 := hD.f 0 rfl hi
    try dsimp only at hc
    rw [hi,e4] at hc
    have hf := he.h0
    refine stAl (cs := [.int .i64 0,.int .i64 0,.int .i64 0]) hf hc rfl rfl zr_24 rfl fun b_3 a w hf hc => cNil ?_
    refine xThenN ?_
    intro ds u hau
    replace hc := hc.drop k2
    replace hc := hc.pick k0
    replace hc := hc.pick k1
    refine ⟨(setT θ 16 ⟨b_3,none,0,(fun _ => (none,0))⟩),he.put hi hau hf rfl [] trivial ⟨qq,qq,qq,qq,qq,qq,qq,qq,qq,trivial⟩,?_⟩
    try dsimp only
    rw [updE_self E 2,updE_fls 2 e4 rfl]
    exact hc
   ·intro E θ a w hD hi hp he hc
    have e5 := hD.f 1 rfl hi
    try dsimp only at hc
    rw [hi,e5] at hc
    have hf := he.h0
    refine stAl (cs := [.int .i64 0,.int .i64 0,.int .i64 0]) hf hc rfl rfl zr_24 rfl fun b_4 a w hf hc => cNil ?_
    refine xThenN ?_
    intro ds u hau
    replace hc := hc.drop k1
    refine ⟨(setT θ 24 ⟨b_4,none,0,(fun _ => (none,0))⟩),he.put hi hau hf rfl [] trivial ⟨qq,qq,qq,qq,qq,qq,qq,qq,qq,trivial⟩,?_⟩
    try dsimp only
    rw [updE_self E 3,updE_fls 3 e5 rfl]
    exact hc
   ·intro E θ a w hD hi hp he hc
    have e0 := hp.of (k := 0) rfl
    have e2 := hp.of (k := 2) rfl
    try dsimp only at hc
    rw [e2,hi] at hc
    have hf := he.h0
    replace hf := hf.more he 5 rfl (onP e0)
    replace hf := hf.more he 7 rfl (onP e2)
    refine stSt (vs := [.int .i64 r_1.1,.int .i64 r_2.1,.int .i64 r_3.1]) hf hc rfl rfl rfl rfl sz_24 rfl rfl u1 fun w hc => cNil ?_
    refine xThenN ?_
    intro ds u hau
    refine ⟨θ,he.stay0 hi hau hf rfl,?_⟩
    try dsimp only
    rw [updE_tru 4 e2,updE_self E 4]
    exact hc
   ·intro E θ a w hD hi hp he hc
    have e1 := hp.of (k := 1) rfl
    have e3 := hp.of (k := 3) rfl
    try dsimp only at hc
    rw [e3,hi] at hc
    have hf := he.h0
    replace hf := hf.more he 6 rfl (onP e1)
    replace hf := hf.more he 8 rfl (onP e3)
    refine stSt (vs := [.int .i64 r_1.1,.int .i64 r_2.1,.int .i64 r_3.1]) hf hc rfl rfl rfl rfl sz_24 rfl rfl u0 fun w hc => cNil ?_
    refine xThenN ?_
    intro ds u hau
    refine ⟨θ,he.stay0 hi hau hf rfl,?_⟩
    try dsimp only
    rw [updE_tru 5 e3,updE_self E 5]
    exact hc
   ·intro E θ a w hall he hc
    have hf := he.h0
    have e2 := hall 2 rfl
    have e3 := hall 3 rfl
    have e4 := hall 4 rfl
    have e5 := hall 5 rfl
    replace hf := hf.more he 8 rfl (onP e3)
    replace hf := hf.more he 7 rfl (onP e2)
    replace hf := hf.more he 4 rfl (onT)
    replace hf := hf.more he 3 rfl (onT)
    replace hf := hf.more he 2 rfl (onT)
    replace hf := hf.more he 1 rfl (onT)
    replace hf := hf.more he 0 rfl (onT)
    try dsimp only at hc
    rw [e2,e3,e4,e5] at hc
    exact ⟨(θ 16).b,(θ 24).b,hf.keep ⟨rfl,rfl,rfl,rfl,rfl,rfl,rfl,trivial⟩,hc⟩
   rintro a w ⟨b_5,b_6,hf,hc⟩
   refine h16 _ _ ?_
   refine wp_seq_k fun K17 h17 => cReg ?_
   refine stP hf rfl rfl rfl (pFA fa_24_0 rfl) fun a hf => stE hf hc rfl rfl rfl (eLd1 sc_3 rfl (cell_box m1 rfl)) fun a w hf hc => stP hf rfl rfl rfl (pM rfl) fun a hf => stP hf rfl rfl rfl (pCv Tryz.underlying5 Tryz.underlying3 rfl) fun a hf => stP hf rfl rfl rfl (pAdd rfl rfl) fun a hf => stP hf rfl rfl rfl (pFA fa_24_0 rfl) fun a hf => stSt (vs := [.int .i64 (W (r_1.1 + (W (more))))]) hf hc rfl rfl rfl rfl sz_3 rfl rfl u1 fun w hc => cNil ?_
   refine h17 _ _ ?_
   refine wp_seq_k fun K18 h18 => cReg ?_
   refine stP hf rfl rfl rfl (pFA fa_24_2 rfl) fun a hf => stE hf hc rfl rfl rfl (eLd1 sc_3 rfl (cell_box m0 rfl)) fun a w hf hc => stP hf rfl rfl rfl (pM rfl) fun a hf => stP hf rfl rfl rfl (pCv Tryz.underlying5 Tryz.underlying3 rfl) fun a hf => stP hf rfl rfl rfl (pAdd rfl rfl) fun a hf => stP hf rfl rfl rfl (pMin2 rfl rfl) fun a hf => stP hf rfl rfl rfl (pFA fa_24_2 rfl) fun a hf => stSt (vs := [.int .i64 (min 1000 (W (r_3.1 + (W (more)))))]) hf hc rfl rfl rfl rfl sz_3 rfl rfl u0 fun w hc => cNil ?_
   refine h18 _ _ ?_
   refine wp_seq_k fun K19 h19 => cReg ?_
   refine stE hf hc rfl rfl rfl (eLdN (vs := [.int .i64 r_1.1,.int .i64 r_2.1,.int .i64 r_3.1]) ag_24 rfl rfl (cells_box (n := 3) m5 rfl)) fun a w hf hc => stP hf rfl rfl rfl (pM rfl) fun a hf => ?_
   obtain ⟨r_8,hr_8,hF⟩ := bnd_some hF
   refine stE hf hc rfl rfl rfl (eC (v := .tuple #[.int .i64 r_8.1,.int .i64 r_8.2]) (vs := [.agg #[.int .i64 r_1.1,.int .i64 r_2.1,.int .i64 r_3.1],.slice (some ⟨g,0,none⟩) r_7.length c_2]) (caps := []) en_26 rfl rfl rfl rfl (fun w hc => by obtain ⟨G1,hle1,hrd1,hc,hth1⟩ := lend hc k3; have hq := crew_Paid_ok (⟨r_1.1,r_2.1,r_3.1⟩ : crew_Pay) (r_7.set r_6.1.toNat (min 1440 (W (e_1 + (W (more)))))) hrd1 hc hr_8; simp only [List.length_set] at hq; exact (hq).mono fun e w h => ⟨h.1,((hth1 _ _ h.2).unpick k3)⟩)) fun a w hf hc => stP hf rfl rfl rfl (pM rfl) fun a hf => stP hf rfl rfl rfl (pX rfl rfl) fun a hf => stP hf rfl rfl rfl (pX rfl rfl) fun a hf => stP hf rfl rfl rfl (pA rfl) fun a hf => stP hf rfl rfl rfl (pA rfl) fun a hf => cNil ?_
   refine h19 _ _ ?_
   refine wp_seq_k fun K20 h20 => cReg ?_
   refine stE hf hc rfl rfl rfl (eLdN (vs := [.int .i64 (W (r_1.1 + (W (more)))),.int .i64 r_2.1,.int .i64 r_3.1]) ag_24 rfl rfl (cells_box (n := 3) m1 rfl)) fun a w hf hc => stP hf rfl rfl rfl (pM rfl) fun a hf => ?_
   obtain ⟨r_9,hr_9,hF⟩ := bnd_some hF
   refine stE hf hc rfl rfl rfl (eC (v := .tuple #[.int .i64 r_9.1,.int .i64 r_9.2]) (vs := [.agg #[.int .i64 (W (r_1.1 + (W (more)))),.int .i64 r_2.1,.int .i64 r_3.1],.slice p_1 days.length c_1]) (caps := []) en_26 rfl rfl rfl rfl (fun w hc => by obtain ⟨G1,hle1,hrd1,hc,hth1⟩ := lend hc k2; exact (crew_Paid_ok (⟨W (r_1.1 + (W (more))),r_2.1,r_3.1⟩ : crew_Pay) days hrd1 hc hr_9).mono fun e w h => ⟨h.1,((hth1 _ _ h.2).unpick k2)⟩)) fun a w hf hc => stP hf rfl rfl rfl (pM rfl) fun a hf => stP hf rfl rfl rfl (pX rfl rfl) fun a hf => stP hf rfl rfl rfl (pX rfl rfl) fun a hf => stP hf rfl rfl rfl (pA rfl) fun a hf => stP hf rfl rfl rfl (pA rfl) fun a hf => cNil ?_
   refine h20 _ _ ?_
   refine wp_seq_k fun K21 h21 => cReg ?_
   refine stE hf hc rfl rfl rfl (eLdN (vs := [.int .i64 r_1.1,.int .i64 r_2.1,.int .i64 (min 1000 (W (r_3.1 + (W (more)))))]) ag_24 rfl rfl (cells_box (n := 3) m0 rfl)) fun a w hf hc => stP hf rfl rfl rfl (pM rfl) fun a hf => ?_
   obtain ⟨r_10,hr_10,hF⟩ := bnd_some hF
   refine stE hf hc rfl rfl rfl (eC (v := .tuple #[.int .i64 r_10.1,.int .i64 r_10.2]) (vs := [.agg #[.int .i64 r_1.1,.int .i64 r_2.1,.int .i64 (min 1000 (W (r_3.1 + (W (more)))))],.slice p_1 days.length c_1]) (caps := []) en_26 rfl rfl rfl rfl (fun w hc => by obtain ⟨G1,hle1,hrd1,hc,hth1⟩ := lend hc k2; exact (crew_Paid_ok (⟨r_1.1,r_2.1,min 1000 (W (r_3.1 + (W (more))))⟩ : crew_Pay) days hrd1 hc hr_10).mono fun e w h => ⟨h.1,((hth1 _ _ h.2).unpick k2)⟩)) fun a w hf hc => stP hf rfl rfl rfl (pM rfl) fun a hf => stP hf rfl rfl rfl (pX rfl rfl) fun a hf => stP hf rfl rfl rfl (pX rfl rfl) fun a hf => stP hf rfl rfl rfl (pA rfl) fun a hf => stP hf rfl rfl rfl (pA rfl) fun a hf => cNil ?_
   refine h21 _ _ ?_
   refine wp_seq_k fun K22 h22 => wp_seq_k fun K23 h23 => cReg ?_
   refine stP hf rfl rfl rfl (pM rfl) fun a hf => stP hf rfl rfl rfl (pNe rfl rfl) fun a hf => stP hf rfl rfl rfl (pM rfl) fun a hf => stCut 3 (fun a w => Has 219 a [(6,.pointer (some ⟨b_2,0,none⟩)),(7,.slice p_1 days.length c_1),(11,.int .i64 r_5.1),(17,.int .i64 r_8.1),(12,.int .i64 r_8.2),(18,.int .i64 r_9.1),(19,.int .i64 r_9.2),(20,.int .i64 r_10.1),(21,.int .i64 r_10.2),(132,.int .i64 r_8.2),(133,.bool (r_8.2 != 0)),(134,.bool (r_8.2 != 0)),(137,.bool ((r_8.2 != 0) || (r_9.2 != 0)))] ∧ Ctx G (.box b_6 [.int .i64 r_1.1,.int .i64 r_2.1,.int .i64 (min 1000 (W (r_3.1 + (W (more)))))] 24::.box b_5 [.int .i64 (W (r_1.1 + (W (more)))),.int .i64 r_2.1,.int .i64 r_3.1] 24::.row p_1 c_1 (days.map encI_i64) 3 1::.row (some ⟨g,0,none⟩) c_2 ((r_7.set r_6.1.toNat (min 1440 (W (e_1 + (W (more)))))).map encI_i64) 3 1::.box b_1 [.slice numbers_p numbers.length numbers_c,.int .i64 r_6.2.1,.int .i64 r_6.2.2] 165::.box b_2 [.int .i64 r_1.1,.int .i64 r_2.1,.int .i64 r_3.1] 24::Lf) w) ?_ ?_
   ·cases hb : (r_8.2 != 0)
    ·rw [hb] at hf
     refine stP hf rfl rfl rfl (pM rfl) fun a hf => stP hf rfl rfl rfl (pNe rfl rfl) fun a hf => stP hf rfl rfl rfl (pPf rfl rfl) fun a hf => cNil ⟨hf.keep ⟨rfl,rfl,rfl,rfl,rfl,rfl,rfl,rfl,rfl,rfl,rfl,rfl,rfl,trivial⟩,hc⟩
    ·rw [hb] at hf
     refine stS hf rfl rfl rfl fun a hf => stS hf rfl rfl rfl fun a hf => stP hf rfl rfl rfl (pPt rfl rfl) fun a hf => cNil ⟨hf.keep ⟨rfl,rfl,rfl,rfl,rfl,rfl,rfl,rfl,rfl,rfl,rfl,rfl,rfl,trivial⟩,hc⟩
   intro a w ⟨hf,hc⟩
   refine stP hf rfl rfl rfl (pM rfl) fun a hf => stCut 3 (fun a w => Has 219 a [(6,.pointer (some ⟨b_2,0,none⟩)),(7,.slice p_1 days.length c_1),(11,.int .i64 r_5.1),(17,.int .i64 r_8.1),(12,.int .i64 r_8.2),(18,.int .i64 r_9.1),(19,.int .i64 r_9.2),(20,.int .i64 r_10.1),(21,.int .i64 r_10.2),(132,.int .i64 r_8.2),(133,.bool (r_8.2 != 0)),(134,.bool (r_8.2 != 0)),(137,.bool ((r_8.2 != 0) || (r_9.2 != 0))),(138,.bool ((r_8.2 != 0) || (r_9.2 != 0))),(141,.bool (((r_8.2 != 0) || (r_9.2 != 0)) || (r_10.2 != 0)))] ∧ Ctx G (.box b_6 [.int .i64 r_1.1,.int .i64 r_2.1,.int .i64 (min 1000 (W (r_3.1 + (W (more)))))] 24::.box b_5 [.int .i64 (W (r_1.1 + (W (more)))),.int .i64 r_2.1,.int .i64 r_3.1] 24::.row p_1 c_1 (days.map encI_i64) 3 1::.row (some ⟨g,0,none⟩) c_2 ((r_7.set r_6.1.toNat (min 1440 (W (e_1 + (W (more)))))).map encI_i64) 3 1::.box b_1 [.slice numbers_p numbers.length numbers_c,.int .i64 r_6.2.1,.int .i64 r_6.2.2] 165::.box b_2 [.int .i64 r_1.1,.int .i64 r_2.1,.int .i64 r_3.1] 24::Lf) w) ?_ ?_
   ·cases hb : ((r_8.2 != 0) || (r_9.2 != 0))
    ·rw [hb] at hf
     refine stP hf rfl rfl rfl (pM rfl) fun a hf => stP hf rfl rfl rfl (pNe rfl rfl) fun a hf => stP hf rfl rfl rfl (pPf rfl rfl) fun a hf => cNil ⟨hf.keep ⟨rfl,rfl,rfl,rfl,rfl,rfl,rfl,rfl,rfl,rfl,rfl,rfl,rfl,rfl,rfl,trivial⟩,hc⟩
    ·rw [hb] at hf
     refine stS hf rfl rfl rfl fun a hf => stS hf rfl rfl rfl fun a hf => stP hf rfl rfl rfl (pPt rfl rfl) fun a hf => cNil ⟨hf.keep ⟨rfl,rfl,rfl,rfl,rfl,rfl,rfl,rfl,rfl,rfl,rfl,rfl,rfl,rfl,rfl,trivial⟩,hc⟩
   intro a w ⟨hf,hc⟩
   refine stP hf rfl rfl rfl (pM rfl) fun a hf => stCut 4 (fun a w => Has 219 a [(6,.pointer (some ⟨b_2,0,none⟩)),(7,.slice p_1 days.length c_1),(11,.int .i64 r_5.1),(17,.int .i64 r_8.1),(12,.int .i64 r_8.2),(18,.int .i64 r_9.1),(19,.int .i64 r_9.2),(20,.int .i64 r_10.1),(21,.int .i64 r_10.2),(132,.int .i64 r_8.2),(133,.bool (r_8.2 != 0)),(134,.bool (r_8.2 != 0)),(137,.bool ((r_8.2 != 0) || (r_9.2 != 0))),(138,.bool ((r_8.2 != 0) || (r_9.2 != 0))),(141,.bool (((r_8.2 != 0) || (r_9.2 != 0)) || (r_10.2 != 0))),(142,.bool (((r_8.2 != 0) || (r_9.2 != 0)) || (r_10.2 != 0))),(146,.bool ((((r_8.2 != 0) || (r_9.2 != 0)) || (r_10.2 != 0)) || (decide (r_8.1 < r_5.1))))] ∧ Ctx G (.box b_6 [.int .i64 r_1.1,.int .i64 r_2.1,.int .i64 (min 1000 (W (r_3.1 + (W (more)))))] 24::.box b_5 [.int .i64 (W (r_1.1 + (W (more)))),.int .i64 r_2.1,.int .i64 r_3.1] 24::.row p_1 c_1 (days.map encI_i64) 3 1::.row (some ⟨g,0,none⟩) c_2 ((r_7.set r_6.1.toNat (min 1440 (W (e_1 + (W (more)))))).map encI_i64) 3 1::.box b_1 [.slice numbers_p numbers.length numbers_c,.int .i64 r_6.2.1,.int .i64 r_6.2.2] 165::.box b_2 [.int .i64 r_1.1,.int .i64 r_2.1,.int .i64 r_3.1] 24::Lf) w) ?_ ?_
   ·cases hb : (((r_8.2 != 0) || (r_9.2 != 0)) || (r_10.2 != 0))
    ·rw [hb] at hf
     refine stP hf rfl rfl rfl (pM rfl) fun a hf => stP hf rfl rfl rfl (pM rfl) fun a hf => stP hf rfl rfl rfl (pLt rfl rfl) fun a hf => stP hf rfl rfl rfl (pPf rfl rfl) fun a hf => cNil ⟨hf.keep ⟨rfl,rfl,rfl,rfl,rfl,rfl,rfl,rfl,rfl,rfl,rfl,rfl,rfl,rfl,rfl,rfl,rfl,trivial⟩,hc⟩
    ·rw [hb] at hf
     refine stS hf rfl rfl rfl fun a hf => stS hf rfl rfl rfl fun a hf => stS hf rfl rfl rfl fun a hf => stP hf rfl rfl rfl (pPt rfl rfl) fun a hf => cNil ⟨hf.keep ⟨rfl,rfl,rfl,rfl,rfl,rfl,rfl,rfl,rfl,rfl,rfl,rfl,rfl,rfl,rfl,rfl,rfl,trivial⟩,hc⟩
   intro a w ⟨hf,hc⟩
   refine stP hf rfl rfl rfl (pM rfl) fun a hf => stCut 4 (fun a w => Has 219 a [(6,.pointer (some ⟨b_2,0,none⟩)),(7,.slice p_1 days.length c_1),(11,.int .i64 r_5.1),(17,.int .i64 r_8.1),(12,.int .i64 r_8.2),(18,.int .i64 r_9.1),(19,.int .i64 r_9.2),(20,.int .i64 r_10.1),(21,.int .i64 r_10.2),(132,.int .i64 r_8.2),(133,.bool (r_8.2 != 0)),(134,.bool (r_8.2 != 0)),(137,.bool ((r_8.2 != 0) || (r_9.2 != 0))),(138,.bool ((r_8.2 != 0) || (r_9.2 != 0))),(141,.bool (((r_8.2 != 0) || (r_9.2 != 0)) || (r_10.2 != 0))),(142,.bool (((r_8.2 != 0) || (r_9.2 != 0)) || (r_10.2 != 0))),(146,.bool ((((r_8.2 != 0) || (r_9.2 != 0)) || (r_10.2 != 0)) || (decide (r_8.1 < r_5.1)))),(147,.bool ((((r_8.2 != 0) || (r_9.2 != 0)) || (r_10.2 != 0)) || (decide (r_8.1 < r_5.1)))),(151,.bool (((((r_8.2 != 0) || (r_9.2 != 0)) || (r_10.2 != 0)) || (decide (r_8.1 < r_5.1))) || (decide (r_9.1 < r_5.1))))] ∧ Ctx G (.box b_6 [.int .i64 r_1.1,.int .i64 r_2.1,.int .i64 (min 1000 (W (r_3.1 + (W (more)))))] 24::.box b_5 [.int .i64 (W (r_1.1 + (W (more)))),.int .i64 r_2.1,.int .i64 r_3.1] 24::.row p_1 c_1 (days.map encI_i64) 3 1::.row (some ⟨g,0,none⟩) c_2 ((r_7.set r_6.1.toNat (min 1440 (W (e_1 + (W (more)))))).map encI_i64) 3 1::.box b_1 [.slice numbers_p numbers.length numbers_c,.int .i64 r_6.2.1,.int .i64 r_6.2.2] 165::.box b_2 [.int .i64 r_1.1,.int .i64 r_2.1,.int .i64 r_3.1] 24::Lf) w) ?_ ?_
   ·cases hb : ((((r_8.2 != 0) || (r_9.2 != 0)) || (r_10.2 != 0)) || (decide (r_8.1 < r_5.1)))
    ·rw [hb] at hf
     refine stP hf rfl rfl rfl (pM rfl) fun a hf => stP hf rfl rfl rfl (pM rfl) fun a hf => stP hf rfl rfl rfl (pLt rfl rfl) fun a hf => stP hf rfl rfl rfl (pPf rfl rfl) fun a hf => cNil ⟨hf.keep ⟨rfl,rfl,rfl,rfl,rfl,rfl,rfl,rfl,rfl,rfl,rfl,rfl,rfl,rfl,rfl,rfl,rfl,rfl,rfl,trivial⟩,hc⟩
    ·rw [hb] at hf
     refine stS hf rfl rfl rfl fun a hf => stS hf rfl rfl rfl fun a hf => stS hf rfl rfl rfl fun a hf => stP hf rfl rfl rfl (pPt rfl rfl) fun a hf => cNil ⟨hf.keep ⟨rfl,rfl,rfl,rfl,rfl,rfl,rfl,rfl,rfl,rfl,rfl,rfl,rfl,rfl,rfl,rfl,rfl,rfl,rfl,trivial⟩,hc⟩
   intro a w ⟨hf,hc⟩
   refine stP hf rfl rfl rfl (pM rfl) fun a hf => stCut 4 (fun a w => Has 219 a [(6,.pointer (some ⟨b_2,0,none⟩)),(7,.slice p_1 days.length c_1),(11,.int .i64 r_5.1),(17,.int .i64 r_8.1),(12,.int .i64 r_8.2),(18,.int .i64 r_9.1),(19,.int .i64 r_9.2),(20,.int .i64 r_10.1),(21,.int .i64 r_10.2),(132,.int .i64 r_8.2),(133,.bool (r_8.2 != 0)),(134,.bool (r_8.2 != 0)),(137,.bool ((r_8.2 != 0) || (r_9.2 != 0))),(138,.bool ((r_8.2 != 0) || (r_9.2 != 0))),(141,.bool (((r_8.2 != 0) || (r_9.2 != 0)) || (r_10.2 != 0))),(142,.bool (((r_8.2 != 0) || (r_9.2 != 0)) || (r_10.2 != 0))),(146,.bool ((((r_8.2 != 0) || (r_9.2 != 0)) || (r_10.2 != 0)) || (decide (r_8.1 < r_5.1)))),(147,.bool ((((r_8.2 != 0) || (r_9.2 != 0)) || (r_10.2 != 0)) || (decide (r_8.1 < r_5.1)))),(151,.bool (((((r_8.2 != 0) || (r_9.2 != 0)) || (r_10.2 != 0)) || (decide (r_8.1 < r_5.1))) || (decide (r_9.1 < r_5.1)))),(152,.bool (((((r_8.2 != 0) || (r_9.2 != 0)) || (r_10.2 != 0)) || (decide (r_8.1 < r_5.1))) || (decide (r_9.1 < r_5.1)))),(156,.bool ((((((r_8.2 != 0) || (r_9.2 != 0)) || (r_10.2 != 0)) || (decide (r_8.1 < r_5.1))) || (decide (r_9.1 < r_5.1))) || (decide (r_10.1 < r_5.1))))] ∧ Ctx G (.box b_6 [.int .i64 r_1.1,.int .i64 r_2.1,.int .i64 (min 1000 (W (r_3.1 + (W (more)))))] 24::.box b_5 [.int .i64 (W (r_1.1 + (W (more)))),.int .i64 r_2.1,.int .i64 r_3.1] 24::.row p_1 c_1 (days.map encI_i64) 3 1::.row (some ⟨g,0,none⟩) c_2 ((r_7.set r_6.1.toNat (min 1440 (W (e_1 + (W (more)))))).map encI_i64) 3 1::.box b_1 [.slice numbers_p numbers.length numbers_c,.int .i64 r_6.2.1,.int .i64 r_6.2.2] 165::.box b_2 [.int .i64 r_1.1,.int .i64 r_2.1,.int .i64 r_3.1] 24::Lf) w) ?_ ?_
   ·cases hb : (((((r_8.2 != 0) || (r_9.2 != 0)) || (r_10.2 != 0)) || (decide (r_8.1 < r_5.1))) || (decide (r_9.1 < r_5.1)))
    ·rw [hb] at hf
     refine stP hf rfl rfl rfl (pM rfl) fun a hf => stP hf rfl rfl rfl (pM rfl) fun a hf => stP hf rfl rfl rfl (pLt rfl rfl) fun a hf => stP hf rfl rfl rfl (pPf rfl rfl) fun a hf => cNil ⟨hf.keep ⟨rfl,rfl,rfl,rfl,rfl,rfl,rfl,rfl,rfl,rfl,rfl,rfl,rfl,rfl,rfl,rfl,rfl,rfl,rfl,rfl,rfl,trivial⟩,hc⟩
    ·rw [hb] at hf
     refine stS hf rfl rfl rfl fun a hf => stS hf rfl rfl rfl fun a hf => stS hf rfl rfl rfl fun a hf => stP hf rfl rfl rfl (pPt rfl rfl) fun a hf => cNil ⟨hf.keep ⟨rfl,rfl,rfl,rfl,rfl,rfl,rfl,rfl,rfl,rfl,rfl,rfl,rfl,rfl,rfl,rfl,rfl,rfl,rfl,rfl,rfl,trivial⟩,hc⟩
   intro a w ⟨hf,hc⟩
   refine cNil ?_
   refine h23 _ _ ?_
   refine cCond (b := ((((((r_8.2 != 0) || (r_9.2 != 0)) || (r_10.2 != 0)) || (decide (r_8.1 < r_5.1))) || (decide (r_9.1 < r_5.1))) || (decide (r_10.1 < r_5.1)))) hf rfl (fun hb => ?_) (fun hb => ?_)
   ·replace hF := condT hb hF
    clear hb
    refine wp_seq_k fun K24 h24 => cReg ?_
    refine stP hf rfl rfl rfl (pA rfl) fun a hf => cNil ?_
    refine h24 _ _ ?_
    refine wp_ret ?_
    refine xThenR ?_
    obtain rfl := Option.some.inj hF
    replace hc := hc.drop k5
    replace hc := hc.drop k4
    replace hc := hc.drop k3
    replace hc := hc.drop k2
    replace hc := hc.drop k1
    replace hc := hc.drop k0
    exact fnOut1 (by simp) rfl Tryz.results8 hf hc (show look _ 4 = _ from rfl) ⟨rfl,hc⟩
   ·replace hF := condF hb hF
    clear hb
    refine wp_skip ?_
    refine h22 _ _ ?_
    refine wp_seq_k fun K25 h25 => cReg ?_
    refine stP hf rfl rfl rfl (pFA fa_24_1 rfl) fun a hf => stSt (vs := [.int .i64 1440]) hf hc rfl rfl rfl rfl sz_3 rfl rfl u5 fun w hc => cNil ?_
    refine h25 _ _ ?_
    refine wp_seq_k fun K26 h26 => cReg ?_
    refine stE hf hc rfl rfl rfl (eLdN (vs := [.int .i64 r_1.1,.int .i64 1440,.int .i64 r_3.1]) ag_24 rfl rfl (cells_box (n := 3) m5 rfl)) fun a w hf hc => stP hf rfl rfl rfl (pM rfl) fun a hf => ?_
    obtain ⟨r_11,hr_11,hF⟩ := bnd_some hF
    refine stE hf hc rfl rfl rfl (eC (v := .tuple #[.int .i64 r_11.1,.int .i64 r_11.2]) (vs := [.agg #[.int .i64 r_1.1,.int .i64 1440,.int .i64 r_3.1],.slice p_1 days.length c_1]) (caps := []) en_26 rfl rfl rfl rfl (fun w hc => by obtain ⟨G1,hle1,hrd1,hc,hth1⟩ := lend hc k2; exact (crew_Paid_ok (⟨r_1.1,1440,r_3.1⟩ : crew_Pay) days hrd1 hc hr_11).mono fun e w h => ⟨h.1,((hth1 _ _ h.2).unpick k2)⟩)) fun a w hf hc => stP hf rfl rfl rfl (pM rfl) fun a hf => stP hf rfl rfl rfl (pX rfl rfl) fun a hf => stP hf rfl rfl rfl (pX rfl rfl) fun a hf => stP hf rfl rfl rfl (pA rfl) fun a hf => stP hf rfl rfl rfl (pA rfl) fun a hf => cNil ?_
    refine h26 _ _ ?_
    refine wp_seq_k fun K27 h27 => cReg ?_
    refine stP hf rfl rfl rfl (pFA fa_24_2 rfl) fun a hf => stSt (vs := [.int .i64 0]) hf hc rfl rfl rfl rfl sz_3 rfl rfl u5 fun w hc => cNil ?_
    refine h27 _ _ ?_
    refine wp_seq_k fun K28 h28 => cReg ?_
    refine stE hf hc rfl rfl rfl (eLdN (vs := [.int .i64 r_1.1,.int .i64 1440,.int .i64 0]) ag_24 rfl rfl (cells_box (n := 3) m5 rfl)) fun a w hf hc => stP hf rfl rfl rfl (pM rfl) fun a hf => ?_
    obtain ⟨r_12,hr_12,hF⟩ := bnd_some hF
    refine stE hf hc rfl rfl rfl (eC (v := .tuple #[.int .i64 r_12.1,.int .i64 r_12.2]) (vs := [.agg #[.int .i64 r_1.1,.int .i64 1440,.int .i64 0],.slice p_1 days.length c_1]) (caps := []) en_26 rfl rfl rfl rfl (fun w hc => by obtain ⟨G1,hle1,hrd1,hc,hth1⟩ := lend hc k2; exact (crew_Paid_ok (⟨r_1.1,1440,0⟩ : crew_Pay) days hrd1 hc hr_12).mono fun e w h => ⟨h.1,((hth1 _ _ h.2).unpick k2)⟩)) fun a w hf hc => stP hf rfl rfl rfl (pM rfl) fun a hf => stP hf rfl rfl rfl (pX rfl rfl) fun a hf => stP hf rfl rfl rfl (pX rfl rfl) fun a hf => stP hf rfl rfl rfl (pA rfl) fun a hf => stP hf rfl rfl rfl (pA rfl) fun a hf => cNil ?_
    refine h28 _ _ ?_
    refine wp_seq_k fun K29 h29 => cReg ?_
    refine stE hf hc rfl rfl rfl (eLdN (vs := [.int .i64 r_1.1,.int .i64 1440,.int .i64 0]) ag_24 rfl rfl (cells_box (n := 3) m5 rfl)) fun a w hf hc => stBS (rows := ([60] : List Int).map encI_i64) (vs := [(0,.int .i64 60)]) hf hc rfl rfl sl_25 rfl ⟨rfl,rfl,rfl,trivial⟩ rfl rfl fun b_7 a w hf hc => ?_
    obtain ⟨r_13,hr_13,hF⟩ := bnd_some hF
    refine stE hf hc rfl rfl rfl (eC (v := .tuple #[.int .i64 r_13.1,.int .i64 r_13.2]) (vs := [.agg #[.int .i64 r_1.1,.int .i64 1440,.int .i64 0],.slice (some ⟨b_7,0,none⟩) 1 1]) (caps := []) en_26 rfl rfl rfl rfl (fun w hc => by obtain ⟨G1,hle1,hrd1,hc,hth1⟩ := lend hc k0; exact (crew_Paid_ok (⟨r_1.1,1440,0⟩ : crew_Pay) ([60] : List Int) hrd1 hc hr_13).mono fun e w h => ⟨h.1,((hth1 _ _ h.2).unpick k0)⟩)) fun a w hf hc => stP hf rfl rfl rfl (pM rfl) fun a hf => stP hf rfl rfl rfl (pX rfl rfl) fun a hf => stP hf rfl rfl rfl (pX rfl rfl) fun a hf => stP hf rfl rfl rfl (pA rfl) fun a hf => stP hf rfl rfl rfl (pA rfl) fun a hf => cNil ?_
    refine h29 _ _ ?_
    refine wp_seq_k fun K30 h30 => cReg ?_
    refine stE hf hc rfl rfl rfl (eLdN (vs := [.int .i64 r_1.1,.int .i64 1440,.int .i64 0]) ag_24 rfl rfl (cells_box (n := 3) m6 rfl)) fun a w hf hc => ?_
    obtain ⟨r_14,hr_14,hF⟩ := bnd_some hF
    refine stE hf hc rfl rfl rfl (eC (v := .tuple #[.int .i64 r_14.1,.int .i64 r_14.2]) (vs := [.agg #[.int .i64 r_1.1,.int .i64 1440,.int .i64 0],.slice none 0 0]) (caps := []) en_26 rfl rfl rfl rfl (fun w hc => crew_Paid_ok (⟨r_1.1,1440,0⟩ : crew_Pay) ([] : List Int) (Rd.nil _ _) hc hr_14)) fun a w hf hc => stP hf rfl rfl rfl (pM rfl) fun a hf => stP hf rfl rfl rfl (pX rfl rfl) fun a hf => stP hf rfl rfl rfl (pX rfl rfl) fun a hf => stP hf rfl rfl rfl (pA rfl) fun a hf => stP hf rfl rfl rfl (pA rfl) fun a hf => cNil ?_
    refine h30 _ _ ?_
    refine wp_seq_k fun K31 h31 => cReg ?_
    refine stP hf rfl rfl rfl (pM rfl) fun a hf => stP hf rfl rfl rfl (pEq rfl rfl) fun a hf => stP hf rfl rfl rfl (pM rfl) fun a hf => stCut 3 (fun a w => Has 219 a [(6,.pointer (some ⟨b_2,0,none⟩)),(11,.int .i64 r_5.1),(12,.int .i64 r_11.2),(19,.int .i64 r_12.2),(21,.int .i64 r_13.2),(22,.int .i64 r_11.1),(23,.int .i64 r_12.1),(24,.int .i64 r_13.1),(25,.int .i64 r_14.1),(26,.int .i64 r_14.2),(182,.int .i64 r_11.2),(183,.bool (r_11.2 == 0)),(184,.bool (r_11.2 == 0)),(187,.bool ((r_11.2 == 0) && (r_12.2 == 0)))] ∧ Ctx G (.row (some ⟨b_7,0,none⟩) 1 (([60] : List Int).map encI_i64) 3 1::.box b_6 [.int .i64 r_1.1,.int .i64 r_2.1,.int .i64 (min 1000 (W (r_3.1 + (W (more)))))] 24::.box b_5 [.int .i64 (W (r_1.1 + (W (more)))),.int .i64 r_2.1,.int .i64 r_3.1] 24::.row p_1 c_1 (days.map encI_i64) 3 1::.row (some ⟨g,0,none⟩) c_2 ((r_7.set r_6.1.toNat (min 1440 (W (e_1 + (W (more)))))).map encI_i64) 3 1::.box b_1 [.slice numbers_p numbers.length numbers_c,.int .i64 r_6.2.1,.int .i64 r_6.2.2] 165::.box b_2 [.int .i64 r_1.1,.int .i64 1440,.int .i64 0] 24::Lf) w) ?_ ?_
    ·cases hb : (r_11.2 == 0)
     ·rw [hb] at hf
      refine stS hf rfl rfl rfl fun a hf => stS hf rfl rfl rfl fun a hf => stP hf rfl rfl rfl (pPf rfl rfl) fun a hf => cNil ⟨hf.keep ⟨rfl,rfl,rfl,rfl,rfl,rfl,rfl,rfl,rfl,rfl,rfl,rfl,rfl,rfl,trivial⟩,hc⟩
     ·rw [hb] at hf
      refine stP hf rfl rfl rfl (pM rfl) fun a hf => stP hf rfl rfl rfl (pEq rfl rfl) fun a hf => stP hf rfl rfl rfl (pPt rfl rfl) fun a hf => cNil ⟨hf.keep ⟨rfl,rfl,rfl,rfl,rfl,rfl,rfl,rfl,rfl,rfl,rfl,rfl,rfl,rfl,trivial⟩,hc⟩
    intro a w ⟨hf,hc⟩
    refine stP hf rfl rfl rfl (pM rfl) fun a hf => stCut 3 (fun a w => Has 219 a [(6,.pointer (some ⟨b_2,0,none⟩)),(11,.int .i64 r_5.1),(12,.int .i64 r_11.2),(19,.int .i64 r_12.2),(21,.int .i64 r_13.2),(22,.int .i64 r_11.1),(23,.int .i64 r_12.1),(24,.int .i64 r_13.1),(25,.int .i64 r_14.1),(26,.int .i64 r_14.2),(182,.int .i64 r_11.2),(183,.bool (r_11.2 == 0)),(184,.bool (r_11.2 == 0)),(187,.bool ((r_11.2 == 0) && (r_12.2 == 0))),(188,.bool ((r_11.2 == 0) && (r_12.2 == 0))),(191,.bool (((r_11.2 == 0) && (r_12.2 == 0)) && (r_13.2 == 0)))] ∧ Ctx G (.row (some ⟨b_7,0,none⟩) 1 (([60] : List Int).map encI_i64) 3 1::.box b_6 [.int .i64 r_1.1,.int .i64 r_2.1,.int .i64 (min 1000 (W (r_3.1 + (W (more)))))] 24::.box b_5 [.int .i64 (W (r_1.1 + (W (more)))),.int .i64 r_2.1,.int .i64 r_3.1] 24::.row p_1 c_1 (days.map encI_i64) 3 1::.row (some ⟨g,0,none⟩) c_2 ((r_7.set r_6.1.toNat (min 1440 (W (e_1 + (W (more)))))).map encI_i64) 3 1::.box b_1 [.slice numbers_p numbers.length numbers_c,.int .i64 r_6.2.1,.int .i64 r_6.2.2] 165::.box b_2 [.int .i64 r_1.1,.int .i64 1440,.int .i64 0] 24::Lf) w) ?_ ?_
    ·cases hb : ((r_11.2 == 0) && (r_12.2 == 0))
     ·rw [hb] at hf
      refine stS hf rfl rfl rfl fun a hf => stS hf rfl rfl rfl fun a hf => stP hf rfl rfl rfl (pPf rfl rfl) fun a hf => cNil ⟨hf.keep ⟨rfl,rfl,rfl,rfl,rfl,rfl,rfl,rfl,rfl,rfl,rfl,rfl,rfl,rfl,rfl,rfl,trivial⟩,hc⟩
     ·rw [hb] at hf
      refine stP hf rfl rfl rfl (pM rfl) fun a hf => stP hf rfl rfl rfl (pEq rfl rfl) fun a hf => stP hf rfl rfl rfl (pPt rfl rfl) fun a hf => cNil ⟨hf.keep ⟨rfl,rfl,rfl,rfl,rfl,rfl,rfl,rfl,rfl,rfl,rfl,rfl,rfl,rfl,rfl,rfl,trivial⟩,hc⟩
    intro a w ⟨hf,hc⟩
    refine stP hf rfl rfl rfl (pM rfl) fun a hf => stCut 3 (fun a w => Has 219 a [(6,.pointer (some ⟨b_2,0,none⟩)),(11,.int .i64 r_5.1),(12,.int .i64 r_11.2),(19,.int .i64 r_12.2),(21,.int .i64 r_13.2),(22,.int .i64 r_11.1),(23,.int .i64 r_12.1),(24,.int .i64 r_13.1),(25,.int .i64 r_14.1),(26,.int .i64 r_14.2),(182,.int .i64 r_11.2),(183,.bool (r_11.2 == 0)),(184,.bool (r_11.2 == 0)),(187,.bool ((r_11.2 == 0) && (r_12.2 == 0))),(188,.bool ((r_11.2 == 0) && (r_12.2 == 0))),(191,.bool (((r_11.2 == 0) && (r_12.2 == 0)) && (r_13.2 == 0))),(192,.bool (((r_11.2 == 0) && (r_12.2 == 0)) && (r_13.2 == 0))),(195,.bool ((((r_11.2 == 0) && (r_12.2 == 0)) && (r_13.2 == 0)) && (r_14.2 == 0)))] ∧ Ctx G (.row (some ⟨b_7,0,none⟩) 1 (([60] : List Int).map encI_i64) 3 1::.box b_6 [.int .i64 r_1.1,.int .i64 r_2.1,.int .i64 (min 1000 (W (r_3.1 + (W (more)))))] 24::.box b_5 [.int .i64 (W (r_1.1 + (W (more)))),.int .i64 r_2.1,.int .i64 r_3.1] 24::.row p_1 c_1 (days.map encI_i64) 3 1::.row (some ⟨g,0,none⟩) c_2 ((r_7.set r_6.1.toNat (min 1440 (W (e_1 + (W (more)))))).map encI_i64) 3 1::.box b_1 [.slice numbers_p numbers.length numbers_c,.int .i64 r_6.2.1,.int .i64 r_6.2.2] 165::.box b_2 [.int .i64 r_1.1,.int .i64 1440,.int .i64 0] 24::Lf) w) ?_ ?_
    ·cases hb : (((r_11.2 == 0) && (r_12.2 == 0)) && (r_13.2 == 0))
     ·rw [hb] at hf
      refine stS hf rfl rfl rfl fun a hf => stS hf rfl rfl rfl fun a hf => stP hf rfl rfl rfl (pPf rfl rfl) fun a hf => cNil ⟨hf.keep ⟨rfl,rfl,rfl,rfl,rfl,rfl,rfl,rfl,rfl,rfl,rfl,rfl,rfl,rfl,rfl,rfl,rfl,rfl,trivial⟩,hc⟩
     ·rw [hb] at hf
      refine stP hf rfl rfl rfl (pM rfl) fun a hf => stP hf rfl rfl rfl (pEq rfl rfl) fun a hf => stP hf rfl rfl rfl (pPt rfl rfl) fun a hf => cNil ⟨hf.keep ⟨rfl,rfl,rfl,rfl,rfl,rfl,rfl,rfl,rfl,rfl,rfl,rfl,rfl,rfl,rfl,rfl,rfl,rfl,trivial⟩,hc⟩
    intro a w ⟨hf,hc⟩
    refine stP hf rfl rfl rfl (pM rfl) fun a hf => stCut 4 (fun a w => Has 219 a [(6,.pointer (some ⟨b_2,0,none⟩)),(11,.int .i64 r_5.1),(12,.int .i64 r_11.2),(19,.int .i64 r_12.2),(21,.int .i64 r_13.2),(22,.int .i64 r_11.1),(23,.int .i64 r_12.1),(24,.int .i64 r_13.1),(25,.int .i64 r_14.1),(26,.int .i64 r_14.2),(182,.int .i64 r_11.2),(183,.bool (r_11.2 == 0)),(184,.bool (r_11.2 == 0)),(187,.bool ((r_11.2 == 0) && (r_12.2 == 0))),(188,.bool ((r_11.2 == 0) && (r_12.2 == 0))),(191,.bool (((r_11.2 == 0) && (r_12.2 == 0)) && (r_13.2 == 0))),(192,.bool (((r_11.2 == 0) && (r_12.2 == 0)) && (r_13.2 == 0))),(195,.bool ((((r_11.2 == 0) && (r_12.2 == 0)) && (r_13.2 == 0)) && (r_14.2 == 0))),(196,.bool ((((r_11.2 == 0) && (r_12.2 == 0)) && (r_13.2 == 0)) && (r_14.2 == 0))),(200,.bool (((((r_11.2 == 0) && (r_12.2 == 0)) && (r_13.2 == 0)) && (r_14.2 == 0)) && (r_11.1 == r_12.1)))] ∧ Ctx G (.row (some ⟨b_7,0,none⟩) 1 (([60] : List Int).map encI_i64) 3 1::.box b_6 [.int .i64 r_1.1,.int .i64 r_2.1,.int .i64 (min 1000 (W (r_3.1 + (W (more)))))] 24::.box b_5 [.int .i64 (W (r_1.1 + (W (more)))),.int .i64 r_2.1,.int .i64 r_3.1] 24::.row p_1 c_1 (days.map encI_i64) 3 1::.row (some ⟨g,0,none⟩) c_2 ((r_7.set r_6.1.toNat (min 1440 (W (e_1 + (W (more)))))).map encI_i64) 3 1::.box b_1 [.slice numbers_p numbers.length numbers_c,.int .i64 r_6.2.1,.int .i64 r_6.2.2] 165::.box b_2 [.int .i64 r_1.1,.int .i64 1440,.int .i64 0] 24::Lf) w) ?_ ?_
    ·cases hb : ((((r_11.2 == 0) && (r_12.2 == 0)) && (r_13.2 == 0)) && (r_14.2 == 0))
     ·rw [hb] at hf
      refine stS hf rfl rfl rfl fun a hf => stS hf rfl rfl rfl fun a hf => stS hf rfl rfl rfl fun a hf => stP hf rfl rfl rfl (pPf rfl rfl) fun a hf => cNil ⟨hf.keep ⟨rfl,rfl,rfl,rfl,rfl,rfl,rfl,rfl,rfl,rfl,rfl,rfl,rfl,rfl,rfl,rfl,rfl,rfl,rfl,rfl,trivial⟩,hc⟩
     ·rw [hb] at hf
      refine stP hf rfl rfl rfl (pM rfl) fun a hf => stP hf rfl rfl rfl (pM rfl) fun a hf => stP hf rfl rfl rfl (pEq rfl rfl) fun a hf => stP hf rfl rfl rfl (pPt rfl rfl) fun a hf => cNil ⟨hf.keep ⟨rfl,rfl,rfl,rfl,rfl,rfl,rfl,rfl,rfl,rfl,rfl,rfl,rfl,rfl,rfl,rfl,rfl,rfl,rfl,rfl,trivial⟩,hc⟩
    intro a w ⟨hf,hc⟩
    refine stP hf rfl rfl rfl (pM rfl) fun a hf => stCut 4 (fun a w => Has 219 a [(6,.pointer (some ⟨b_2,0,none⟩)),(11,.int .i64 r_5.1),(12,.int .i64 r_11.2),(19,.int .i64 r_12.2),(21,.int .i64 r_13.2),(22,.int .i64 r_11.1),(23,.int .i64 r_12.1),(24,.int .i64 r_13.1),(25,.int .i64 r_14.1),(26,.int .i64 r_14.2),(182,.int .i64 r_11.2),(183,.bool (r_11.2 == 0)),(184,.bool (r_11.2 == 0)),(187,.bool ((r_11.2 == 0) && (r_12.2 == 0))),(188,.bool ((r_11.2 == 0) && (r_12.2 == 0))),(191,.bool (((r_11.2 == 0) && (r_12.2 == 0)) && (r_13.2 == 0))),(192,.bool (((r_11.2 == 0) && (r_12.2 == 0)) && (r_13.2 == 0))),(195,.bool ((((r_11.2 == 0) && (r_12.2 == 0)) && (r_13.2 == 0)) && (r_14.2 == 0))),(196,.bool ((((r_11.2 == 0) && (r_12.2 == 0)) && (r_13.2 == 0)) && (r_14.2 == 0))),(200,.bool (((((r_11.2 == 0) && (r_12.2 == 0)) && (r_13.2 == 0)) && (r_14.2 == 0)) && (r_11.1 == r_12.1))),(201,.bool (((((r_11.2 == 0) && (r_12.2 == 0)) && (r_13.2 == 0)) && (r_14.2 == 0)) && (r_11.1 == r_12.1))),(205,.bool ((((((r_11.2 == 0) && (r_12.2 == 0)) && (r_13.2 == 0)) && (r_14.2 == 0)) && (r_11.1 == r_12.1)) && (decide (r_11.1 ≤ r_5.1))))] ∧ Ctx G (.row (some ⟨b_7,0,none⟩) 1 (([60] : List Int).map encI_i64) 3 1::.box b_6 [.int .i64 r_1.1,.int .i64 r_2.1,.int .i64 (min 1000 (W (r_3.1 + (W (more)))))] 24::.box b_5 [.int .i64 (W (r_1.1 + (W (more)))),.int .i64 r_2.1,.int .i64 r_3.1] 24::.row p_1 c_1 (days.map encI_i64) 3 1::.row (some ⟨g,0,none⟩) c_2 ((r_7.set r_6.1.toNat (min 1440 (W (e_1 + (W (more)))))).map encI_i64) 3 1::.box b_1 [.slice numbers_p numbers.length numbers_c,.int .i64 r_6.2.1,.int .i64 r_6.2.2] 165::.box b_2 [.int .i64 r_1.1,.int .i64 1440,.int .i64 0] 24::Lf) w) ?_ ?_
    ·cases hb : (((((r_11.2 == 0) && (r_12.2 == 0)) && (r_13.2 == 0)) && (r_14.2 == 0)) && (r_11.1 == r_12.1))
     ·rw [hb] at hf
      refine stS hf rfl rfl rfl fun a hf => stS hf rfl rfl rfl fun a hf => stS hf rfl rfl rfl fun a hf => stP hf rfl rfl rfl (pPf rfl rfl) fun a hf => cNil ⟨hf.keep ⟨rfl,rfl,rfl,rfl,rfl,rfl,rfl,rfl,rfl,rfl,rfl,rfl,rfl,rfl,rfl,rfl,rfl,rfl,rfl,rfl,rfl,rfl,trivial⟩,hc⟩
     ·rw [hb] at hf
      refine stP hf rfl rfl rfl (pM rfl) fun a hf => stP hf rfl rfl rfl (pM rfl) fun a hf => stP hf rfl rfl rfl (pLe rfl rfl) fun a hf => stP hf rfl rfl rfl (pPt rfl rfl) fun a hf => cNil ⟨hf.keep ⟨rfl,rfl,rfl,rfl,rfl,rfl,rfl,rfl,rfl,rfl,rfl,rfl,rfl,rfl,rfl,rfl,rfl,rfl,rfl,rfl,rfl,rfl,trivial⟩,hc⟩
    intro a w ⟨hf,hc⟩
    refine stP hf rfl rfl rfl (pM rfl) fun a hf => stCut 5 (fun a w => Has 219 a [(6,.pointer (some ⟨b_2,0,none⟩)),(11,.int .i64 r_5.1),(12,.int .i64 r_11.2),(19,.int .i64 r_12.2),(21,.int .i64 r_13.2),(22,.int .i64 r_11.1),(23,.int .i64 r_12.1),(24,.int .i64 r_13.1),(25,.int .i64 r_14.1),(26,.int .i64 r_14.2),(182,.int .i64 r_11.2),(183,.bool (r_11.2 == 0)),(184,.bool (r_11.2 == 0)),(187,.bool ((r_11.2 == 0) && (r_12.2 == 0))),(188,.bool ((r_11.2 == 0) && (r_12.2 == 0))),(191,.bool (((r_11.2 == 0) && (r_12.2 == 0)) && (r_13.2 == 0))),(192,.bool (((r_11.2 == 0) && (r_12.2 == 0)) && (r_13.2 == 0))),(195,.bool ((((r_11.2 == 0) && (r_12.2 == 0)) && (r_13.2 == 0)) && (r_14.2 == 0))),(196,.bool ((((r_11.2 == 0) && (r_12.2 == 0)) && (r_13.2 == 0)) && (r_14.2 == 0))),(200,.bool (((((r_11.2 == 0) && (r_12.2 == 0)) && (r_13.2 == 0)) && (r_14.2 == 0)) && (r_11.1 == r_12.1))),(201,.bool (((((r_11.2 == 0) && (r_12.2 == 0)) && (r_13.2 == 0)) && (r_14.2 == 0)) && (r_11.1 == r_12.1))),(205,.bool ((((((r_11.2 == 0) && (r_12.2 == 0)) && (r_13.2 == 0)) && (r_14.2 == 0)) && (r_11.1 == r_12.1)) && (decide (r_11.1 ≤ r_5.1)))),(206,.bool ((((((r_11.2 == 0) && (r_12.2 == 0)) && (r_13.2 == 0)) && (r_14.2 == 0)) && (r_11.1 == r_12.1)) && (decide (r_11.1 ≤ r_5.1)))),(211,.bool (((((((r_11.2 == 0) && (r_12.2 == 0)) && (r_13.2 == 0)) && (r_14.2 == 0)) && (r_11.1 == r_12.1)) && (decide (r_11.1 ≤ r_5.1))) && (r_13.1 == r_1.1)))] ∧ Ctx G (.row (some ⟨b_7,0,none⟩) 1 (([60] : List Int).map encI_i64) 3 1::.box b_6 [.int .i64 r_1.1,.int .i64 r_2.1,.int .i64 (min 1000 (W (r_3.1 + (W (more)))))] 24::.box b_5 [.int .i64 (W (r_1.1 + (W (more)))),.int .i64 r_2.1,.int .i64 r_3.1] 24::.row p_1 c_1 (days.map encI_i64) 3 1::.row (some ⟨g,0,none⟩) c_2 ((r_7.set r_6.1.toNat (min 1440 (W (e_1 + (W (more)))))).map encI_i64) 3 1::.box b_1 [.slice numbers_p numbers.length numbers_c,.int .i64 r_6.2.1,.int .i64 r_6.2.2] 165::.box b_2 [.int .i64 r_1.1,.int .i64 1440,.int .i64 0] 24::Lf) w) ?_ ?_
    ·cases hb : ((((((r_11.2 == 0) && (r_12.2 == 0)) && (r_13.2 == 0)) && (r_14.2 == 0)) && (r_11.1 == r_12.1)) && (decide (r_11.1 ≤ r_5.1)))
     ·rw [hb] at hf
      refine stS hf rfl rfl rfl fun a hf => stS hf rfl rfl rfl fun a hf => stS hf rfl rfl rfl fun a hf => stS hf rfl rfl rfl fun a hf => stP hf rfl rfl rfl (pPf rfl rfl) fun a hf => cNil ⟨hf.keep ⟨rfl,rfl,rfl,rfl,rfl,rfl,rfl,rfl,rfl,rfl,rfl,rfl,rfl,rfl,rfl,rfl,rfl,rfl,rfl,rfl,rfl,rfl,rfl,rfl,trivial⟩,hc⟩
     ·rw [hb] at hf
      refine stP hf rfl rfl rfl (pM rfl) fun a hf => stP hf rfl rfl rfl (pFA fa_24_0 rfl) fun a hf => stE hf hc rfl rfl rfl (eLd1 sc_3 rfl (cell_box m6 rfl)) fun a w hf hc => stP hf rfl rfl rfl (pEq rfl rfl) fun a hf => stP hf rfl rfl rfl (pPt rfl rfl) fun a hf => cNil ⟨hf.keep ⟨rfl,rfl,rfl,rfl,rfl,rfl,rfl,rfl,rfl,rfl,rfl,rfl,rfl,rfl,rfl,rfl,rfl,rfl,rfl,rfl,rfl,rfl,rfl,rfl,trivial⟩,hc⟩
    intro a w ⟨hf,hc⟩
    refine stP hf rfl rfl rfl (pM rfl) fun a hf => stCut 3 (fun a w => Has 219 a [(6,.pointer (some ⟨b_2,0,none⟩)),(11,.int .i64 r_5.1),(12,.int .i64 r_11.2),(19,.int .i64 r_12.2),(21,.int .i64 r_13.2),(22,.int .i64 r_11.1),(23,.int .i64 r_12.1),(24,.int .i64 r_13.1),(25,.int .i64 r_14.1),(26,.int .i64 r_14.2),(182,.int .i64 r_11.2),(183,.bool (r_11.2 == 0)),(184,.bool (r_11.2 == 0)),(187,.bool ((r_11.2 == 0) && (r_12.2 == 0))),(188,.bool ((r_11.2 == 0) && (r_12.2 == 0))),(191,.bool (((r_11.2 == 0) && (r_12.2 == 0)) && (r_13.2 == 0))),(192,.bool (((r_11.2 == 0) && (r_12.2 == 0)) && (r_13.2 == 0))),(195,.bool ((((r_11.2 == 0) && (r_12.2 == 0)) && (r_13.2 == 0)) && (r_14.2 == 0))),(196,.bool ((((r_11.2 == 0) && (r_12.2 == 0)) && (r_13.2 == 0)) && (r_14.2 == 0))),(200,.bool (((((r_11.2 == 0) && (r_12.2 == 0)) && (r_13.2 == 0)) && (r_14.2 == 0)) && (r_11.1 == r_12.1))),(201,.bool (((((r_11.2 == 0) && (r_12.2 == 0)) && (r_13.2 == 0)) && (r_14.2 == 0)) && (r_11.1 == r_12.1))),(205,.bool ((((((r_11.2 == 0) && (r_12.2 == 0)) && (r_13.2 == 0)) && (r_14.2 == 0)) && (r_11.1 == r_12.1)) && (decide (r_11.1 ≤ r_5.1)))),(206,.bool ((((((r_11.2 == 0) && (r_12.2 == 0)) && (r_13.2 == 0)) && (r_14.2 == 0)) && (r_11.1 == r_12.1)) && (decide (r_11.1 ≤ r_5.1)))),(211,.bool (((((((r_11.2 == 0) && (r_12.2 == 0)) && (r_13.2 == 0)) && (r_14.2 == 0)) && (r_11.1 == r_12.1)) && (decide (r_11.1 ≤ r_5.1))) && (r_13.1 == r_1.1))),(212,.bool (((((((r_11.2 == 0) && (r_12.2 == 0)) && (r_13.2 == 0)) && (r_14.2 == 0)) && (r_11.1 == r_12.1)) && (decide (r_11.1 ≤ r_5.1))) && (r_13.1 == r_1.1))),(215,.bool ((((((((r_11.2 == 0) && (r_12.2 == 0)) && (r_13.2 == 0)) && (r_14.2 == 0)) && (r_11.1 == r_12.1)) && (decide (r_11.1 ≤ r_5.1))) && (r_13.1 == r_1.1)) && (r_14.1 == 0)))] ∧ Ctx G (.row (some ⟨b_7,0,none⟩) 1 (([60] : List Int).map encI_i64) 3 1::.box b_6 [.int .i64 r_1.1,.int .i64 r_2.1,.int .i64 (min 1000 (W (r_3.1 + (W (more)))))] 24::.box b_5 [.int .i64 (W (r_1.1 + (W (more)))),.int .i64 r_2.1,.int .i64 r_3.1] 24::.row p_1 c_1 (days.map encI_i64) 3 1::.row (some ⟨g,0,none⟩) c_2 ((r_7.set r_6.1.toNat (min 1440 (W (e_1 + (W (more)))))).map encI_i64) 3 1::.box b_1 [.slice numbers_p numbers.length numbers_c,.int .i64 r_6.2.1,.int .i64 r_6.2.2] 165::.box b_2 [.int .i64 r_1.1,.int .i64 1440,.int .i64 0] 24::Lf) w) ?_ ?_
    ·cases hb : (((((((r_11.2 == 0) && (r_12.2 == 0)) && (r_13.2 == 0)) && (r_14.2 == 0)) && (r_11.1 == r_12.1)) && (decide (r_11.1 ≤ r_5.1))) && (r_13.1 == r_1.1))
     ·rw [hb] at hf
      refine stS hf rfl rfl rfl fun a hf => stS hf rfl rfl rfl fun a hf => stP hf rfl rfl rfl (pPf rfl rfl) fun a hf => cNil ⟨hf.keep ⟨rfl,rfl,rfl,rfl,rfl,rfl,rfl,rfl,rfl,rfl,rfl,rfl,rfl,rfl,rfl,rfl,rfl,rfl,rfl,rfl,rfl,rfl,rfl,rfl,rfl,rfl,trivial⟩,hc⟩
     ·rw [hb] at hf
      refine stP hf rfl rfl rfl (pM rfl) fun a hf => stP hf rfl rfl rfl (pEq rfl rfl) fun a hf => stP hf rfl rfl rfl (pPt rfl rfl) fun a hf => cNil ⟨hf.keep ⟨rfl,rfl,rfl,rfl,rfl,rfl,rfl,rfl,rfl,rfl,rfl,rfl,rfl,rfl,rfl,rfl,rfl,rfl,rfl,rfl,rfl,rfl,rfl,rfl,rfl,rfl,trivial⟩,hc⟩
    intro a w ⟨hf,hc⟩
    refine stP hf rfl rfl rfl (pM rfl) fun a hf => ?_
    obtain ⟨t_1,ht_1,hF⟩ := bnd_some hF
    refine stCut 2 (fun a w => Has 219 a [(6,.pointer (some ⟨b_2,0,none⟩)),(11,.int .i64 r_5.1),(12,.int .i64 r_11.2),(19,.int .i64 r_12.2),(21,.int .i64 r_13.2),(22,.int .i64 r_11.1),(23,.int .i64 r_12.1),(24,.int .i64 r_13.1),(25,.int .i64 r_14.1),(26,.int .i64 r_14.2),(182,.int .i64 r_11.2),(183,.bool (r_11.2 == 0)),(184,.bool (r_11.2 == 0)),(187,.bool ((r_11.2 == 0) && (r_12.2 == 0))),(188,.bool ((r_11.2 == 0) && (r_12.2 == 0))),(191,.bool (((r_11.2 == 0) && (r_12.2 == 0)) && (r_13.2 == 0))),(192,.bool (((r_11.2 == 0) && (r_12.2 == 0)) && (r_13.2 == 0))),(195,.bool ((((r_11.2 == 0) && (r_12.2 == 0)) && (r_13.2 == 0)) && (r_14.2 == 0))),(196,.bool ((((r_11.2 == 0) && (r_12.2 == 0)) && (r_13.2 == 0)) && (r_14.2 == 0))),(200,.bool (((((r_11.2 == 0) && (r_12.2 == 0)) && (r_13.2 == 0)) && (r_14.2 == 0)) && (r_11.1 == r_12.1))),(201,.bool (((((r_11.2 == 0) && (r_12.2 == 0)) && (r_13.2 == 0)) && (r_14.2 == 0)) && (r_11.1 == r_12.1))),(205,.bool ((((((r_11.2 == 0) && (r_12.2 == 0)) && (r_13.2 == 0)) && (r_14.2 == 0)) && (r_11.1 == r_12.1)) && (decide (r_11.1 ≤ r_5.1)))),(206,.bool ((((((r_11.2 == 0) && (r_12.2 == 0)) && (r_13.2 == 0)) && (r_14.2 == 0)) && (r_11.1 == r_12.1)) && (decide (r_11.1 ≤ r_5.1)))),(211,.bool (((((((r_11.2 == 0) && (r_12.2 == 0)) && (r_13.2 == 0)) && (r_14.2 == 0)) && (r_11.1 == r_12.1)) && (decide (r_11.1 ≤ r_5.1))) && (r_13.1 == r_1.1))),(212,.bool (((((((r_11.2 == 0) && (r_12.2 == 0)) && (r_13.2 == 0)) && (r_14.2 == 0)) && (r_11.1 == r_12.1)) && (decide (r_11.1 ≤ r_5.1))) && (r_13.1 == r_1.1))),(215,.bool ((((((((r_11.2 == 0) && (r_12.2 == 0)) && (r_13.2 == 0)) && (r_14.2 == 0)) && (r_11.1 == r_12.1)) && (decide (r_11.1 ≤ r_5.1))) && (r_13.1 == r_1.1)) && (r_14.1 == 0))),(216,.bool ((((((((r_11.2 == 0) && (r_12.2 == 0)) && (r_13.2 == 0)) && (r_14.2 == 0)) && (r_11.1 == r_12.1)) && (decide (r_11.1 ≤ r_5.1))) && (r_13.1 == r_1.1)) && (r_14.1 == 0))),(218,.bool t_1)] ∧ Ctx G (.row (some ⟨b_7,0,none⟩) 1 (([60] : List Int).map encI_i64) 3 1::.box b_6 [.int .i64 r_1.1,.int .i64 r_2.1,.int .i64 (min 1000 (W (r_3.1 + (W (more)))))] 24::.box b_5 [.int .i64 (W (r_1.1 + (W (more)))),.int .i64 r_2.1,.int .i64 r_3.1] 24::.row p_1 c_1 (days.map encI_i64) 3 1::.row (some ⟨g,0,none⟩) c_2 ((r_7.set r_6.1.toNat (min 1440 (W (e_1 + (W (more)))))).map encI_i64) 3 1::.box b_1 [.slice numbers_p numbers.length numbers_c,.int .i64 r_6.2.1,.int .i64 r_6.2.2] 165::.box b_2 [.int .i64 r_1.1,.int .i64 1440,.int .i64 0] 24::Lf) w) ?_ ?_
    ·cases hb : ((((((((r_11.2 == 0) && (r_12.2 == 0)) && (r_13.2 == 0)) && (r_14.2 == 0)) && (r_11.1 == r_12.1)) && (decide (r_11.1 ≤ r_5.1))) && (r_13.1 == r_1.1)) && (r_14.1 == 0))
     ·rw [hb] at hf
      have hF := condF hb ht_1
      obtain rfl := Option.some.inj hF
      refine stS hf rfl rfl rfl fun a hf => stP hf rfl rfl rfl (pPf rfl rfl) fun a hf => cNil ⟨hf.keep ⟨rfl,rfl,rfl,rfl,rfl,rfl,rfl,rfl,rfl,rfl,rfl,rfl,rfl,rfl,rfl,rfl,rfl,rfl,rfl,rfl,rfl,rfl,rfl,rfl,rfl,rfl,rfl,rfl,trivial⟩,hc⟩
     ·rw [hb] at hf
      have hF := condT hb ht_1
      obtain ⟨r_15,hr_15,hF⟩ := bnd_some hF
      refine stE hf hc rfl rfl rfl (eC (v := .bool r_15) (vs := []) (caps := []) en_15 rfl rfl rfl rfl (fun w hc => law11_awake_ok hc hr_15)) fun a w hf hc => stP hf rfl rfl rfl (pPt rfl rfl) fun a hf => ?_
      obtain rfl := Option.some.inj hF
      exact cNil ⟨hf.keep ⟨rfl,rfl,rfl,rfl,rfl,rfl,rfl,rfl,rfl,rfl,rfl,rfl,rfl,rfl,rfl,rfl,rfl,rfl,rfl,rfl,rfl,rfl,rfl,rfl,rfl,rfl,rfl,rfl,trivial⟩,hc⟩
    intro a w ⟨hf,hc⟩
    refine stP hf rfl rfl rfl (pA rfl) fun a hf => cNil ?_
    refine h31 _ _ ?_
    refine wp_ret ?_
    obtain rfl := Option.some.inj hF
    replace hc := hc.drop k6
    replace hc := hc.drop k5
    replace hc := hc.drop k4
    replace hc := hc.drop k3
    replace hc := hc.drop k2
    replace hc := hc.drop k1
    replace hc := hc.drop k0
    exact fnOut1 (by simp) rfl Tryz.results8 hf hc (show look _ 4 = _ from rfl) ⟨rfl,hc⟩
 have ho8 : ∀ r,x8 = .out r → r = res := by
  rintro r rfl
  exact Option.some.inj hF
 replace hc := hc.nilRow 3 1
 refine cLoop N (loopW (S := S8) (x := x8) ?_ N (([] : List Int),0,0,r_4.2.1,r_4.2.2) _ _ ⟨none,0,hf.keep ⟨rfl,rfl,rfl,rfl,rfl,rfl,rfl,trivial⟩,hc⟩ hx8)
 clear hF hf hc
 rintro ⟨days,sum,x,x_1,x_2⟩ st8 a w KB8 ⟨p_1,c_1,hf,hc⟩ hF hfin8 hK8
 unfold law11_CrewPaid_b8 at hF
 refine wp_seq_k fun K32 h32 => cReg ?_
 refine stP hf rfl rfl rfl (pLt rfl rfl) fun a hf => cNil ?_
 refine h32 _ _ ?_
 refine wp_seq_k fun K33 h33 => cCond (b := (decide (x < r_4.1))) hf rfl (fun hb => ?_) (fun hb => ?_)
 ·replace hF := condT hb hF
  clear hb
  refine wp_skip ?_
  refine h33 _ _ ?_
  refine wp_seq_k fun K34 h34 => wp_block ?_
  refine wp_seq_k fun K35 h35 => cReg ?_
  refine stP hf rfl rfl rfl (pM rfl) fun a hf => stP hf rfl rfl rfl (pM rfl) fun a hf => ?_
  obtain ⟨r_16,hr_16,hF⟩ := bnd_some hF
  refine stC (vs := [.pointer (some ⟨b_1,0,none⟩),.int .i64 900]) (caps := []) hf rfl rfl rfl en_45 rfl rfl rfl rfl (kit_Stream_Next_ok (⟨numbers,x_1,x_2⟩ : kit_Stream) 900 h_numbers (hc.pick k1) hr_16) ?_
  rintro _ w ⟨rfl,hc⟩
  refine ⟨_,rfl,fun a hf => ?_⟩
  refine stBS (rows := ([r_16.1] : List Int).map encI_i64) (vs := [(0,.int .i64 r_16.1)]) hf hc rfl rfl sl_25 rfl ⟨rfl,rfl,rfl,trivial⟩ rfl rfl fun b_8 a w hf hc => ?_
  obtain ⟨un,hun,hF⟩ := bnd_some hF
  refine stApm (xs := days) (ys := ([r_16.1] : List Int)) hf hc rfl rfl sl_25 rfl rfl rfl rfl rfl one_encI_i64 (src_row hc m0) (fun _ _ => u2) (by simpa using room_spec hun) fun p_3 c_3 a w hf hc => stP hf rfl rfl rfl (pA rfl) fun a hf => cNil ?_
  refine h35 _ _ ?_
  refine wp_seq_k fun K36 h36 => ?_
  have qc := row_cap hc m2
  obtain ⟨sub,hsub,hF⟩ := bnd_some hF
  obtain ⟨r_17,hr_17,hF⟩ := bnd_some hF
  refine cQ hc follows_mx (by kernel_rfl) ?_
  refine qE hf rfl rfl rfl (eLdN (vs := [.int .i64 r_1.1,.int .i64 r_2.1,.int .i64 r_3.1]) ag_24 rfl rfl (cells_box (n := 3) m3 rfl)) fun a hf => qE hf rfl rfl rfl (Pu.ev (pM rfl)) fun a hf => qE hf rfl rfl rfl (Pu.ev (pM rfl)) fun a hf => qE hf rfl rfl rfl (Pu.ev (pLenS Tryz.underlying25 rfl)) fun a hf => qE hf rfl rfl rfl (Pu.ev (pSub rfl rfl)) fun a hf => qE hf rfl rfl rfl (Pu.ev (pSl Tryz.underlying25 sz_3 rfl rfl qc rfl rfl hsub)) fun a hf => qE hf rfl rfl rfl (eC (v := .tuple #[.int .i64 r_17.1,.int .i64 r_17.2]) (vs := [.agg #[.int .i64 r_1.1,.int .i64 r_2.1,.int .i64 r_3.1],.slice (subP p_3 c_3 (W ((((days ++ [r_16.1]).length : Nat) : Int) - 1)).toNat 1) sub.length (c_3 - (W ((((days ++ [r_16.1]).length : Nat) : Int) - 1)).toNat)]) (caps := []) en_26 rfl rfl rfl rfl (fun w hc => by obtain ⟨G1,hle1,hrd1,hc,hth1⟩ := lend hc k2; exact (crew_Paid_ok (⟨r_1.1,r_2.1,r_3.1⟩ : crew_Pay) sub (Rd.sub hrd1 hsub) hc hr_17).mono fun e w h => ⟨h.1,((hth1 _ _ h.2).unpick k2)⟩)) fun a hf => qE hf rfl rfl rfl (Pu.ev (pM rfl)) fun a hf => qE hf rfl rfl rfl (Pu.ev (pX rfl rfl)) fun a hf => qE hf rfl rfl rfl (Pu.ev (pX rfl rfl)) fun a hf => qE hf rfl rfl rfl (Pu.ev (pA rfl)) fun a hf => qE hf rfl rfl rfl (Pu.ev (pA rfl)) fun a hf => ?_
  intro w hc
  refine h36 _ _ ?_
  refine wp_seq_k fun K37 h37 => wp_seq_k fun K38 h38 => cReg ?_
  refine stP hf rfl rfl rfl (pM rfl) fun a hf => stP hf rfl rfl rfl (pNe rfl rfl) fun a hf => cNil ?_
  refine h38 _ _ ?_
  refine cCond (b := (r_17.2 != 0)) hf rfl (fun hb => ?_) (fun hb => ?_)
  ·replace hF := condT hb hF
   clear hb
   refine wp_seq_k fun K39 h39 => cReg ?_
   refine stP hf rfl rfl rfl (pA rfl) fun a hf => cNil ?_
   refine h39 _ _ ?_
   refine wp_ret ?_
   refine xThenR ?_
   refine xBlkR ?_
   refine xThenR ?_
   refine xThenR ?_
   have he := Option.some.inj hF
   rw [← he] at hfin8
   replace hF := ho8 _ hfin8
   refine xBlkR ?_
   refine xThenR ?_
   obtain rfl := hF
   replace hc := hc.drop k3
   replace hc := hc.drop k2
   replace hc := hc.drop k1
   replace hc := hc.drop k0
   exact fnOut1 (by simp) rfl Tryz.results8 hf hc (show look _ 4 = _ from rfl) ⟨rfl,hc⟩
  ·replace hF := condF hb hF
   clear hb
   refine wp_skip ?_
   refine h37 _ _ ?_
   refine cReg ?_
   refine stP hf rfl rfl rfl (pM rfl) fun a hf => stP hf rfl rfl rfl (pM rfl) fun a hf => stP hf rfl rfl rfl (pAdd rfl rfl) fun a hf => stP hf rfl rfl rfl (pA rfl) fun a hf => cNil ?_
   refine h34 _ _ ?_
   refine cReg ?_
   refine stP hf rfl rfl rfl (pAdd rfl rfl) fun a hf => stP hf rfl rfl rfl (pM rfl) fun a hf => cNil ?_
   replace hc := hc.drop k0
   replace hc := hc.pick k0
   replace hc := hc.pick k1
   exact hK8 ((days ++ [r_16.1]),W (sum + r_17.1),W (x + 1),r_16.2.1,r_16.2.2) _ _ (Option.some.inj hF).symm ⟨p_3,c_3,hf.keep ⟨rfl,rfl,rfl,rfl,rfl,rfl,rfl,trivial⟩,hc⟩
 ·replace hF := condF hb hF
  clear hb
  refine wp_exit ?_
  refine xThen ?_
  refine xThen ?_
  have he := Option.some.inj hF
  rw [← he] at hfin8
  refine cHit ?_
  exact hr8 _ _ _ hfin8 ⟨p_1,c_1,hf.keep ⟨rfl,rfl,rfl,rfl,rfl,rfl,rfl,trivial⟩,hc⟩

end Go.Nilo
