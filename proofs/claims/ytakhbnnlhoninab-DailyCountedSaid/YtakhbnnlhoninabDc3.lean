/-
 What functions of the Go text compute, as plain functions, and that they do, part 3 of 3. Conditions: what each theorem names.
-/
import Derived.Test.YtakhbnnlhoninabDc2
import Derived.Test.YtakhbnnlhoninabProg
set_option linter.unusedVariables false
set_option linter.unusedSimpArgs false
set_option maxRecDepth 100000
set_option maxHeartbeats 4000000
namespace Go.Nilo
open Go.Proofs


def law07_DailyCounted_b30 (N : Nat) (r_1 : (List daily_Reading) × Int × Int) (back : List daily_Reading) (k : Int) : Option (Step ((List daily_Reading) × Int) (Bool)) :=
 cond (decide (0 ≤ k))
 (Option.bind (getI r_1.1 k) fun e_8 =>
 Option.bind (getI r_1.1 k) fun e_9 =>
 Option.bind (room ((back ++ [(⟨W (1000000 - e_8.Value),e_9.Weight⟩ : daily_Reading)])).length) fun un_2 =>
 some (.cont ((back ++ [(⟨W (1000000 - e_8.Value),e_9.Weight⟩ : daily_Reading)]),W (k - 1))))
 (some (.brk (back,k)))
def law07_DailyCounted_j19 (N : Nat) (which : Int) (more : Int) (r_1 : (List daily_Reading) × Int × Int) (r_2 : (List Int) × Int × Int) : Option (Bool) :=
 Option.bind (kit_Copy_daily_Reading N r_1.1) fun r_10 =>
 Option.bind (getI r_1.1 ((W (which)).tmod ((r_1.1.length : Nat) : Int))) fun e_1 =>
 Option.bind (nz (W ((W (100 - e_1.Weight)) + 1))) fun un_1 =>
 Option.bind (getI r_10 ((W (which)).tmod ((r_1.1.length : Nat) : Int))) fun e_2 =>
 Option.bind (getI r_10 ((W (which)).tmod ((r_1.1.length : Nat) : Int))) fun e_3 =>
 Option.bind (daily_Correct N (r_10.set ((W (which)).tmod ((r_1.1.length : Nat) : Int)).toNat (⟨e_3.Value,W (e_2.Weight + ((W (more)).tmod (W ((W (100 - e_1.Weight)) + 1))))⟩ : daily_Reading))) fun r_11 =>
 Option.bind (cond ((r_11.2.2 != 0) || (decide (r_11.2.1 < r_2.2.1))) (some true) (Option.bind (getI r_2.1 ((W (which)).tmod ((r_1.1.length : Nat) : Int))) fun e_4 =>
 Option.bind (getI r_1.1 ((W (which)).tmod ((r_1.1.length : Nat) : Int))) fun e_5 =>
 Option.bind (getI r_1.1 ((W (which)).tmod ((r_1.1.length : Nat) : Int))) fun e_6 =>
 Option.bind (getI r_2.1 ((W (which)).tmod ((r_1.1.length : Nat) : Int))) fun e_7 =>
 some (decide ((W (r_2.2.1 + (W (((W (more)).tmod (W ((W (100 - e_1.Weight)) + 1))) * (max (W (e_4 - e_5.Value)) (W (e_6.Value - e_7))))))) < r_11.2.1)))) fun t_2 =>
 cond t_2
 (some false)
 (Option.bind (loopO (fun s30 => law07_DailyCounted_b30 N r_1 s30.1 s30.2) N (([] : List daily_Reading),W (((r_1.1.length : Nat) : Int) - 1))) fun x30 =>
 exK x30 (fun s30 => Option.bind (daily_Correct N s30.1) fun r_12 =>
 Option.bind (cond ((r_12.2.2 == 0) && (r_12.2.1 == r_2.2.1)) (Option.bind (law07_awake N) fun r_13 =>
 some r_13) (some false)) fun t_3 =>
 some t_3) some)
def law07_DailyCounted_b10 (N : Nat) (r_2 : (List Int) × Int × Int) (r_3 : (List daily_Reading)) (right : List daily_Reading) (x : Int) : Option (Step ((List daily_Reading) × Int) (Bool)) :=
 cond (decide (x < ((r_3.length : Nat) : Int)))
 (Option.bind (getI r_2.1 x) fun e_10 =>
 Option.bind (getI right x) fun e_11 =>
 some (.cont ((right.set x.toNat (⟨e_10,e_11.Weight⟩ : daily_Reading)),W (x + 1))))
 (some (.brk (right,x)))
def law07_DailyCounted (N : Nat) (numbers : List Int) (which : Int) (more : Int) : Option (Bool) :=
 Option.bind (kit_New N numbers) fun r =>
 Option.bind (law07_Counted N (⟨numbers,r.1,r.2⟩ : kit_Stream) 16) fun r_1 =>
 Option.bind (daily_Correct N r_1.1) fun r_2 =>
 cond ((r_2.2.2 != 0) || (((r_2.1.length : Nat) : Int) != ((r_1.1.length : Nat) : Int)))
 (some false)
 (Option.bind (kit_Copy_daily_Reading N r_1.1) fun r_3 =>
 Option.bind (loopO (fun s10 => law07_DailyCounted_b10 N r_2 r_3 s10.1 s10.2) N (r_3,0)) fun x10 =>
 exK x10 (fun s10 => Option.bind (daily_Correct N s10.1) fun r_4 =>
 Option.bind (daily_Falls N s10.1) fun r_5 =>
 Option.bind (daily_Proves N s10.1 r_5.1) fun r_6 =>
 Option.bind (cond (((((r_4.2.2 != 0) || (r_5.2 != 0)) || (r_6.2 != 0)) || (r_4.2.1 != 0)) || (r_6.1 != 0)) (some true) (Option.bind (kit_Same_int N r_2.1 r_4.1) fun r_7 =>
 some (!r_7))) fun t_1 =>
 cond t_1
 (some false)
 (Option.bind (nz ((r_1.1.length : Nat) : Int)) fun un =>
 Option.bind (kit_Copy_daily_Reading N r_1.1) fun r_8 =>
 Option.bind (slices_Delete_Ldaily_Reading_daily_Reading N r_8 ((W (which)).tmod ((r_1.1.length : Nat) : Int)) (W (((W (which)).tmod ((r_1.1.length : Nat) : Int)) + 1))) fun r_9 =>
 cond (decide (0 < ((r_9.length : Nat) : Int)))
 (Option.bind (daily_Correct N r_9) fun r_14 =>
 cond ((r_14.2.2 != 0) || (decide (r_2.2.1 < r_14.2.1)))
 (some false)
 (law07_DailyCounted_j19 N which more r_1 r_2))
 (law07_DailyCounted_j19 N which more r_1 r_2))) some)
theorem law07_DailyCounted_ok {N : Nat} {G : Pers} {Lf : List Ent} {w : World} (numbers : List Int) (which : Int) (more : Int) {numbers_p : Option Addr} {numbers_c : Nat} (h_numbers : Rd G 1 numbers_p numbers_c (numbers.map encI_u8)) (hc : Ctx G (Lf) w) {res : Bool} (hF : law07_DailyCounted N numbers which more = some res) : Calls Try.prog 3 #[.slice numbers_p numbers.length numbers_c,.int .u8 which,.int .u8 more] w (fun e w => e = .returned (.bool res) ∧ Ctx G (Lf) w) := by
 unfold law07_DailyCounted at hF
 refine fnIn Try.func3 rfl Try.ntmps3 rfl fun a hf => zS fun K h => sp 1 hf rfl fun a hf => zT h ?_
 refine zS fun K h => sp 1 hf rfl fun a hf => ?_
 obtain ⟨r,hr,hF⟩ := bnd_some hF
 refine zC hf en_5 rfl (kit_New_ok numbers h_numbers hc hr) ?_
 rintro _ w ⟨b_1,rfl,hc⟩
 refine ⟨_,rfl,fun a hf => ?_⟩
 obtain ⟨r_1,hr_1,hF⟩ := bnd_some hF
 refine zC hf en_4 rfl (law07_Counted_ok (⟨numbers,r.1,r.2⟩ : kit_Stream) 16 h_numbers (hc.pick k0) hr_1) ?_
 rintro _ w ⟨p_1,c_1,rfl,hc⟩
 refine ⟨_,rfl,fun a hf => ?_⟩
 refine sp 1 hf rfl fun a hf => zT h ?_
 refine zS fun K h => sp 1 hf rfl fun a hf => ?_
 obtain ⟨r_2,hr_2,hF⟩ := bnd_some hF
 obtain ⟨G1,hle1,hrd1,hc,hth1⟩ := lend hc k0
 refine zC hf en_6 rfl (daily_Correct_ok r_1.1 hrd1 hc hr_2) ?_
 rintro _ w ⟨p_2,c_2,rfl,hc⟩
 refine ⟨_,rfl,fun a hf => ?_⟩
 replace hc := hth1 _ _ hc
 refine sp 7 hf rfl fun a hf => zT h ?_
 refine wp_seq_k fun K4 h4 => zS fun K h => sp 3 hf rfl fun a hf => stCc 6 (fun a => Has 235 a [(1,.int .u8 which),(2,.int .u8 more),(7,.slice p_1 r_1.1.length c_1),(8,.slice p_2 r_2.1.length c_2),(9,i6 r_2.2.1),(10,i6 r_2.2.2),(41,i6 r_2.2.2),(42,.bool (r_2.2.2 != 0)),(43,.bool (r_2.2.2 != 0)),(49,.bool ((r_2.2.2 != 0) || (((r_2.1.length : Nat) : Int) != ((r_1.1.length : Nat) : Int))))]) hc ?_ ?_
 ·cases hb : (r_2.2.2 != 0)
  ·rw [hb] at hf
   refine sp 1 hf rfl fun a hf => zP hf rfl (pLenS Try.underlying27 rfl) fun a hf => sp 1 hf rfl fun a hf => zP hf rfl (pLenS Try.underlying23 rfl) fun a hf => sp 2 hf rfl fun a hf => cNil ⟨hf.kp rfl,hc⟩
  ·rw [hb] at hf
   refine stS hf rfl rfl rfl fun a hf => stS hf rfl rfl rfl fun a hf => stS hf rfl rfl rfl fun a hf => stS hf rfl rfl rfl fun a hf => stS hf rfl rfl rfl fun a hf => sp 1 hf rfl fun a hf => cNil ⟨hf.kp rfl,hc⟩
 intro a w ⟨hf,hc⟩
 refine zT h ?_
 refine zI hf rfl hF ?_ ?_ <;> clear hF <;> intro hF
 ·refine zS fun K h => sp 1 hf rfl fun a hf => zT h ?_
  refine wp_ret ?_
  refine xThenR ?_
  obtain rfl := sj hF
  replace hc := ((hc.drop k2).drop k1).drop k0
  exact zO1 Try.results3 hf rfl ⟨rfl,hc⟩
 ·refine wp_skip ?_
  refine h4 _ _ ?_
  refine zS fun K h => sp 1 hf rfl fun a hf => ?_
  obtain ⟨r_3,hr_3,hF⟩ := bnd_some hF
  obtain ⟨G1,hle1,hrd1,hc,hth1⟩ := lend hc k0
  refine zC hf en_7 rfl (kit_Copy_daily_Reading_ok r_1.1 hrd1 hc hr_3) ?_
  rintro _ w ⟨p_3,c_3,rfl,hc⟩
  refine ⟨_,rfl,fun a hf => ?_⟩
  replace hc := hth1 _ _ hc
  refine sp 1 hf rfl fun a hf => zT h ?_
  refine wp_seq_k fun K8 h8 => zS fun K h => sp 1 hf rfl fun a hf => zP hf rfl (pLenS Try.underlying23 rfl) fun a hf => sp 1 hf rfl fun a hf => zT h ?_
  refine wp_block ?_
  obtain ⟨x10,hx10,hF⟩ := bnd_some hF
  let S10 : ((List daily_Reading) × Int) → Act → World → Prop := (fun (zz : (List daily_Reading) × Int) a w => ∃ (p_4 : Option Addr) (c_4 : Nat) (p_5 : Option Addr) (c_5 : Nat),Has 235 a [(1,.int .u8 which),(2,.int .u8 more),(7,.slice p_1 r_1.1.length c_1),(8,.slice p_4 r_2.1.length c_4),(9,i6 r_2.2.1),(11,.slice p_5 zz.1.length c_5),(53,i6 ((r_3.length : Nat) : Int)),(54,i6 zz.2)] ∧ Ctx G (.row p_1 c_1 (r_1.1.map enc_daily_Reading) 33 2::.row p_5 c_5 (zz.1.map enc_daily_Reading) 33 2::.row p_4 c_4 (r_2.1.map encI_i64) 3 1::Lf) w)
  have hr10 : ∀ (zz : (List daily_Reading) × Int) a w,x10 = .go zz → S10 zz a w → K8 a w := by
   rintro ⟨right,x⟩ a w rfl ⟨p_4,c_4,p_5,c_5,hf,hc⟩
   replace hF := exK_go hF
   refine h8 _ _ ?_
   refine zS fun K h => sp 1 hf rfl fun a hf => ?_
   obtain ⟨r_4,hr_4,hF⟩ := bnd_some hF
   obtain ⟨G1,hle1,hrd1,hc,hth1⟩ := lend hc k1
   refine zC hf en_6 rfl (daily_Correct_ok right hrd1 hc hr_4) ?_
   rintro _ w ⟨p_6,c_6,rfl,hc⟩
   refine ⟨_,rfl,fun a hf => ?_⟩
   replace hc := hth1 _ _ hc
   refine sp 7 hf rfl fun a hf => zT h ?_
   refine zS fun K h => sp 1 hf rfl fun a hf => ?_
   obtain ⟨r_5,hr_5,hF⟩ := bnd_some hF
   obtain ⟨G1,hle1,hrd1,hc,hth1⟩ := lend hc k0
   refine zC hf en_8 rfl (daily_Falls_ok right hrd1 hc hr_5) ?_
   rintro _ w ⟨p_7,c_7,rfl,hc⟩
   refine ⟨_,rfl,fun a hf => ?_⟩
   replace hc := hth1 _ _ hc
   refine sp 5 hf rfl fun a hf => zT h ?_
   refine zS fun K h => sp 2 hf rfl fun a hf => ?_
   obtain ⟨r_6,hr_6,hF⟩ := bnd_some hF
   refine zQ (v := .tuple #[i6 r_6.1,i6 r_6.2]) hf hc en_9 rfl (fun w hc => by obtain ⟨G1,hle1,hrd1,hc,hth1⟩ := lend hc k0; obtain ⟨G2,hle2,hrd2,hc,hth2⟩ := lend hc k0; exact (daily_Proves_ok right r_5.1 (hrd1.mono hle2) hrd2 hc hr_6).mono fun e w h => ⟨h.1,((hth1 _ _ ((hth2 _ _ h.2).unpick k0)).unpick k0)⟩) fun a w hf hc => sp 5 hf rfl fun a hf => zT h ?_
   refine wp_seq_k fun K14 h14 => zS fun K h => sp 3 hf rfl fun a hf => stCc 3 (fun a => Has 235 a [(1,.int .u8 which),(2,.int .u8 more),(7,.slice p_1 r_1.1.length c_1),(8,.slice p_4 r_2.1.length c_4),(9,i6 r_2.2.1),(13,.slice p_6 r_4.1.length c_6),(14,i6 r_4.2.1),(10,i6 r_4.2.2),(16,i6 r_5.2),(17,i6 r_6.1),(18,i6 r_6.2),(83,i6 r_4.2.2),(84,.bool (r_4.2.2 != 0)),(85,.bool (r_4.2.2 != 0)),(88,.bool ((r_4.2.2 != 0) || (r_5.2 != 0)))]) hc ?_ ?_
   ·cases hb : (r_4.2.2 != 0)
    ·rw [hb] at hf
     refine sp 3 hf rfl fun a hf => cNil ⟨hf.kp rfl,hc⟩
    ·rw [hb] at hf
     refine stS hf rfl rfl rfl fun a hf => stS hf rfl rfl rfl fun a hf => sp 1 hf rfl fun a hf => cNil ⟨hf.kp rfl,hc⟩
   intro a w ⟨hf,hc⟩
   refine sp 1 hf rfl fun a hf => stCc 3 (fun a => Has 235 a [(1,.int .u8 which),(2,.int .u8 more),(7,.slice p_1 r_1.1.length c_1),(8,.slice p_4 r_2.1.length c_4),(9,i6 r_2.2.1),(13,.slice p_6 r_4.1.length c_6),(14,i6 r_4.2.1),(10,i6 r_4.2.2),(16,i6 r_5.2),(17,i6 r_6.1),(18,i6 r_6.2),(83,i6 r_4.2.2),(84,.bool (r_4.2.2 != 0)),(85,.bool (r_4.2.2 != 0)),(88,.bool ((r_4.2.2 != 0) || (r_5.2 != 0))),(89,.bool ((r_4.2.2 != 0) || (r_5.2 != 0))),(92,.bool (((r_4.2.2 != 0) || (r_5.2 != 0)) || (r_6.2 != 0)))]) hc ?_ ?_
   ·cases hb : ((r_4.2.2 != 0) || (r_5.2 != 0))
    ·rw [hb] at hf
     refine sp 3 hf rfl fun a hf => cNil ⟨hf.kp rfl,hc⟩
    ·rw [hb] at hf
     refine stS hf rfl rfl rfl fun a hf => stS hf rfl rfl rfl fun a hf => sp 1 hf rfl fun a hf => cNil ⟨hf.kp rfl,hc⟩
   intro a w ⟨hf,hc⟩
   refine sp 1 hf rfl fun a hf => stCc 3 (fun a => Has 235 a [(1,.int .u8 which),(2,.int .u8 more),(7,.slice p_1 r_1.1.length c_1),(8,.slice p_4 r_2.1.length c_4),(9,i6 r_2.2.1),(13,.slice p_6 r_4.1.length c_6),(14,i6 r_4.2.1),(10,i6 r_4.2.2),(16,i6 r_5.2),(17,i6 r_6.1),(18,i6 r_6.2),(83,i6 r_4.2.2),(84,.bool (r_4.2.2 != 0)),(85,.bool (r_4.2.2 != 0)),(88,.bool ((r_4.2.2 != 0) || (r_5.2 != 0))),(89,.bool ((r_4.2.2 != 0) || (r_5.2 != 0))),(92,.bool (((r_4.2.2 != 0) || (r_5.2 != 0)) || (r_6.2 != 0))),(93,.bool (((r_4.2.2 != 0) || (r_5.2 != 0)) || (r_6.2 != 0))),(96,.bool ((((r_4.2.2 != 0) || (r_5.2 != 0)) || (r_6.2 != 0)) || (r_4.2.1 != 0)))]) hc ?_ ?_
   ·cases hb : (((r_4.2.2 != 0) || (r_5.2 != 0)) || (r_6.2 != 0))
    ·rw [hb] at hf
     refine sp 3 hf rfl fun a hf => cNil ⟨hf.kp rfl,hc⟩
    ·rw [hb] at hf
     refine stS hf rfl rfl rfl fun a hf => stS hf rfl rfl rfl fun a hf => sp 1 hf rfl fun a hf => cNil ⟨hf.kp rfl,hc⟩
   intro a w ⟨hf,hc⟩
   refine sp 1 hf rfl fun a hf => stCc 3 (fun a => Has 235 a [(1,.int .u8 which),(2,.int .u8 more),(7,.slice p_1 r_1.1.length c_1),(8,.slice p_4 r_2.1.length c_4),(9,i6 r_2.2.1),(13,.slice p_6 r_4.1.length c_6),(14,i6 r_4.2.1),(10,i6 r_4.2.2),(16,i6 r_5.2),(17,i6 r_6.1),(18,i6 r_6.2),(83,i6 r_4.2.2),(84,.bool (r_4.2.2 != 0)),(85,.bool (r_4.2.2 != 0)),(88,.bool ((r_4.2.2 != 0) || (r_5.2 != 0))),(89,.bool ((r_4.2.2 != 0) || (r_5.2 != 0))),(92,.bool (((r_4.2.2 != 0) || (r_5.2 != 0)) || (r_6.2 != 0))),(93,.bool (((r_4.2.2 != 0) || (r_5.2 != 0)) || (r_6.2 != 0))),(96,.bool ((((r_4.2.2 != 0) || (r_5.2 != 0)) || (r_6.2 != 0)) || (r_4.2.1 != 0))),(97,.bool ((((r_4.2.2 != 0) || (r_5.2 != 0)) || (r_6.2 != 0)) || (r_4.2.1 != 0))),(100,.bool (((((r_4.2.2 != 0) || (r_5.2 != 0)) || (r_6.2 != 0)) || (r_4.2.1 != 0)) || (r_6.1 != 0)))]) hc ?_ ?_
   ·cases hb : ((((r_4.2.2 != 0) || (r_5.2 != 0)) || (r_6.2 != 0)) || (r_4.2.1 != 0))
    ·rw [hb] at hf
     refine sp 3 hf rfl fun a hf => cNil ⟨hf.kp rfl,hc⟩
    ·rw [hb] at hf
     refine stS hf rfl rfl rfl fun a hf => stS hf rfl rfl rfl fun a hf => sp 1 hf rfl fun a hf => cNil ⟨hf.kp rfl,hc⟩
   intro a w ⟨hf,hc⟩
   refine sp 1 hf rfl fun a hf => ?_
   obtain ⟨t_1,ht_1,hF⟩ := bnd_some hF
   refine stCc 5 (fun a => Has 235 a [(1,.int .u8 which),(2,.int .u8 more),(7,.slice p_1 r_1.1.length c_1),(8,.slice p_4 r_2.1.length c_4),(9,i6 r_2.2.1),(13,.slice p_6 r_4.1.length c_6),(14,i6 r_4.2.1),(10,i6 r_4.2.2),(16,i6 r_5.2),(17,i6 r_6.1),(18,i6 r_6.2),(83,i6 r_4.2.2),(84,.bool (r_4.2.2 != 0)),(85,.bool (r_4.2.2 != 0)),(88,.bool ((r_4.2.2 != 0) || (r_5.2 != 0))),(89,.bool ((r_4.2.2 != 0) || (r_5.2 != 0))),(92,.bool (((r_4.2.2 != 0) || (r_5.2 != 0)) || (r_6.2 != 0))),(93,.bool (((r_4.2.2 != 0) || (r_5.2 != 0)) || (r_6.2 != 0))),(96,.bool ((((r_4.2.2 != 0) || (r_5.2 != 0)) || (r_6.2 != 0)) || (r_4.2.1 != 0))),(97,.bool ((((r_4.2.2 != 0) || (r_5.2 != 0)) || (r_6.2 != 0)) || (r_4.2.1 != 0))),(100,.bool (((((r_4.2.2 != 0) || (r_5.2 != 0)) || (r_6.2 != 0)) || (r_4.2.1 != 0)) || (r_6.1 != 0))),(101,.bool (((((r_4.2.2 != 0) || (r_5.2 != 0)) || (r_6.2 != 0)) || (r_4.2.1 != 0)) || (r_6.1 != 0))),(106,.bool t_1)]) hc ?_ ?_
   ·cases hb : (((((r_4.2.2 != 0) || (r_5.2 != 0)) || (r_6.2 != 0)) || (r_4.2.1 != 0)) || (r_6.1 != 0))
    ·rw [hb] at hf
     have hF := condF hb ht_1
     refine sp 2 hf rfl fun a hf => ?_
     obtain ⟨r_7,hr_7,hF⟩ := bnd_some hF
     refine zQ (v := .bool r_7) hf hc en_10 rfl (fun w hc => by obtain ⟨G1,hle1,hrd1,hc,hth1⟩ := lend hc k4; obtain ⟨G2,hle2,hrd2,hc,hth2⟩ := lend hc k2; exact (kit_Same_int_ok r_2.1 r_4.1 (hrd1.mono hle2) hrd2 hc hr_7).mono fun e w h => ⟨h.1,((hth1 _ _ ((hth2 _ _ h.2).unpick k2)).unpick k4)⟩) fun a w hf hc => sp 2 hf rfl fun a hf => ?_
     obtain rfl := sj hF
     exact cNil ⟨hf.kp rfl,hc⟩
    ·rw [hb] at hf
     have hF := condT hb ht_1
     obtain rfl := sj hF
     refine stS hf rfl rfl rfl fun a hf => stS hf rfl rfl rfl fun a hf => stS hf rfl rfl rfl fun a hf => stS hf rfl rfl rfl fun a hf => sp 1 hf rfl fun a hf => cNil ⟨hf.kp rfl,hc⟩
   intro a w ⟨hf,hc⟩
   refine zT h ?_
   refine zI hf rfl hF ?_ ?_ <;> clear hF <;> intro hF
   ·refine zS fun K h => sp 1 hf rfl fun a hf => zT h ?_
    refine wp_ret ?_
    refine xThenR ?_
    obtain rfl := sj hF
    replace hc := ((((hc.drop k4).drop k3).drop k2).drop k1).drop k0
    exact zO1 Try.results3 hf rfl ⟨rfl,hc⟩
   ·refine wp_skip ?_
    refine h14 _ _ ?_
    refine zS fun K h => sp 1 hf rfl fun a hf => zP hf rfl (pCv Try.underlying5 Try.underlying3 rfl) fun a hf => sp 1 hf rfl fun a hf => zP hf rfl (pLenS Try.underlying23 rfl) fun a hf => ?_
    obtain ⟨un,hun,hF⟩ := bnd_some hF
    refine zP hf rfl (pRem rfl rfl (nz_spec hun)) fun a hf => sp 1 hf rfl fun a hf => zT h ?_
    refine zS fun K h => sp 1 hf rfl fun a hf => ?_
    obtain ⟨r_8,hr_8,hF⟩ := bnd_some hF
    obtain ⟨G1,hle1,hrd1,hc,hth1⟩ := lend hc k3
    refine zC hf en_7 rfl (kit_Copy_daily_Reading_ok r_1.1 hrd1 hc hr_8) ?_
    rintro _ w ⟨p_8,c_8,rfl,hc⟩
    refine ⟨_,rfl,fun a hf => ?_⟩
    replace hc := hth1 _ _ hc
    refine sp 3 hf rfl fun a hf => ?_
    obtain ⟨r_9,hr_9,hF⟩ := bnd_some hF
    refine zC hf en_11 rfl (slices_Delete_Ldaily_Reading_daily_Reading_ok r_8 ((W (which)).tmod ((r_1.1.length : Nat) : Int)) (W (((W (which)).tmod ((r_1.1.length : Nat) : Int)) + 1)) (hc.pick k1) hr_9) ?_
    rintro _ w ⟨p_9,c_9,rfl,hc⟩
    refine ⟨_,rfl,fun a hf => ?_⟩
    refine sp 1 hf rfl fun a hf => zT h ?_
    refine wp_seq_k fun K19 h19 => ?_
    have hj19 : ∀ a w,Has 235 a [(2,.int .u8 more),(7,.slice p_1 r_1.1.length c_1),(8,.slice p_4 r_2.1.length c_4),(9,i6 r_2.2.1),(19,i6 ((W (which)).tmod ((r_1.1.length : Nat) : Int)))] → Ctx G (.row p_1 c_1 (r_1.1.map enc_daily_Reading) 33 2::.row p_4 c_4 (r_2.1.map encI_i64) 3 1::Lf) w → law07_DailyCounted_j19 N which more r_1 r_2 = some res → K19 a w := by
     repeat (clear hF)
     repeat (clear hc)
     repeat (clear hf)
     intro a w hf hc hF
     unfold law07_DailyCounted_j19 at hF
     refine h19 _ _ ?_
     refine zS fun K h => sp 1 hf rfl fun a hf => ?_
     obtain ⟨r_10,hr_10,hF⟩ := bnd_some hF
     obtain ⟨G1,hle1,hrd1,hc,hth1⟩ := lend hc k0
     refine zC hf en_7 rfl (kit_Copy_daily_Reading_ok r_1.1 hrd1 hc hr_10) ?_
     rintro _ w ⟨p_10,c_10,rfl,hc⟩
     refine ⟨_,rfl,fun a hf => ?_⟩
     replace hc := hth1 _ _ hc
     refine sp 1 hf rfl fun a hf => zT h ?_
     refine zS fun K h => sp 1 hf rfl fun a hf => zP hf rfl (pCv Try.underlying5 Try.underlying3 rfl) fun a hf => sp 2 hf rfl fun a hf => ?_
     obtain ⟨e_1,he_1,hF⟩ := bnd_some hF
     obtain ⟨g,rfl,qa,qr⟩ := row_atm hc m0 he_1
     refine zP hf rfl (pIA Try.underlying23 sz_33 rfl rfl qa) fun a hf => zP hf rfl (pFA fa_33_1 rfl) fun a hf => zE hf hc rfl (eLd1 sc_3 rfl (cell_row (sz := 2) (i := ((W (which)).tmod ((r_1.1.length : Nat) : Int)).toNat) (j := 1) m0 qr rfl)) fun a w hf hc => sp 2 hf rfl fun a hf => ?_
     obtain ⟨un_1,hun_1,hF⟩ := bnd_some hF
     refine zP hf rfl (pRem rfl rfl (nz_spec hun_1)) fun a hf => sp 1 hf rfl fun a hf => zT h ?_
     refine zS fun K h => sp 2 hf rfl fun a hf => ?_
     obtain ⟨e_2,he_2,hF⟩ := bnd_some hF
     obtain ⟨g_1,rfl,qa_1,qr_1⟩ := row_atm hc m1 he_2
     refine zP hf rfl (pIA Try.underlying23 sz_33 rfl rfl qa_1) fun a hf => zP hf rfl (pFA fa_33_1 rfl) fun a hf => zE hf hc rfl (eLd1 sc_3 rfl (cell_row (sz := 2) (i := ((W (which)).tmod ((r_1.1.length : Nat) : Int)).toNat) (j := 1) m1 qr_1 rfl)) fun a w hf hc => sp 2 hf rfl fun a hf => ?_
     obtain ⟨e_3,he_3,hF⟩ := bnd_some hF
     obtain ⟨qa_2,qr_2⟩ := row_atk hc m1 he_3
     refine zP hf rfl (pIA Try.underlying23 sz_33 rfl rfl qa_2) fun a hf => zP hf rfl (pFA fa_33_1 rfl) fun a hf => stRw (sz := 2) (vs := [i6 (W (e_2.Weight + ((W (more)).tmod (W ((W (100 - e_1.Weight)) + 1)))))]) (o' := 1) (z := (⟨e_3.Value,W (e_2.Weight + ((W (more)).tmod (W ((W (100 - e_1.Weight)) + 1))))⟩ : daily_Reading)) (xs := r_10) hf hc rfl rfl rfl rfl sz_3 rfl (fun x => (one_enc_daily_Reading x).1) (getI_lt he_3) (fun e' he' => by cases (he'.symm.trans (getI_spec he_3).2); rfl) rfl u1 fun w hc => zT h ?_
     refine zS fun K h => sp 1 hf rfl fun a hf => ?_
     obtain ⟨r_11,hr_11,hF⟩ := bnd_some hF
     obtain ⟨G1,hle1,hrd1,hc,hth1⟩ := lend hc k1
     refine zC hf en_6 rfl (by have hq := daily_Correct_ok (r_10.set ((W (which)).tmod ((r_1.1.length : Nat) : Int)).toNat (⟨e_3.Value,W (e_2.Weight + ((W (more)).tmod (W ((W (100 - e_1.Weight)) + 1))))⟩ : daily_Reading)) hrd1 hc hr_11; (try simp only [List.length_set] at hq); exact hq) ?_
     rintro _ w ⟨p_11,c_11,rfl,hc⟩
     refine ⟨_,rfl,fun a hf => ?_⟩
     replace hc := hth1 _ _ hc
     refine sp 7 hf rfl fun a hf => zT h ?_
     refine wp_seq_k fun K24 h24 => wp_seq_k fun K25 h25 => ?_
     obtain ⟨t_2,ht_2,hF⟩ := bnd_some hF
     refine cQ hc follows_mx (by kernel_rfl) ?_
     refine qE hf rfl rfl rfl (Pu.ev (pM rfl)) fun a hf => qE hf rfl rfl rfl (Pu.ev (pNe rfl rfl)) fun a hf => qE hf rfl rfl rfl (Pu.ev (pM rfl)) fun a hf => qCut 4 (fun a => Has 235 a [(7,.slice (some ⟨g,0,none⟩) r_1.1.length c_1),(8,.slice p_4 r_2.1.length c_4),(9,i6 r_2.2.1),(19,i6 ((W (which)).tmod ((r_1.1.length : Nat) : Int))),(25,i6 ((W (more)).tmod (W ((W (100 - e_1.Weight)) + 1)))),(27,i6 r_11.2.1),(10,i6 r_11.2.2),(161,i6 r_11.2.2),(162,.bool (r_11.2.2 != 0)),(163,.bool (r_11.2.2 != 0)),(167,.bool ((r_11.2.2 != 0) || (decide (r_11.2.1 < r_2.2.1))))]) ?_ ?_
     ·cases hb : (r_11.2.2 != 0)
      ·rw [hb] at hf
       refine qE hf rfl rfl rfl (Pu.ev (pM rfl)) fun a hf => qE hf rfl rfl rfl (Pu.ev (pM rfl)) fun a hf => qE hf rfl rfl rfl (Pu.ev (pLt rfl rfl)) fun a hf => qE hf rfl rfl rfl (Pu.ev (pPf rfl rfl)) fun a hf => qNil (hf.kp rfl)
      ·rw [hb] at hf
       refine qS hf rfl rfl rfl fun a hf => qS hf rfl rfl rfl fun a hf => qS hf rfl rfl rfl fun a hf => qE hf rfl rfl rfl (Pu.ev (pPt rfl rfl)) fun a hf => qNil (hf.kp rfl)
     intro a hf
     refine qE hf rfl rfl rfl (Pu.ev (pM rfl)) fun a hf => qCut 28 (fun a => Has 235 a [(7,.slice (some ⟨g,0,none⟩) r_1.1.length c_1),(8,.slice p_4 r_2.1.length c_4),(9,i6 r_2.2.1),(19,i6 ((W (which)).tmod ((r_1.1.length : Nat) : Int))),(25,i6 ((W (more)).tmod (W ((W (100 - e_1.Weight)) + 1)))),(27,i6 r_11.2.1),(10,i6 r_11.2.2),(161,i6 r_11.2.2),(162,.bool (r_11.2.2 != 0)),(163,.bool (r_11.2.2 != 0)),(167,.bool ((r_11.2.2 != 0) || (decide (r_11.2.1 < r_2.2.1)))),(168,.bool ((r_11.2.2 != 0) || (decide (r_11.2.1 < r_2.2.1)))),(196,.bool t_2)]) ?_ ?_
     ·cases hb : ((r_11.2.2 != 0) || (decide (r_11.2.1 < r_2.2.1)))
      ·rw [hb] at hf
       have hF := condF hb ht_2
       obtain ⟨e_4,he_4,hF⟩ := bnd_some hF
       obtain ⟨g_2,rfl,qa_3,qr_3⟩ := row_atm hc m3 he_4
       obtain ⟨e_5,he_5,hF⟩ := bnd_some hF
       obtain ⟨qa_4,qr_4⟩ := row_atk hc m2 he_5
       obtain ⟨e_6,he_6,hF⟩ := bnd_some hF
       obtain ⟨qa_5,qr_5⟩ := row_atk hc m2 he_6
       obtain ⟨e_7,he_7,hF⟩ := bnd_some hF
       obtain ⟨qa_6,qr_6⟩ := row_atk hc m3 he_7
       refine qE hf rfl rfl rfl (Pu.ev (pM rfl)) fun a hf => qE hf rfl rfl rfl (Pu.ev (pM rfl)) fun a hf => qE hf rfl rfl rfl (Pu.ev (pM rfl)) fun a hf => qE hf rfl rfl rfl (Pu.ev (pM rfl)) fun a hf => qE hf rfl rfl rfl (Pu.ev (pM rfl)) fun a hf => qE hf rfl rfl rfl (Pu.ev (pIA Try.underlying27 sz_3 rfl rfl qa_3)) fun a hf => qE hf rfl rfl rfl (eLd1 sc_3 rfl (cell_row (sz := 1) (i := ((W (which)).tmod ((r_1.1.length : Nat) : Int)).toNat) (j := 0) m3 qr_3 rfl)) fun a hf => qE hf rfl rfl rfl (Pu.ev (pM rfl)) fun a hf => qE hf rfl rfl rfl (Pu.ev (pM rfl)) fun a hf => qE hf rfl rfl rfl (Pu.ev (pIA Try.underlying23 sz_33 rfl rfl qa_4)) fun a hf => qE hf rfl rfl rfl (Pu.ev (pFA fa_33_0 rfl)) fun a hf => qE hf rfl rfl rfl (eLd1 sc_3 rfl (cell_row (sz := 2) (i := ((W (which)).tmod ((r_1.1.length : Nat) : Int)).toNat) (j := 0) m2 qr_4 rfl)) fun a hf => qE hf rfl rfl rfl (Pu.ev (pSub rfl rfl)) fun a hf => ?_
       refine qE hf rfl rfl rfl (Pu.ev (pM rfl)) fun a hf => qE hf rfl rfl rfl (Pu.ev (pM rfl)) fun a hf => qE hf rfl rfl rfl (Pu.ev (pIA Try.underlying23 sz_33 rfl rfl qa_5)) fun a hf => qE hf rfl rfl rfl (Pu.ev (pFA fa_33_0 rfl)) fun a hf => qE hf rfl rfl rfl (eLd1 sc_3 rfl (cell_row (sz := 2) (i := ((W (which)).tmod ((r_1.1.length : Nat) : Int)).toNat) (j := 0) m2 qr_5 rfl)) fun a hf => qE hf rfl rfl rfl (Pu.ev (pM rfl)) fun a hf => qE hf rfl rfl rfl (Pu.ev (pM rfl)) fun a hf => qE hf rfl rfl rfl (Pu.ev (pIA Try.underlying27 sz_3 rfl rfl qa_6)) fun a hf => qE hf rfl rfl rfl (eLd1 sc_3 rfl (cell_row (sz := 1) (i := ((W (which)).tmod ((r_1.1.length : Nat) : Int)).toNat) (j := 0) m3 qr_6 rfl)) fun a hf => qE hf rfl rfl rfl (Pu.ev (pSub rfl rfl)) fun a hf => qE hf rfl rfl rfl (Pu.ev (pMax2 rfl rfl)) fun a hf => qE hf rfl rfl rfl (Pu.ev (pMul rfl rfl)) fun a hf => qE hf rfl rfl rfl (Pu.ev (pAdd rfl rfl)) fun a hf => ?_
       refine qE hf rfl rfl rfl (Pu.ev (pGt rfl rfl)) fun a hf => qE hf rfl rfl rfl (Pu.ev (pPf rfl rfl)) fun a hf => ?_
       obtain rfl := sj hF
       exact qNil (hf.kp rfl)
      ·rw [hb] at hf
       have hF := condT hb ht_2
       obtain rfl := sj hF
       refine qS hf rfl rfl rfl fun a hf => qS hf rfl rfl rfl fun a hf => qS hf rfl rfl rfl fun a hf => qS hf rfl rfl rfl fun a hf => qS hf rfl rfl rfl fun a hf => qS hf rfl rfl rfl fun a hf => qS hf rfl rfl rfl fun a hf => qS hf rfl rfl rfl fun a hf => qS hf rfl rfl rfl fun a hf => qS hf rfl rfl rfl fun a hf => qS hf rfl rfl rfl fun a hf => qS hf rfl rfl rfl fun a hf => qS hf rfl rfl rfl fun a hf => ?_
       refine qS hf rfl rfl rfl fun a hf => qS hf rfl rfl rfl fun a hf => qS hf rfl rfl rfl fun a hf => qS hf rfl rfl rfl fun a hf => qS hf rfl rfl rfl fun a hf => qS hf rfl rfl rfl fun a hf => qS hf rfl rfl rfl fun a hf => qS hf rfl rfl rfl fun a hf => qS hf rfl rfl rfl fun a hf => qS hf rfl rfl rfl fun a hf => qS hf rfl rfl rfl fun a hf => qS hf rfl rfl rfl fun a hf => qS hf rfl rfl rfl fun a hf => ?_
       refine qS hf rfl rfl rfl fun a hf => qE hf rfl rfl rfl (Pu.ev (pPt rfl rfl)) fun a hf => qNil (hf.kp rfl)
     intro a hf
     intro w hc
     refine h25 _ _ ?_
     refine zI hf rfl hF ?_ ?_ <;> clear hF <;> intro hF
     ·refine zS fun K h => sp 1 hf rfl fun a hf => zT h ?_
      refine wp_ret ?_
      refine xThenR ?_
      obtain rfl := sj hF
      replace hc := (((hc.drop k3).drop k2).drop k1).drop k0
      exact zO1 Try.results3 hf rfl ⟨rfl,hc⟩
     ·refine wp_skip ?_
      refine h24 _ _ ?_
      refine zS fun K h => sp 1 hf rfl fun a hf => zT h ?_
      refine wp_seq_k fun K28 h28 => zS fun K h => sp 1 hf rfl fun a hf => zP hf rfl (pLenS Try.underlying23 rfl) fun a hf => sp 2 hf rfl fun a hf => zT h ?_
      refine wp_block ?_
      obtain ⟨x30,hx30,hF⟩ := bnd_some hF
      let S30 : ((List daily_Reading) × Int) → Act → World → Prop := (fun (zz : (List daily_Reading) × Int) a w => ∃ (p_12 : Option Addr) (c_12 : Nat),Has 235 a [(7,.slice (some ⟨g,0,none⟩) r_1.1.length c_1),(9,i6 r_2.2.1),(28,.slice p_12 zz.1.length c_12),(29,i6 zz.2)] ∧ Ctx G (.row p_12 c_12 (zz.1.map enc_daily_Reading) 33 2::.row (some ⟨g,0,none⟩) c_1 (r_1.1.map enc_daily_Reading) 33 2::Lf) w)
      have hr30 : ∀ (zz : (List daily_Reading) × Int) a w,x30 = .go zz → S30 zz a w → K28 a w := by
       rintro ⟨back,k⟩ a w rfl ⟨p_12,c_12,hf,hc⟩
       replace hF := exK_go hF
       refine h28 _ _ ?_
       refine zS fun K h => sp 1 hf rfl fun a hf => ?_
       obtain ⟨r_12,hr_12,hF⟩ := bnd_some hF
       obtain ⟨G1,hle1,hrd1,hc,hth1⟩ := lend hc k0
       refine zC hf en_6 rfl (daily_Correct_ok back hrd1 hc hr_12) ?_
       rintro _ w ⟨p_13,c_13,rfl,hc⟩
       refine ⟨_,rfl,fun a hf => ?_⟩
       replace hc := hth1 _ _ hc
       refine sp 7 hf rfl fun a hf => zT h ?_
       refine zS fun K h => sp 3 hf rfl fun a hf => stCc 4 (fun a => Has 235 a [(9,i6 r_2.2.1),(31,i6 r_12.2.1),(10,i6 r_12.2.2),(225,i6 r_12.2.2),(226,.bool (r_12.2.2 == 0)),(227,.bool (r_12.2.2 == 0)),(231,.bool ((r_12.2.2 == 0) && (r_12.2.1 == r_2.2.1)))]) hc ?_ ?_
       ·cases hb : (r_12.2.2 == 0)
        ·rw [hb] at hf
         refine stS hf rfl rfl rfl fun a hf => stS hf rfl rfl rfl fun a hf => stS hf rfl rfl rfl fun a hf => sp 1 hf rfl fun a hf => cNil ⟨hf.kp rfl,hc⟩
        ·rw [hb] at hf
         refine sp 4 hf rfl fun a hf => cNil ⟨hf.kp rfl,hc⟩
       intro a w ⟨hf,hc⟩
       refine sp 1 hf rfl fun a hf => ?_
       obtain ⟨t_3,ht_3,hF⟩ := bnd_some hF
       refine stCc 2 (fun a => Has 235 a [(9,i6 r_2.2.1),(31,i6 r_12.2.1),(10,i6 r_12.2.2),(225,i6 r_12.2.2),(226,.bool (r_12.2.2 == 0)),(227,.bool (r_12.2.2 == 0)),(231,.bool ((r_12.2.2 == 0) && (r_12.2.1 == r_2.2.1))),(232,.bool ((r_12.2.2 == 0) && (r_12.2.1 == r_2.2.1))),(234,.bool t_3)]) hc ?_ ?_
       ·cases hb : ((r_12.2.2 == 0) && (r_12.2.1 == r_2.2.1))
        ·rw [hb] at hf
         have hF := condF hb ht_3
         obtain rfl := sj hF
         refine stS hf rfl rfl rfl fun a hf => sp 1 hf rfl fun a hf => cNil ⟨hf.kp rfl,hc⟩
        ·rw [hb] at hf
         have hF := condT hb ht_3
         obtain ⟨r_13,hr_13,hF⟩ := bnd_some hF
         refine zQ (v := .bool r_13) hf hc en_12 rfl (fun w hc => law07_awake_ok hc hr_13) fun a w hf hc => sp 1 hf rfl fun a hf => ?_
         obtain rfl := sj hF
         exact cNil ⟨hf.kp rfl,hc⟩
       intro a w ⟨hf,hc⟩
       refine sp 1 hf rfl fun a hf => zT h ?_
       refine wp_ret ?_
       obtain rfl := sj hF
       replace hc := ((hc.drop k2).drop k1).drop k0
       exact zO1 Try.results3 hf rfl ⟨rfl,hc⟩
      have ho30 : ∀ r,x30 = .out r → r = res := by
       rintro r rfl
       exact sj hF
      replace hc := hc.nilRow 33 2
      replace hc := ((hc.drop k4).drop k2).drop k1
      refine cLoop N (loopW (S := S30) (x := x30) ?_ N (([] : List daily_Reading),W (((r_1.1.length : Nat) : Int) - 1)) _ _ ⟨none,0,hf.kp rfl,hc⟩ hx30)
      clear hF hf hc
      rintro ⟨back,k⟩ st30 a w KB30 ⟨p_12,c_12,hf,hc⟩ hF hfin30 hK30
      unfold law07_DailyCounted_b30 at hF
      refine wp_seq_k fun K33 h33 => zS fun K h => sp 2 hf rfl fun a hf => zT h ?_
      refine zI hf rfl hF ?_ ?_ <;> clear hF <;> intro hF
      ·refine wp_skip ?_
       refine h33 _ _ ?_
       refine wp_seq_k fun K35 h35 => wp_block ?_
       obtain ⟨e_8,he_8,hF⟩ := bnd_some hF
       obtain ⟨qa_7,qr_7⟩ := row_atk hc m1 he_8
       obtain ⟨e_9,he_9,hF⟩ := bnd_some hF
       obtain ⟨qa_8,qr_8⟩ := row_atk hc m1 he_9
       obtain ⟨un_2,hun_2,hF⟩ := bnd_some hF
       replace hc := hc.nilRow 0 0
       refine regionE (fun θ => [⟨none,none,7,.slice (some ⟨g,0,none⟩) r_1.1.length c_1⟩,⟨none,none,9,i6 r_2.2.1⟩,⟨none,some 15,28,.slice p_12 back.length c_12⟩,⟨none,none,29,i6 k⟩,⟨some 0,none,204,.slice p_12 back.length c_12⟩,⟨some 1,none,205,.slice (some ⟨g,0,none⟩) r_1.1.length c_1⟩,⟨some 2,none,206,i6 k⟩,⟨some 3,none,207,.pointer (some ⟨g,k.toNat * 2,none⟩)⟩,⟨some 4,none,208,.pointer (some ⟨g,k.toNat * 2 + 0,none⟩)⟩,⟨some 5,none,209,i6 e_8.Value⟩,⟨some 6,none,210,i6 (W (1000000 - e_8.Value))⟩,⟨some 7,none,211,.slice (some ⟨g,0,none⟩) r_1.1.length c_1⟩,⟨some 8,none,212,i6 k⟩,⟨some 9,none,213,.pointer (some ⟨g,k.toNat * 2,none⟩)⟩,⟨some 10,none,214,.pointer (some ⟨g,k.toNat * 2 + 1,none⟩)⟩,⟨some 11,none,215,i6 e_9.Weight⟩,⟨some 12,none,216,.agg #[i6 (W (1000000 - e_8.Value)),i6 e_9.Weight]⟩,⟨some 13,none,217,.slice (some ⟨(θ 104).b,0,none⟩) 1 1⟩,⟨some 14,none,218,.slice ((θ 112).p) ((back ++ [(⟨W (1000000 - e_8.Value),e_9.Weight⟩ : daily_Reading)]).length) ((θ 112).c)⟩,⟨some 15,none,28,.slice ((θ 112).p) ((back ++ [(⟨W (1000000 - e_8.Value),e_9.Weight⟩ : daily_Reading)]).length) ((θ 112).c)⟩]) (fun E θ => (bif E 13 then .row (some ⟨(θ 104).b,0,none⟩) 1 (([(⟨W (1000000 - e_8.Value),e_9.Weight⟩ : daily_Reading)] : List daily_Reading).map enc_daily_Reading) 33 2 else .row none 0 [] 0 0)::(bif E 14 then .row ((θ 112).p) ((θ 112).c) ((back ++ [(⟨W (1000000 - e_8.Value),e_9.Weight⟩ : daily_Reading)]).map enc_daily_Reading) 33 2 else .row p_12 c_12 (back.map enc_daily_Reading) 33 2)::.row (some ⟨g,0,none⟩) c_1 (r_1.1.map enc_daily_Reading) 33 2::Lf) [(15,0),(15,14)] (fun a w => ∃ (p_15 : Option Addr) (c_15 : Nat) (b_3 : Nat),Has 235 a [(7,.slice (some ⟨g,0,none⟩) r_1.1.length c_1),(9,i6 r_2.2.1),(29,i6 k),(28,.slice p_15 ((back ++ [(⟨W (1000000 - e_8.Value),e_9.Weight⟩ : daily_Reading)]).length) c_15)] ∧ Ctx G (.row (some ⟨b_3,0,none⟩) 1 (([(⟨W (1000000 - e_8.Value),e_9.Weight⟩ : daily_Reading)] : List daily_Reading).map enc_daily_Reading) 33 2::.row p_15 c_15 ((back ++ [(⟨W (1000000 - e_8.Value),e_9.Weight⟩ : daily_Reading)]).map enc_daily_Reading) 33 2::.row (some ⟨g,0,none⟩) c_1 (r_1.1.map enc_daily_Reading) 33 2::Lf) w) follows_mx (by kernel_rfl) (by kernel_rfl) (HasE.of hf ⟨rfl,rfl,rfl,rfl,trivial,trivial,trivial,trivial,trivial,trivial,trivial,trivial,trivial,trivial,trivial,trivial,trivial,trivial,trivial,trivial,trivial⟩) hc ⟨?_,?_,?_,?_,?_,?_,?_,?_,?_,?_,?_,?_,?_,?_,?_,?_,trivial⟩ ?_ ?_
       ·intro E θ a w hD hi hp he hc
        have e15 := hD.f 0 rfl hi
        have hf := he.h0.mN he 2 rfl e15
        refine sp 1 hf rfl fun a hf => zD θ he hi hf 4 rfl rfl rfl hc
       ·intro E θ a w hD hi hp he hc
        have hf := he.h0.mT he 0 rfl
        refine sp 1 hf rfl fun a hf => zD θ he hi hf 5 rfl rfl rfl hc
       ·intro E θ a w hD hi hp he hc
        have hf := he.h0.mT he 3 rfl
        refine sp 1 hf rfl fun a hf => zD θ he hi hf 6 rfl rfl rfl hc
       ·intro E θ a w hD hi hp he hc
        have e1 := hp.o 1 rfl
        have e2 := hp.o 2 rfl
        have hf := (he.h0.mP he 5 rfl e1).mP he 6 rfl e2
        refine zP hf rfl (pIA Try.underlying23 sz_33 rfl rfl qa_7) fun a hf => zD θ he hi hf 7 rfl rfl rfl hc
       ·intro E θ a w hD hi hp he hc
        have e3 := hp.o 3 rfl
        have hf := he.h0.mP he 7 rfl e3
        refine zP hf rfl (pFA fa_33_0 rfl) fun a hf => zD θ he hi hf 8 rfl rfl rfl hc
       ·intro E θ a w hD hi hp he hc
        have e4 := hp.o 4 rfl
        have hf := he.h0.mP he 8 rfl e4
        refine zE hf hc rfl (eLd1 sc_3 rfl (cell_row (sz := 2) (i := k.toNat) (j := 0) m2 qr_7 rfl)) fun a w hf hc => zD θ he hi hf 9 rfl rfl rfl hc
       ·intro E θ a w hD hi hp he hc
        have e5 := hp.o 5 rfl
        have hf := he.h0.mP he 9 rfl e5
        refine sp 1 hf rfl fun a hf => zD θ he hi hf 10 rfl rfl rfl hc
       ·intro E θ a w hD hi hp he hc
        have hf := he.h0.mT he 0 rfl
        refine sp 1 hf rfl fun a hf => zD θ he hi hf 11 rfl rfl rfl hc
       ·intro E θ a w hD hi hp he hc
        have hf := he.h0.mT he 3 rfl
        refine sp 1 hf rfl fun a hf => zD θ he hi hf 12 rfl rfl rfl hc
       ·intro E θ a w hD hi hp he hc
        have e7 := hp.o 7 rfl
        have e8 := hp.o 8 rfl
        have hf := (he.h0.mP he 11 rfl e7).mP he 12 rfl e8
        refine zP hf rfl (pIA Try.underlying23 sz_33 rfl rfl qa_8) fun a hf => zD θ he hi hf 13 rfl rfl rfl hc
       ·intro E θ a w hD hi hp he hc
        have e9 := hp.o 9 rfl
        have hf := he.h0.mP he 13 rfl e9
        refine zP hf rfl (pFA fa_33_1 rfl) fun a hf => zD θ he hi hf 14 rfl rfl rfl hc
       ·intro E θ a w hD hi hp he hc
        have e10 := hp.o 10 rfl
        have hf := he.h0.mP he 14 rfl e10
        refine zE hf hc rfl (eLd1 sc_3 rfl (cell_row (sz := 2) (i := k.toNat) (j := 1) m2 qr_8 rfl)) fun a w hf hc => zD θ he hi hf 15 rfl rfl rfl hc
       ·intro E θ a w hD hi hp he hc
        have e6 := hp.o 6 rfl
        have e11 := hp.o 11 rfl
        have hf := (he.h0.mP he 10 rfl e6).mP he 15 rfl e11
        refine zP hf rfl (pBuildS (cells := [i6 (W (1000000 - e_8.Value)),i6 e_9.Weight]) bt_33 rfl rfl) fun a hf => zD θ he hi hf 16 rfl rfl rfl hc
       ·intro E θ a w hD hi hp he hc
        have e12 := hp.o 12 rfl
        try dsimp only at hc
        rw [hi] at hc
        have hf := he.h0.mP he 16 rfl e12
        refine stBS (rows := ([(⟨W (1000000 - e_8.Value),e_9.Weight⟩ : daily_Reading)] : List daily_Reading).map enc_daily_Reading) (vs := [(0,.agg #[i6 (W (1000000 - e_8.Value)),i6 e_9.Weight])]) hf hc rfl rfl sl_23 rfl ⟨rfl,rfl,rfl,trivial⟩ rfl rfl fun b_2 a w hf hc => cNil ?_
        refine xThenN ?_
        intro ds u hau
        replace hc := hc.drop k1
        refine ⟨(setT θ 104 ⟨b_2,none,0,(fun _ => (none,0))⟩),he.put hi hau hf rfl [] trivial ⟨qq,qq,qq,qq,qq,qq,qq,qq,qq,qq,qq,qq,qq,qq,qq,qq,qq,qq,qq,qq,trivial⟩,?_⟩
        try dsimp only
        rw [updE_self E 13]
        exact hc
       ·intro E θ a w hD hi hp he hc
        have e0 := hp.o 0 rfl
        have e13 := hp.o 13 rfl
        have e15 := hD.f 1 rfl hi
        try dsimp only at hc
        rw [e13,hi] at hc
        have hf := (he.h0.mP he 4 rfl e0).mP he 17 rfl e13
        refine stApm (xs := back) (ys := ([(⟨W (1000000 - e_8.Value),e_9.Weight⟩ : daily_Reading)] : List daily_Reading)) hf hc rfl rfl sl_23 rfl rfl rfl rfl rfl one_enc_daily_Reading (src_row hc m0) (fun _ _ => u1) (by simpa using room_spec hun_2) fun p_14 c_14 a w hf hc => cNil ?_
        refine xThenN ?_
        intro ds u hau
        refine ⟨(setT θ 112 ⟨0,p_14,c_14,(fun _ => (none,0))⟩),he.put hi hau hf rfl [15] ⟨⟨e15,rfl⟩,trivial⟩ ⟨qq,qq,qq,qq,qq,qq,qq,qq,qq,qq,qq,qq,qq,qq,qq,qq,qq,qq,qq,trivial,trivial⟩,?_⟩
        try dsimp only
        rw [updE_tru 14 e13,updE_self E 14]
        exact hc
       ·intro E θ a w hD hi hp he hc
        have e14 := hp.o 14 rfl
        have hf := he.h0.mP he 18 rfl e14
        refine sp 1 hf rfl fun a hf => zD θ he hi hf 19 rfl rfl rfl hc
       ·intro E θ a w hall he hc
        have hf := he.h0
        have e13 := hall 13 rfl
        have e14 := hall 14 rfl
        have e15 := hall 15 rfl
        replace hf := hf.more he 19 rfl (onP e15)
        replace hf := hf.more he 3 rfl (onT)
        replace hf := hf.more he 1 rfl (onT)
        replace hf := hf.more he 0 rfl (onT)
        try dsimp only at hc
        rw [e13,e14] at hc
        exact ⟨(θ 112).p,(θ 112).c,(θ 104).b,hf.kp rfl,hc⟩
       rintro a w ⟨p_15,c_15,b_3,hf,hc⟩
       refine h35 _ _ ?_
       refine cReg ?_
       refine sp 3 hf rfl fun a hf => cNil ?_
       replace hc := hc.drop k0
       exact hK30 ((back ++ [(⟨W (1000000 - e_8.Value),e_9.Weight⟩ : daily_Reading)]),W (k - 1)) _ _ (sj hF).symm ⟨p_15,c_15,hf.kp rfl,hc⟩
      ·refine wp_exit ?_
       refine xThen ?_
       refine xThen ?_
       have he := sj hF
       rw [← he] at hfin30
       refine cHit ?_
       exact hr30 _ _ _ hfin30 ⟨p_12,c_12,hf.kp rfl,hc⟩
    refine zS fun K h => sp 1 hf rfl fun a hf => zP hf rfl (pLenS Try.underlying23 rfl) fun a hf => sp 1 hf rfl fun a hf => zT h ?_
    refine zI hf rfl hF ?_ ?_ <;> clear hF <;> intro hF
    ·refine zS fun K h => sp 1 hf rfl fun a hf => ?_
     obtain ⟨r_14,hr_14,hF⟩ := bnd_some hF
     obtain ⟨G1,hle1,hrd1,hc,hth1⟩ := lend hc k0
     refine zC hf en_6 rfl (daily_Correct_ok r_9 hrd1 hc hr_14) ?_
     rintro _ w ⟨p_16,c_16,rfl,hc⟩
     refine ⟨_,rfl,fun a hf => ?_⟩
     replace hc := hth1 _ _ hc
     refine sp 7 hf rfl fun a hf => zT h ?_
     refine zS fun K h => sp 3 hf rfl fun a hf => stCc 4 (fun a => Has 235 a [(2,.int .u8 more),(7,.slice p_1 r_1.1.length c_1),(8,.slice p_4 r_2.1.length c_4),(9,i6 r_2.2.1),(19,i6 ((W (which)).tmod ((r_1.1.length : Nat) : Int))),(22,i6 r_14.2.1),(23,i6 r_14.2.2),(127,i6 r_14.2.2),(128,.bool (r_14.2.2 != 0)),(129,.bool (r_14.2.2 != 0)),(133,.bool ((r_14.2.2 != 0) || (decide (r_2.2.1 < r_14.2.1))))]) hc ?_ ?_
     ·cases hb : (r_14.2.2 != 0)
      ·rw [hb] at hf
       refine sp 4 hf rfl fun a hf => cNil ⟨hf.kp rfl,hc⟩
      ·rw [hb] at hf
       refine stS hf rfl rfl rfl fun a hf => stS hf rfl rfl rfl fun a hf => stS hf rfl rfl rfl fun a hf => sp 1 hf rfl fun a hf => cNil ⟨hf.kp rfl,hc⟩
     intro a w ⟨hf,hc⟩
     refine zT h ?_
     refine zI hf rfl hF ?_ ?_ <;> clear hF <;> intro hF
     ·refine zS fun K h => sp 1 hf rfl fun a hf => zT h ?_
      refine wp_ret ?_
      refine xThenR ?_
      obtain rfl := sj hF
      replace hc := ((((((hc.drop k6).drop k5).drop k4).drop k3).drop k2).drop k1).drop k0
      exact zO1 Try.results3 hf rfl ⟨rfl,hc⟩
     ·refine wp_skip ?_
      replace hc := ((((hc.drop k5).drop k4).drop k3).drop k1).drop k0
      exact hj19  _ _  (hf.kp rfl) hc hF
    ·refine wp_skip ?_
     replace hc := (((hc.drop k4).drop k3).drop k2).drop k0
     exact hj19  _ _  (hf.kp rfl) hc hF
  have ho10 : ∀ r,x10 = .out r → r = res := by
   rintro r rfl
   exact sj hF
  replace hc := hc.drop k3
  refine cLoop N (loopW (S := S10) (x := x10) ?_ N (r_3,0) _ _ ⟨p_2,c_2,p_3,c_3,hf.kp rfl,hc⟩ hx10)
  clear hF hf hc
  rintro ⟨right,x⟩ st10 a w KB10 ⟨p_4,c_4,p_5,c_5,hf,hc⟩ hF hfin10 hK10
  unfold law07_DailyCounted_b10 at hF
  refine zS fun K h => sp 1 hf rfl fun a hf => zT h ?_
  refine wp_seq_k fun K41 h41 => zI hf rfl hF ?_ ?_ <;> clear hF <;> intro hF
  ·refine wp_skip ?_
   refine h41 _ _ ?_
   refine wp_seq_k fun K42 h42 => wp_block ?_
   refine zS fun K h => sp 2 hf rfl fun a hf => zT h ?_
   refine cReg ?_
   refine sp 4 hf rfl fun a hf => ?_
   obtain ⟨e_10,he_10,hF⟩ := bnd_some hF
   obtain ⟨g_3,rfl,qa_9,qr_9⟩ := row_atm hc m2 he_10
   refine zP hf rfl (pIA Try.underlying27 sz_3 rfl rfl qa_9) fun a hf => zE hf hc rfl (eLd1 sc_3 rfl (cell_row (sz := 1) (i := x.toNat) (j := 0) m2 qr_9 rfl)) fun a w hf hc => ?_
   obtain ⟨e_11,he_11,hF⟩ := bnd_some hF
   obtain ⟨g_4,rfl,qa_10,qr_10⟩ := row_atm hc m1 he_11
   refine zP hf rfl (pIA Try.underlying23 sz_33 rfl rfl qa_10) fun a hf => zP hf rfl (pFA fa_33_0 rfl) fun a hf => stRw (sz := 2) (vs := [i6 e_10]) (o' := 0) (z := (⟨e_10,e_11.Weight⟩ : daily_Reading)) (xs := right) hf hc rfl rfl rfl rfl sz_3 rfl (fun x => (one_enc_daily_Reading x).1) (getI_lt he_11) (fun e' he' => by cases (he'.symm.trans (getI_spec he_11).2); rfl) rfl u1 fun w hc => cNil ?_
   refine h42 _ _ ?_
   refine cReg ?_
   refine sp 2 hf rfl fun a hf => cNil ?_
   replace hf := hf.castAt 11 (v' := .slice (some ⟨g_4,0,none⟩) ((right.set x.toNat (⟨e_10,e_11.Weight⟩ : daily_Reading)).length) c_5) rfl (congrArg (fun k => Value.slice (some ⟨g_4,0,none⟩) k c_5) (by simp))
   exact hK10 ((right.set x.toNat (⟨e_10,e_11.Weight⟩ : daily_Reading)),W (x + 1)) _ _ (sj hF).symm ⟨(some ⟨g_3,0,none⟩),c_4,(some ⟨g_4,0,none⟩),c_5,hf.kp rfl,hc⟩
  ·refine wp_exit ?_
   refine xThen ?_
   refine xThen ?_
   have he := sj hF
   rw [← he] at hfin10
   refine cHit ?_
   exact hr10 _ _ _ hfin10 ⟨p_4,c_4,p_5,c_5,hf.kp rfl,hc⟩

end Go.Nilo
