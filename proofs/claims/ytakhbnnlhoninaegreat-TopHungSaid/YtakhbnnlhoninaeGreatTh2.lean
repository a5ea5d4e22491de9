/-
 What functions of the Go text compute, as plain functions, and that they do, part 2 of 4. Conditions: what each theorem names.
-/
import Derived.Test.YtakhbnnlhoninaeGreatTh1
import Derived.Test.YtakhbnnlhoninaeGreatProg
set_option linter.unusedVariables false
set_option linter.unusedSimpArgs false
set_option maxRecDepth 100000
set_option maxHeartbeats 4000000
namespace Go.Nilo
open Go.Proofs


def crew_Cable_load_j9 (N : Nat) (x : Int) (l_1 : List Int) : Option (Step ((List Int) × Int) (Int)) :=
 some (.cont (l_1,W (x + 1)))
def crew_Cable_load_b5 (N : Nat) (c_ : crew_Cable) (n : Int) (l : List Int) (x : Int) : Option (Step ((List Int) × Int) (Int)) :=
 cond (decide (x < ((c_.Rides.length : Nat) : Int)))
 (Option.bind (getI c_.Rides x) fun e_1 =>
 cond (crew_Ride_on e_1 n)
 (Option.bind (room ((l ++ [(crew_high_1 e_1.Weight)])).length) fun un =>
 crew_Cable_load_j9 N x (l ++ [(crew_high_1 e_1.Weight)]))
 (crew_Cable_load_j9 N x l))
 (some (.brk (l,x)))
def crew_Cable_load (N : Nat) (c_ : crew_Cable) (n : Int) : Option (Int) :=
 Option.bind (loopO (fun s5 => crew_Cable_load_b5 N c_ n s5.1 s5.2) N (([c_.Car] : List Int),0)) fun x5 =>
 exK x5 (fun s5 => Option.bind (crew_sum N s5.1) fun r =>
 some r) some
theorem crew_Cable_load_ok {N : Nat} {G : Pers} {Lf : List Ent} {w : World} (c_ : crew_Cable) (n : Int) {c__Rides_p : Option Addr} {c__Rides_c : Nat} (h_c__Rides : Rd G 4 c__Rides_p c__Rides_c (c_.Rides.map enc_crew_Ride)) (hc : Ctx G (Lf) w) {res : Int} (hF : crew_Cable_load N c_ n = some res) : Calls Tryz.prog 40 #[.agg #[i6 c_.Car,i6 c_.Wide,i6 c_.Sag,i6 c_.Most,.slice c__Rides_p c_.Rides.length c__Rides_c],i6 n,.agg #[.func (.func 64) #[] #[]]] w (fun e w => e = .returned (i6 res) ∧ Ctx G (Lf) w) := by
 unfold crew_Cable_load at hF
 refine fnIn Tryz.func40 rfl Tryz.ntmps40 rfl fun a hf => zS fun K h => zB hf hc rfl fun b_1 a w hf hc => zB hf hc rfl fun b_2 a w hf hc => sp 1 hf rfl fun a hf => zT h ?_
 refine zS fun K h => zP hf rfl (pFA fa_27_0 rfl) fun a hf => zL hf hc sc_3 m1 rfl fun a w hf hc => stBS (rows := ([c_.Car] : List Int).map encI_i64) (vs := [(0,i6 c_.Car)]) hf hc rfl rfl sl_35 rfl ⟨rfl,rfl,rfl,trivial⟩ rfl rfl fun b_3 a w hf hc => sp 1 hf rfl fun a hf => zT h ?_
 refine wp_seq_k fun K3 h3 => zS fun K h => zP hf rfl (pFA fa_27_4 rfl) fun a hf => zL hf hc sc_25 m2 rfl fun a w hf hc => zP hf rfl (pLenS Tryz.underlying25 rfl) fun a hf => sp 1 hf rfl fun a hf => zT h ?_
 refine wp_block ?_
 obtain ⟨x5,hx5,hF⟩ := bnd_some hF
 let S5 : ((List Int) × Int) → Act → World → Prop := (fun (zz : (List Int) × Int) a w => ∃ (p_1 : Option Addr) (c_1 : Nat),Has 34 a [(1,i6 n),(5,pq b_2),(7,.slice p_1 zz.1.length c_1),(14,.slice c__Rides_p c_.Rides.length c__Rides_c),(15,i6 ((c_.Rides.length : Nat) : Int)),(16,i6 zz.2)] ∧ Ctx G (.row p_1 c_1 (zz.1.map encI_i64) 3 1::.box b_2 [.func (.func 64) #[] #[]] 83::Lf) w)
 have hr5 : ∀ (zz : (List Int) × Int) a w,x5 = .go zz → S5 zz a w → K3 a w := by
  rintro ⟨l,x⟩ a w rfl ⟨p_1,c_1,hf,hc⟩
  replace hF := exK_go hF
  refine h3 _ _ ?_
  refine zS fun K h => sp 1 hf rfl fun a hf => ?_
  obtain ⟨r,hr,hF⟩ := bnd_some hF
  refine zQ (v := i6 r) hf hc en_63 rfl (fun w hc => by obtain ⟨G1,hle1,hrd1,hc,hth1⟩ := lend hc k0; exact (crew_sum_ok l hrd1 hc hr).mono fun e w h => ⟨h.1,((hth1 _ _ h.2).unpick k0)⟩) fun a w hf hc => sp 1 hf rfl fun a hf => zT h ?_
  refine wp_ret ?_
  obtain rfl := sj hF
  replace hc := (hc.drop k1).drop k0
  exact zO1 Tryz.results40 hf rfl ⟨rfl,hc⟩
 have ho5 : ∀ r,x5 = .out r → r = res := by
  rintro r rfl
  exact sj hF
 replace hc := hc.drop k2
 refine cLoop N (loopW (S := S5) (x := x5) ?_ N (([c_.Car] : List Int),0) _ _ ⟨(some ⟨b_3,0,none⟩),1,hf.kp rfl,hc⟩ hx5)
 clear hF hf hc
 rintro ⟨l,x⟩ st5 a w KB5 ⟨p_1,c_1,hf,hc⟩ hF hfin5 hK5
 unfold crew_Cable_load_b5 at hF
 refine zS fun K h => sp 1 hf rfl fun a hf => zT h ?_
 refine wp_seq_k fun K8 h8 => zI hf rfl hF ?_ ?_ <;> clear hF <;> intro hF
 ·refine wp_skip ?_
  refine h8 _ _ ?_
  refine wp_seq_k fun K9 h9 => ?_
  have hj9 : ∀ (l_1 : List Int) (p_2 : Option Addr) (c_2 : Nat) a w,Has 34 a [(1,i6 n),(5,pq b_2),(7,.slice p_2 l_1.length c_2),(14,.slice c__Rides_p c_.Rides.length c__Rides_c),(15,i6 ((c_.Rides.length : Nat) : Int)),(16,i6 x)] → Ctx G (.row p_2 c_2 (l_1.map encI_i64) 3 1::.box b_2 [.func (.func 64) #[] #[]] 83::Lf) w → crew_Cable_load_j9 N x l_1 = some st5 → K9 a w := by
   repeat (clear hF)
   repeat (clear hc)
   repeat (clear hf)
   intro l_1 p_2 c_2 a w hf hc hF
   unfold crew_Cable_load_j9 at hF
   refine h9 _ _ ?_
   refine cReg ?_
   refine sp 2 hf rfl fun a hf => cNil ?_
   exact hK5 (l_1,W (x + 1)) _ _ (sj hF).symm ⟨p_2,c_2,hf.kp rfl,hc⟩
  refine wp_block ?_
  refine zS fun K h => ?_
  obtain ⟨e_1,he_1,hF⟩ := bnd_some hF
  obtain ⟨b_4,o,qa,qp⟩ := h_c__Rides.atm he_1
  refine zP hf rfl (pIA Tryz.underlying25 sz_45 rfl rfl qa) fun a hf => zE hf hc rfl (eLdN (vs := [i6 e_1.From,i6 e_1.Long,i6 e_1.Weight.Lo,i6 e_1.Weight.Hi]) ag_45 rfl rfl (cells_pc qp (n := 4) (o' := 0) rfl)) fun a w hf hc => zA hf hc zr_45 rfl fun b_5 a w hf hc => zW hf hc sz_45 u0 rfl fun w hc => zT h ?_
  refine zS fun K h => zN hf hc ag_45 m0 rfl fun a w hf hc => sp 1 hf rfl fun a hf => zQ (v := .bool (crew_Ride_on e_1 n)) hf hc en_35 rfl (fun w hc => crew_Ride_on_ok e_1 n hc rfl) fun a w hf hc => zT h ?_
  refine zI hf rfl hF ?_ ?_ <;> clear hF <;> intro hF
  ·refine cReg ?_
   refine sp 1 hf rfl fun a hf => zP hf rfl (pFA fa_83_0 rfl) fun a hf => zL hf hc sc_81 m2 rfl fun a w hf hc => zP hf rfl (pFA fa_45_2 rfl) fun a hf => zN hf hc ag_43 m0 rfl fun a w hf hc => zQ (v := i6 (crew_high_1 e_1.Weight)) hf hc en_64 rfl (fun w hc => crew_high_1_ok e_1.Weight hc rfl) fun a w hf hc => stBS (rows := ([(crew_high_1 e_1.Weight)] : List Int).map encI_i64) (vs := [(0,i6 (crew_high_1 e_1.Weight))]) hf hc rfl rfl sl_35 rfl ⟨rfl,rfl,rfl,trivial⟩ rfl rfl fun b_6 a w hf hc => ?_
   obtain ⟨un,hun,hF⟩ := bnd_some hF
   refine stApm (xs := l) (ys := ([(crew_high_1 e_1.Weight)] : List Int)) hf hc rfl rfl sl_35 rfl rfl rfl rfl rfl one_encI_i64 (src_row hc m0) (fun _ _ => u2) (by simpa using room_spec hun) fun p_3 c_3 a w hf hc => sp 1 hf rfl fun a hf => cNil ?_
   replace hc := (hc.drop k1).drop k0
   exact hj9 (l ++ [(crew_high_1 e_1.Weight)]) p_3 c_3 _ _  (hf.kp rfl) hc hF
  ·refine wp_skip ?_
   replace hc := hc.drop k0
   exact hj9 l p_1 c_1 _ _  (hf.kp rfl) hc hF
 ·refine wp_exit ?_
  refine xThen ?_
  refine xThen ?_
  have he := sj hF
  rw [← he] at hfin5
  refine cHit ?_
  exact hr5 _ _ _ hfin5 ⟨p_1,c_1,hf.kp rfl,hc⟩

def crew_Cable_full (N : Nat) (c_ : crew_Cable) (r : crew_Ride) : Option (Bool) :=
 Option.bind (crew_Cable_load N c_ r.From) fun r_0 =>
 some (crew_Cable_beyond c_ r_0)
theorem crew_Cable_full_ok {N : Nat} {G : Pers} {Lf : List Ent} {w : World} (c_ : crew_Cable) (r : crew_Ride) {c__Rides_p : Option Addr} {c__Rides_c : Nat} (h_c__Rides : Rd G 4 c__Rides_p c__Rides_c (c_.Rides.map enc_crew_Ride)) (hc : Ctx G (Lf) w) {res : Bool} (hF : crew_Cable_full N c_ r = some res) : Calls Tryz.prog 34 #[.agg #[i6 c_.Car,i6 c_.Wide,i6 c_.Sag,i6 c_.Most,.slice c__Rides_p c_.Rides.length c__Rides_c],.agg #[i6 r.From,i6 r.Long,i6 r.Weight.Lo,i6 r.Weight.Hi]] w (fun e w => e = .returned (.bool res) ∧ Ctx G (Lf) w) := by
 unfold crew_Cable_full at hF
 refine fnIn Tryz.func34 rfl Tryz.ntmps34 rfl fun a hf => zS fun K h => zB hf hc rfl fun b_1 a w hf hc => zB hf hc rfl fun b_2 a w hf hc => sp 1 hf rfl fun a hf => zT h ?_
 refine wp_seq_k fun K2 h2 => ?_
 obtain ⟨r_0,hr_0,hF⟩ := bnd_some hF
 refine cQ hc follows_mx (by kernel_rfl) ?_
 refine qE hf rfl rfl rfl (eLdN (vs := [i6 c_.Car,i6 c_.Wide,i6 c_.Sag,i6 c_.Most,.slice c__Rides_p c_.Rides.length c__Rides_c]) ag_27 rfl rfl (cells_box (n := 5) m1 rfl)) fun a hf => qE hf rfl rfl rfl (eLdN (vs := [i6 c_.Car,i6 c_.Wide,i6 c_.Sag,i6 c_.Most,.slice c__Rides_p c_.Rides.length c__Rides_c]) ag_27 rfl rfl (cells_box (n := 5) m1 rfl)) fun a hf => qE hf rfl rfl rfl (Pu.ev (pFA fa_45_0 rfl)) fun a hf => qE hf rfl rfl rfl (eLd1 sc_3 rfl (cell_box m0 rfl)) fun a hf => qE hf rfl rfl rfl (eC (v := .agg #[.func (.func 64) #[] #[]]) (vs := []) (caps := []) en_41 rfl rfl rfl rfl (fun w hc => crew_high_ok hc rfl)) fun a hf => qE hf rfl rfl rfl (eC (v := i6 r_0) (vs := [.agg #[i6 c_.Car,i6 c_.Wide,i6 c_.Sag,i6 c_.Most,.slice c__Rides_p c_.Rides.length c__Rides_c],i6 r.From,.agg #[.func (.func 64) #[] #[]]]) (caps := []) en_40 rfl rfl rfl rfl (fun w hc => crew_Cable_load_ok c_ r.From h_c__Rides hc hr_0)) fun a hf => qE hf rfl rfl rfl (eC (v := .bool (crew_Cable_beyond c_ r_0)) (vs := [.agg #[i6 c_.Car,i6 c_.Wide,i6 c_.Sag,i6 c_.Most,.slice c__Rides_p c_.Rides.length c__Rides_c],i6 r_0]) (caps := []) en_30 rfl rfl rfl rfl (fun w hc => crew_Cable_beyond_ok c_ r_0 h_c__Rides hc rfl)) fun a hf => qE hf rfl rfl rfl (Pu.ev (pA rfl)) fun a hf => ?_
 intro w hc
 refine h2 _ _ ?_
 refine wp_ret ?_
 obtain rfl := sj hF
 replace hc := (hc.drop k1).drop k0
 exact zO1 Tryz.results34 hf rfl ⟨rfl,hc⟩

def crew_Queue_j38 (N : Nat) (x_4 : Int) (next__1 : Int) : Option (Step (Int × Int) (Step (Int × Int × (List crew_Ride)) (Step ((List Int) × Int × Int × (List crew_Ride)) ((List Int) × Int)))) :=
 some (.cont (next__1,W (x_4 + 1)))
def crew_Queue_b33 (N : Nat) (x_1 : List crew_Ride) (at__1 : Int) (next_ : Int) (x_4 : Int) : Option (Step (Int × Int) (Step (Int × Int × (List crew_Ride)) (Step ((List Int) × Int × Int × (List crew_Ride)) ((List Int) × Int)))) :=
 cond (decide (x_4 < ((x_1.length : Nat) : Int)))
 (Option.bind (getI x_1 x_4) fun e_3 =>
 cond ((crew_Ride_on e_3 at__1) && ((next_ == (-1)) || (decide ((W (e_3.From + e_3.Long)) < next_))))
 (crew_Queue_j38 N x_4 (W (e_3.From + e_3.Long)))
 (crew_Queue_j38 N x_4 next_))
 (some (.brk (next_,x_4)))
def crew_Queue_b25 (N : Nat) (c_ : crew_Cable) (x_1 : List crew_Ride) (e_1 : crew_Ride) (at__1 : Int) (x_2 : Int) (x_3 : List crew_Ride) : Option (Step (Int × Int × (List crew_Ride)) (Step ((List Int) × Int × Int × (List crew_Ride)) ((List Int) × Int))) :=
 Option.bind (crew_Cable_full N (⟨c_.Car,c_.Wide,c_.Sag,c_.Most,x_3⟩ : crew_Cable) (⟨x_2,e_1.Long,e_1.Weight⟩ : crew_Ride)) fun r_3 =>
 cond r_3
 (Option.bind (loopO (fun s33 => crew_Queue_b33 N x_1 at__1 s33.1 s33.2) N ((-1),0)) fun x33 =>
 exK x33 (fun s33 => Option.bind (getI x_3 (W (((x_3.length : Nat) : Int) - 1))) fun e_2 =>
 some (.cont (s33.1,s33.1,(x_3.set (W (((x_3.length : Nat) : Int) - 1)).toNat (⟨s33.1,e_1.Long,e_1.Weight⟩ : crew_Ride))))) some)
 (some (.brk (at__1,x_2,x_3)))
def crew_Queue_b14 (N : Nat) (c_ : crew_Cable) (out : List Int) (at_ : Int) (x : Int) (x_1 : List crew_Ride) : Option (Step ((List Int) × Int × Int × (List crew_Ride)) ((List Int) × Int)) :=
 cond (decide (x < ((c_.Rides.length : Nat) : Int)))
 (Option.bind (getI c_.Rides x) fun e_1 =>
 Option.bind (slices_Clone_Lcrew_Ride_crew_Ride N x_1) fun r_2 =>
 Option.bind (room ((r_2 ++ [(⟨max at_ e_1.From,e_1.Long,e_1.Weight⟩ : crew_Ride)])).length) fun un =>
 Option.bind (loopO (fun s25 => crew_Queue_b25 N c_ x_1 e_1 s25.1 s25.2.1 s25.2.2) N (max at_ e_1.From,max at_ e_1.From,(r_2 ++ [(⟨max at_ e_1.From,e_1.Long,e_1.Weight⟩ : crew_Ride)]))) fun x25 =>
 exK x25 (fun s25 => Option.bind (room ((out ++ [s25.1])).length) fun un_1 =>
 some (.cont ((out ++ [s25.1]),s25.1,W (x + 1),s25.2.2))) some)
 (some (.brk (out,at_,x,x_1)))
def crew_Queue (N : Nat) (c_ : crew_Cable) : Option ((List Int) × Int) :=
 Option.bind (crew_CheckCable N c_) fun r =>
 cond (r != 0)
 (some (([] : List Int),r))
 (Option.bind (cond (crew_Cable_beyond c_ c_.Car) (some true) (Option.bind (crew_every_crew_Ride_s2 N c_.Rides c_) fun r_1 =>
 some (!r_1))) fun t_1 =>
 cond t_1
 (some (([] : List Int),6))
 (Option.bind (loopO (fun s14 => crew_Queue_b14 N c_ s14.1 s14.2.1 s14.2.2.1 s14.2.2.2) N (([] : List Int),0,0,([] : List crew_Ride))) fun x14 =>
 exK x14 (fun s14 => some (s14.1,0)) some))
theorem crew_Queue_ok {N : Nat} {G : Pers} {Lf : List Ent} {w : World} (c_ : crew_Cable) {c__Rides_p : Option Addr} {c__Rides_c : Nat} (h_c__Rides : Rd G 4 c__Rides_p c__Rides_c (c_.Rides.map enc_crew_Ride)) (hc : Ctx G (Lf) w) {res : (List Int) × Int} (hF : crew_Queue N c_ = some res) : Calls Tryz.prog 12 #[.agg #[i6 c_.Car,i6 c_.Wide,i6 c_.Sag,i6 c_.Most,.slice c__Rides_p c_.Rides.length c__Rides_c]] w (fun e w => ∃ (p'1 : Option Addr) (c'1 : Nat),e = .returned (.tuple #[.slice p'1 res.1.length c'1,i6 res.2]) ∧ Ctx G (.row p'1 c'1 (res.1.map encI_i64) 3 1::Lf) w) := by
 unfold crew_Queue at hF
 refine fnIn Tryz.func12 rfl Tryz.ntmps12 rfl fun a hf => zS fun K h => zB hf hc rfl fun b_1 a w hf hc => sp 2 hf rfl fun a hf => zT h ?_
 refine zS fun K h => zN hf hc ag_27 m0 rfl fun a w hf hc => ?_
 obtain ⟨r,hr,hF⟩ := bnd_some hF
 refine zQ (v := i6 r) hf hc en_29 rfl (fun w hc => crew_CheckCable_ok c_ h_c__Rides hc hr) fun a w hf hc => sp 1 hf rfl fun a hf => zT h ?_
 refine wp_seq_k fun K3 h3 => wp_block ?_
 refine zS fun K h => sp 3 hf rfl fun a hf => zT h ?_
 refine zI hf rfl hF ?_ ?_ <;> clear hF <;> intro hF
 ·refine zS fun K h => sp 3 hf rfl fun a hf => zT h ?_
  refine wp_ret ?_
  refine xBlkR ?_
  refine xThenR ?_
  obtain rfl := sj hF
  replace hc := hc.nilRow 3 1
  replace hc := hc.drop k1
  exact zO2 Tryz.results12 hf rfl rfl ⟨none,0,rfl,hc⟩
 ·refine zS fun K h => zN hf hc ag_27 m0 rfl fun a w hf hc => zP hf rfl (pFA fa_27_0 rfl) fun a hf => zL hf hc sc_3 m0 rfl fun a w hf hc => zQ (v := .bool (crew_Cable_beyond c_ c_.Car)) hf hc en_30 rfl (fun w hc => crew_Cable_beyond_ok c_ c_.Car h_c__Rides hc rfl) fun a w hf hc => sp 1 hf rfl fun a hf => ?_
  obtain ⟨t_1,ht_1,hF⟩ := bnd_some hF
  refine stCc 6 (fun a => Has 105 a [(1,pq b_1),(21,.agg #[i6 c_.Car,i6 c_.Wide,i6 c_.Sag,i6 c_.Most,.slice c__Rides_p c_.Rides.length c__Rides_c]),(22,pq b_1),(23,i6 c_.Car),(24,.bool (crew_Cable_beyond c_ c_.Car)),(25,.bool (crew_Cable_beyond c_ c_.Car)),(31,.bool t_1)]) hc ?_ ?_
  ·cases hb : (crew_Cable_beyond c_ c_.Car)
   ·rw [hb] at hf
    have hF := condF hb ht_1
    refine zP hf rfl (pFA fa_27_4 rfl) fun a hf => zL hf hc sc_25 m0 rfl fun a w hf hc => zP hf rfl (pMF (us := [pq b_1]) rfl rfl) fun a hf => ?_
    obtain ⟨r_1,hr_1,hF⟩ := bnd_some hF
    refine zQ (v := .bool r_1) hf hc en_31 rfl (fun w hc => (crew_every_crew_Ride_s2_ok c_.Rides c_ h_c__Rides h_c__Rides (hc.pick k0) hr_1).mono fun e w h => ⟨h.1,(h.2.unpick k0)⟩) fun a w hf hc => sp 2 hf rfl fun a hf => ?_
    obtain rfl := sj hF
    exact cNil ⟨hf.kp rfl,hc⟩
   ·rw [hb] at hf
    have hF := condT hb ht_1
    obtain rfl := sj hF
    refine stS hf rfl rfl rfl fun a hf => stS hf rfl rfl rfl fun a hf => stS hf rfl rfl rfl fun a hf => stS hf rfl rfl rfl fun a hf => stS hf rfl rfl rfl fun a hf => sp 1 hf rfl fun a hf => cNil ⟨hf.kp rfl,hc⟩
  intro a w ⟨hf,hc⟩
  refine sp 1 hf rfl fun a hf => zT h ?_
  refine zI hf rfl hF ?_ ?_ <;> clear hF <;> intro hF
  ·refine zS fun K h => sp 2 hf rfl fun a hf => zT h ?_
   refine wp_ret ?_
   refine xBlkR ?_
   refine xThenR ?_
   obtain rfl := sj hF
   replace hc := hc.nilRow 3 1
   replace hc := hc.drop k1
   exact zO2 Tryz.results12 hf rfl rfl ⟨none,0,rfl,hc⟩
  ·refine wp_skip ?_
   refine h3 _ _ ?_
   refine zS fun K h => zN hf hc ag_27 m0 rfl fun a w hf hc => zA hf hc zr_27 rfl fun b_2 a w hf hc => zW hf hc sz_27 u0 rfl fun w hc => zT h ?_
   refine zS fun K h => zP hf rfl (pFA fa_27_4 rfl) fun a hf => zW hf hc sz_25 u0 rfl fun w hc => zT h ?_
   refine zS fun K h => sp 1 hf rfl fun a hf => zT h ?_
   refine zS fun K h => sp 1 hf rfl fun a hf => zT h ?_
   refine wp_seq_k fun K12 h12 => zS fun K h => zP hf rfl (pFA fa_27_4 rfl) fun a hf => zL hf hc sc_25 m1 rfl fun a w hf hc => zP hf rfl (pLenS Tryz.underlying25 rfl) fun a hf => sp 1 hf rfl fun a hf => zT h ?_
   refine wp_block ?_
   obtain ⟨x14,hx14,hF⟩ := bnd_some hF
   let S14 : ((List Int) × Int × Int × (List crew_Ride)) → Act → World → Prop := (fun (zz : (List Int) × Int × Int × (List crew_Ride)) a w => ∃ (p_1 : Option Addr) (c_1 : Nat) (p_2 : Option Addr) (c_2 : Nat),Has 105 a [(5,pq b_2),(6,.slice p_1 zz.1.length c_1),(7,i6 zz.2.1),(35,.slice c__Rides_p c_.Rides.length c__Rides_c),(36,i6 ((c_.Rides.length : Nat) : Int)),(37,i6 zz.2.2.1)] ∧ Ctx G (.row p_2 c_2 (zz.2.2.2.map enc_crew_Ride) 45 4::.row p_1 c_1 (zz.1.map encI_i64) 3 1::.box b_2 [i6 c_.Car,i6 c_.Wide,i6 c_.Sag,i6 c_.Most,.slice p_2 zz.2.2.2.length c_2] 27::Lf) w)
   have hr14 : ∀ (zz : (List Int) × Int × Int × (List crew_Ride)) a w,x14 = .go zz → S14 zz a w → K12 a w := by
    rintro ⟨out,at_,x,x_1⟩ a w rfl ⟨p_1,c_1,p_2,c_2,hf,hc⟩
    replace hF := exK_go hF
    refine h12 _ _ ?_
    refine zS fun K h => sp 3 hf rfl fun a hf => zT h ?_
    refine wp_ret ?_
    obtain rfl := sj hF
    replace hc := (hc.drop k2).drop k0
    exact zO2 Tryz.results12 hf rfl rfl ⟨p_1,c_1,rfl,hc⟩
   have ho14 : ∀ r,x14 = .out r → r = res := by
    rintro r rfl
    exact sj hF
   replace hc := hc.nilRow 3 1
   replace hc := hc.nilRow 45 4
   replace hc := hc.drop k3
   refine cLoop N (loopW (S := S14) (x := x14) ?_ N (([] : List Int),0,0,([] : List crew_Ride)) _ _ ⟨none,0,none,0,hf.kp rfl,hc⟩ hx14)
   clear hF hf hc
   rintro ⟨out,at_,x,x_1⟩ st14 a w KB14 ⟨p_1,c_1,p_2,c_2,hf,hc⟩ hF hfin14 hK14
   unfold crew_Queue_b14 at hF
   refine zS fun K h => sp 1 hf rfl fun a hf => zT h ?_
   refine wp_seq_k fun K17 h17 => zI hf rfl hF ?_ ?_ <;> clear hF <;> intro hF
   ·refine wp_skip ?_
    refine h17 _ _ ?_
    refine wp_seq_k fun K18 h18 => wp_block ?_
    refine zS fun K h => ?_
    obtain ⟨e_1,he_1,hF⟩ := bnd_some hF
    obtain ⟨b_3,o,qa,qp⟩ := h_c__Rides.atm he_1
    refine zP hf rfl (pIA Tryz.underlying25 sz_45 rfl rfl qa) fun a hf => zE hf hc rfl (eLdN (vs := [i6 e_1.From,i6 e_1.Long,i6 e_1.Weight.Lo,i6 e_1.Weight.Hi]) ag_45 rfl rfl (cells_pc qp (n := 4) (o' := 0) rfl)) fun a w hf hc => zA hf hc zr_45 rfl fun b_4 a w hf hc => zW hf hc sz_45 u0 rfl fun w hc => zT h ?_
    refine zS fun K h => sp 1 hf rfl fun a hf => zP hf rfl (pFA fa_45_0 rfl) fun a hf => zL hf hc sc_3 m0 rfl fun a w hf hc => zP hf rfl (pMax2 rfl rfl) fun a hf => sp 1 hf rfl fun a hf => zT h ?_
    refine zS fun K h => sp 1 hf rfl fun a hf => zP hf rfl (pFA fa_45_0 rfl) fun a hf => zW hf hc sz_3 u0 rfl fun w hc => zT h ?_
    refine zS fun K h => zN hf hc ag_27 m3 rfl fun a w hf hc => zA hf hc zr_27 rfl fun b_5 a w hf hc => zW hf hc sz_27 u0 rfl fun w hc => zT h ?_
    refine wp_seq_k fun K23 h23 => ?_
    obtain ⟨r_2,hr_2,hF⟩ := bnd_some hF
    obtain ⟨un,hun,hF⟩ := bnd_some hF
    replace hc := hc.nilRow 0 0
    replace hc := hc.nilRow 0 0
    refine regionE (fun θ => [⟨none,none,5,pq b_2⟩,⟨none,none,6,.slice p_1 out.length c_1⟩,⟨none,none,7,i6 (max at_ e_1.From)⟩,⟨none,none,9,pq b_4⟩,⟨none,none,10,pq b_5⟩,⟨none,none,35,.slice c__Rides_p c_.Rides.length c__Rides_c⟩,⟨none,none,36,i6 ((c_.Rides.length : Nat) : Int)⟩,⟨none,none,37,i6 x⟩,⟨some 0,none,48,.pointer (some ⟨b_2,4,none⟩)⟩,⟨some 1,none,49,.slice p_2 x_1.length c_2⟩,⟨some 2,none,50,.slice ((θ 16).p) r_2.length ((θ 16).c)⟩,⟨some 3,none,51,.agg #[i6 (max at_ e_1.From),i6 e_1.Long,i6 e_1.Weight.Lo,i6 e_1.Weight.Hi]⟩,⟨some 4,none,52,.slice (some ⟨(θ 32).b,0,none⟩) 1 1⟩,⟨some 5,none,53,.slice ((θ 40).p) ((r_2 ++ [(⟨max at_ e_1.From,e_1.Long,e_1.Weight⟩ : crew_Ride)]).length) ((θ 40).c)⟩,⟨some 6,none,54,.pointer (some ⟨b_5,4,none⟩)⟩]) (fun E θ => (bif E 4 then .row (some ⟨(θ 32).b,0,none⟩) 1 (([(⟨max at_ e_1.From,e_1.Long,e_1.Weight⟩ : crew_Ride)] : List crew_Ride).map enc_crew_Ride) 45 4 else .row none 0 [] 0 0)::(bif E 5 then .row ((θ 40).p) ((θ 40).c) ((r_2 ++ [(⟨max at_ e_1.From,e_1.Long,e_1.Weight⟩ : crew_Ride)]).map enc_crew_Ride) 45 4 else bif E 2 then .row ((θ 16).p) ((θ 16).c) (r_2.map enc_crew_Ride) 45 4 else .row none 0 [] 0 0)::(bif E 7 then .box b_5 [i6 c_.Car,i6 c_.Wide,i6 c_.Sag,i6 c_.Most,.slice ((θ 40).p) ((r_2 ++ [(⟨max at_ e_1.From,e_1.Long,e_1.Weight⟩ : crew_Ride)]).length) ((θ 40).c)] 27 else .box b_5 [i6 c_.Car,i6 c_.Wide,i6 c_.Sag,i6 c_.Most,.slice p_2 x_1.length c_2] 27)::.box b_4 [i6 (max at_ e_1.From),i6 e_1.Long,i6 e_1.Weight.Lo,i6 e_1.Weight.Hi] 45::.row p_2 c_2 (x_1.map enc_crew_Ride) 45 4::.row p_1 c_1 (out.map encI_i64) 3 1::.box b_2 [i6 c_.Car,i6 c_.Wide,i6 c_.Sag,i6 c_.Most,.slice p_2 x_1.length c_2] 27::Lf) [(5,2),(7,5)] (fun a w => ∃ (b_7 : Nat) (p_5 : Option Addr) (c_5 : Nat),Has 105 a [(5,pq b_2),(6,.slice p_1 out.length c_1),(7,i6 (max at_ e_1.From)),(9,pq b_4),(10,pq b_5),(35,.slice c__Rides_p c_.Rides.length c__Rides_c),(36,i6 ((c_.Rides.length : Nat) : Int)),(37,i6 x)] ∧ Ctx G (.row (some ⟨b_7,0,none⟩) 1 (([(⟨max at_ e_1.From,e_1.Long,e_1.Weight⟩ : crew_Ride)] : List crew_Ride).map enc_crew_Ride) 45 4::.row p_5 c_5 ((r_2 ++ [(⟨max at_ e_1.From,e_1.Long,e_1.Weight⟩ : crew_Ride)]).map enc_crew_Ride) 45 4::.box b_5 [i6 c_.Car,i6 c_.Wide,i6 c_.Sag,i6 c_.Most,.slice p_5 ((r_2 ++ [(⟨max at_ e_1.From,e_1.Long,e_1.Weight⟩ : crew_Ride)]).length) c_5] 27::.box b_4 [i6 (max at_ e_1.From),i6 e_1.Long,i6 e_1.Weight.Lo,i6 e_1.Weight.Hi] 45::.row p_2 c_2 (x_1.map enc_crew_Ride) 45 4::.row p_1 c_1 (out.map encI_i64) 3 1::.box b_2 [i6 c_.Car,i6 c_.Wide,i6 c_.Sag,i6 c_.Most,.slice p_2 x_1.length c_2] 27::Lf) w) follows_mx (by kernel_rfl) (by kernel_rfl) (HasE.of hf ⟨rfl,rfl,rfl,rfl,rfl,rfl,rfl,rfl,trivial,trivial,trivial,trivial,trivial,trivial,trivial,trivial⟩) hc ⟨?_,?_,?_,?_,?_,?_,?_,?_,trivial⟩ ?_ ?_
    ·intro E θ a w hD hi hp he hc
     have hf := he.h0.mT he 0 rfl
     refine zP hf rfl (pFA fa_27_4 rfl) fun a hf => zD θ he hi hf 8 rfl rfl rfl hc
    ·intro E θ a w hD hi hp he hc
     have e0 := hp.o 0 rfl
     have hf := he.h0.mP he 8 rfl e0
     refine zL hf hc sc_25 m6 rfl fun a w hf hc => zD θ he hi hf 9 rfl rfl rfl hc
    ·intro E θ a w hD hi hp he hc
     have e1 := hp.o 1 rfl
     have e5 := hD.f 0 rfl hi
     try dsimp only at hc
     rw [hi,e5] at hc
     have hf := he.h0.mP he 9 rfl e1
     obtain ⟨G1,hle1,hrd1,hc,hth1⟩ := lend hc k4
     refine zC hf en_33 rfl (slices_Clone_Lcrew_Ride_crew_Ride_ok x_1 hrd1 hc hr_2) ?_
     rintro _ w ⟨p_3,c_3,rfl,hc⟩
     refine ⟨_,rfl,fun a hf => ?_⟩
     replace hc := hth1 _ _ hc
     refine cNil ?_
     refine xThenN ?_
     intro ds u hau
     replace hc := (((((hc.drop k3).pick k0).pick k4).pick k4).pick k3).pick k4
     refine ⟨(setT θ 16 ⟨0,p_3,c_3,(fun _ => (none,0))⟩),he.put hi hau hf rfl [] trivial ⟨qq,qq,qq,qq,qq,qq,qq,qq,qq,qq,qq,qq,qq,qq,qq,trivial⟩,?_⟩
     try dsimp only
     rw [updE_self E 2,updE_fls 2 e5 rfl]
     exact hc
    ·intro E θ a w hD hi hp he hc
     have hf := he.h0.mT he 3 rfl
     refine zN hf hc ag_45 m3 rfl fun a w hf hc => zD θ he hi hf 11 rfl rfl rfl hc
    ·intro E θ a w hD hi hp he hc
     have e3 := hp.o 3 rfl
     try dsimp only at hc
     rw [hi] at hc
     have hf := he.h0.mP he 11 rfl e3
     refine stBS (rows := ([(⟨max at_ e_1.From,e_1.Long,e_1.Weight⟩ : crew_Ride)] : List crew_Ride).map enc_crew_Ride) (vs := [(0,.agg #[i6 (max at_ e_1.From),i6 e_1.Long,i6 e_1.Weight.Lo,i6 e_1.Weight.Hi])]) hf hc rfl rfl sl_25 rfl ⟨rfl,rfl,rfl,trivial⟩ rfl rfl fun b_6 a w hf hc => cNil ?_
     refine xThenN ?_
     intro ds u hau
     replace hc := hc.drop k1
     refine ⟨(setT θ 32 ⟨b_6,none,0,(fun _ => (none,0))⟩),he.put hi hau hf rfl [] trivial ⟨qq,qq,qq,qq,qq,qq,qq,qq,qq,qq,qq,qq,qq,qq,qq,trivial⟩,?_⟩
     try dsimp only
     rw [updE_self E 4]
     exact hc
    ·intro E θ a w hD hi hp he hc
     have e2 := hp.o 2 rfl
     have e4 := hp.o 4 rfl
     have e7 := hD.f 1 rfl hi
     try dsimp only at hc
     rw [e4,e2,hi,e7] at hc
     have hf := (he.h0.mP he 10 rfl e2).mP he 12 rfl e4
     refine stApm (xs := r_2) (ys := ([(⟨max at_ e_1.From,e_1.Long,e_1.Weight⟩ : crew_Ride)] : List crew_Ride)) hf hc rfl rfl sl_25 rfl rfl rfl rfl rfl one_enc_crew_Ride (src_row hc m0) (fun _ _ => u1) (by simpa using room_spec hun) fun p_4 c_4 a w hf hc => cNil ?_
     refine xThenN ?_
     intro ds u hau
     refine ⟨(setT θ 40 ⟨0,p_4,c_4,(fun _ => (none,0))⟩),he.put hi hau hf rfl [] trivial ⟨qq,qq,qq,qq,qq,qq,qq,qq,qq,qq,qq,qq,qq,qq,qq,trivial⟩,?_⟩
     try dsimp only
     rw [updE_tru 5 e4,updE_tru 5 e2,updE_self E 5,updE_fls 5 e7 rfl]
     exact hc
    ·intro E θ a w hD hi hp he hc
     have hf := he.h0.mT he 4 rfl
     refine zP hf rfl (pFA fa_27_4 rfl) fun a hf => zD θ he hi hf 14 rfl rfl rfl hc
    ·intro E θ a w hD hi hp he hc
     have e5 := hp.o 5 rfl
     have e6 := hp.o 6 rfl
     try dsimp only at hc
     rw [hi] at hc
     have hf := (he.h0.mP he 13 rfl e5).mP he 14 rfl e6
     refine zW hf hc sz_25 u2 rfl fun w hc => zG θ he hi hf rfl ?_
     try dsimp only
     rw [updE_self E 7]
     exact hc
    ·intro E θ a w hall he hc
     have hf := he.h0
     have e2 := hall 2 rfl
     have e4 := hall 4 rfl
     have e5 := hall 5 rfl
     have e7 := hall 7 rfl
     replace hf := hf.more he 7 rfl (onT)
     replace hf := hf.more he 6 rfl (onT)
     replace hf := hf.more he 5 rfl (onT)
     replace hf := hf.more he 4 rfl (onT)
     replace hf := hf.more he 3 rfl (onT)
     replace hf := hf.more he 2 rfl (onT)
     replace hf := hf.more he 1 rfl (onT)
     replace hf := hf.more he 0 rfl (onT)
     try dsimp only at hc
     rw [e2,e4,e5,e7] at hc
     exact ⟨(θ 32).b,(θ 40).p,(θ 40).c,hf.kp rfl,hc⟩
    rintro a w ⟨b_7,p_5,c_5,hf,hc⟩
    refine h23 _ _ ?_
    refine wp_seq_k fun K24 h24 => wp_block ?_
    obtain ⟨x25,hx25,hF⟩ := bnd_some hF
    let S25 : (Int × Int × (List crew_Ride)) → Act → World → Prop := (fun (zz : Int × Int × (List crew_Ride)) a w => ∃ (p_6 : Option Addr) (c_6 : Nat) (p_7 : Option Addr) (c_7 : Nat),Has 105 a [(5,pq b_2),(6,.slice p_1 out.length c_1),(7,i6 zz.1),(9,pq b_4),(10,pq b_5),(35,.slice c__Rides_p c_.Rides.length c__Rides_c),(36,i6 ((c_.Rides.length : Nat) : Int)),(37,i6 x)] ∧ Ctx G (.row p_7 c_7 (zz.2.2.map enc_crew_Ride) 45 4::.box b_5 [i6 c_.Car,i6 c_.Wide,i6 c_.Sag,i6 c_.Most,.slice p_7 zz.2.2.length c_7] 27::.box b_4 [i6 zz.2.1,i6 e_1.Long,i6 e_1.Weight.Lo,i6 e_1.Weight.Hi] 45::.row p_6 c_6 (x_1.map enc_crew_Ride) 45 4::.row p_1 c_1 (out.map encI_i64) 3 1::.box b_2 [i6 c_.Car,i6 c_.Wide,i6 c_.Sag,i6 c_.Most,.slice p_6 x_1.length c_6] 27::Lf) w)
    have hr25 : ∀ (zz : Int × Int × (List crew_Ride)) a w,x25 = .go zz → S25 zz a w → K24 a w := by
     rintro ⟨at__1,x_2,x_3⟩ a w rfl ⟨p_6,c_6,p_7,c_7,hf,hc⟩
     replace hF := exK_go hF
     refine h24 _ _ ?_
     refine zS fun K h => zN hf hc ag_27 m1 rfl fun a w hf hc => zW hf hc sz_27 u5 rfl fun w hc => zT h ?_
     refine cReg ?_
     refine sp 2 hf rfl fun a hf => stBS (rows := ([at__1] : List Int).map encI_i64) (vs := [(0,i6 at__1)]) hf hc rfl rfl sl_35 rfl ⟨rfl,rfl,rfl,trivial⟩ rfl rfl fun b_8 a w hf hc => ?_
     obtain ⟨un_1,hun_1,hF⟩ := bnd_some hF
     refine stApm (xs := out) (ys := ([at__1] : List Int)) hf hc rfl rfl sl_35 rfl rfl rfl rfl rfl one_encI_i64 (src_row hc m0) (fun _ _ => u5) (by simpa using room_spec hun_1) fun p_8 c_8 a w hf hc => sp 1 hf rfl fun a hf => cNil ?_
     refine h18 _ _ ?_
     refine cReg ?_
     refine sp 2 hf rfl fun a hf => cNil ?_
     replace hc := (((hc.drop k4).drop k3).drop k2).drop k0
     exact hK14 ((out ++ [at__1]),at__1,W (x + 1),x_3) _ _ (sj hF).symm ⟨p_8,c_8,p_7,c_7,hf.kp rfl,hc⟩
    have ho25 : ∀ r,x25 = .out r → r = st14 := by
     rintro r rfl
     exact sj hF
    replace hc := hc.drop k0
    refine cLoop N (loopW (S := S25) (x := x25) ?_ N (max at_ e_1.From,max at_ e_1.From,(r_2 ++ [(⟨max at_ e_1.From,e_1.Long,e_1.Weight⟩ : crew_Ride)])) _ _ ⟨p_2,c_2,p_5,c_5,hf.kp rfl,hc⟩ hx25)
    clear hF hf hc
    rintro ⟨at__1,x_2,x_3⟩ st25 a w KB25 ⟨p_6,c_6,p_7,c_7,hf,hc⟩ hF hfin25 hK25
    unfold crew_Queue_b25 at hF
    refine wp_seq_k fun K27 h27 => zS fun K h => zN hf hc ag_27 m1 rfl fun a w hf hc => zN hf hc ag_45 m2 rfl fun a w hf hc => ?_
    obtain ⟨r_3,hr_3,hF⟩ := bnd_some hF
    refine zQ (v := .bool r_3) hf hc en_34 rfl (fun w hc => by obtain ⟨G1,hle1,hrd1,hc,hth1⟩ := lend hc k0; exact (crew_Cable_full_ok (⟨c_.Car,c_.Wide,c_.Sag,c_.Most,x_3⟩ : crew_Cable) (⟨x_2,e_1.Long,e_1.Weight⟩ : crew_Ride) hrd1 hc hr_3).mono fun e w h => ⟨h.1,((hth1 _ _ h.2).unpick k0)⟩) fun a w hf hc => zT h ?_
    refine zI hf rfl hF ?_ ?_ <;> clear hF <;> intro hF
    ·refine wp_skip ?_
     refine h27 _ _ ?_
     refine wp_thenK fun K29 h29 => wp_block ?_
     refine zS fun K h => sp 1 hf rfl fun a hf => zT h ?_
     refine wp_seq_k fun K31 h31 => zS fun K h => zP hf rfl (pFA fa_27_4 rfl) fun a hf => zL hf hc sc_25 m5 rfl fun a w hf hc => zP hf rfl (pLenS Tryz.underlying25 rfl) fun a hf => sp 1 hf rfl fun a hf => zT h ?_
     refine wp_block ?_
     obtain ⟨x33,hx33,hF⟩ := bnd_some hF
     let S33 : (Int × Int) → Act → World → Prop := (fun (zz : Int × Int) a w => ∃ (p_9 : Option Addr) (c_9 : Nat),Has 105 a [(5,pq b_2),(6,.slice p_1 out.length c_1),(7,i6 at__1),(9,pq b_4),(10,pq b_5),(11,i6 zz.1),(35,.slice c__Rides_p c_.Rides.length c__Rides_c),(36,i6 ((c_.Rides.length : Nat) : Int)),(37,i6 x),(59,.slice p_9 x_1.length c_9),(60,i6 ((x_1.length : Nat) : Int)),(61,i6 zz.2)] ∧ Ctx G (.row p_7 c_7 (x_3.map enc_crew_Ride) 45 4::.box b_5 [i6 c_.Car,i6 c_.Wide,i6 c_.Sag,i6 c_.Most,.slice p_7 x_3.length c_7] 27::.box b_4 [i6 x_2,i6 e_1.Long,i6 e_1.Weight.Lo,i6 e_1.Weight.Hi] 45::.row p_9 c_9 (x_1.map enc_crew_Ride) 45 4::.row p_1 c_1 (out.map encI_i64) 3 1::.box b_2 [i6 c_.Car,i6 c_.Wide,i6 c_.Sag,i6 c_.Most,.slice p_9 x_1.length c_9] 27::Lf) w)
     have hr33 : ∀ (zz : Int × Int) a w,x33 = .go zz → S33 zz a w → K31 a w := by
      rintro ⟨next_,x_4⟩ a w rfl ⟨p_9,c_9,hf,hc⟩
      replace hF := exK_go hF
      refine h31 _ _ ?_
      refine zS fun K h => sp 2 hf rfl fun a hf => zT h ?_
      refine zS fun K h => sp 1 hf rfl fun a hf => zP hf rfl (pFA fa_45_0 rfl) fun a hf => zW hf hc sz_3 u2 rfl fun w hc => zT h ?_
      refine cReg ?_
      refine zP hf rfl (pFA fa_27_4 rfl) fun a hf => zL hf hc sc_25 m1 rfl fun a w hf hc => zP hf rfl (pFA fa_27_4 rfl) fun a hf => zL hf hc sc_25 m1 rfl fun a w hf hc => zP hf rfl (pLenS Tryz.underlying25 rfl) fun a hf => sp 1 hf rfl fun a hf => zN hf hc ag_45 m2 rfl fun a w hf hc => ?_
      obtain ⟨e_2,he_2,hF⟩ := bnd_some hF
      obtain ⟨g,rfl,qa_1,qr⟩ := row_atm hc m0 he_2
      refine zP hf rfl (pIA Tryz.underlying25 sz_45 rfl rfl qa_1) fun a hf => stRw (sz := 4) (vs := [i6 next_,i6 e_1.Long,i6 e_1.Weight.Lo,i6 e_1.Weight.Hi]) (o' := 0) (z := (⟨next_,e_1.Long,e_1.Weight⟩ : crew_Ride)) (xs := x_3) hf hc rfl rfl rfl rfl sz_45 rfl (fun x => (one_enc_crew_Ride x).1) (getI_lt he_2) (fun _ _ => rfl) rfl u0 fun w hc => cNil ?_
      refine h29 _ _ ?_
      replace hc : Ctx G (.row (some ⟨g,0,none⟩) c_7 ((x_3.set (W (((x_3.length : Nat) : Int) - 1)).toNat (⟨next_,e_1.Long,e_1.Weight⟩ : crew_Ride)).map enc_crew_Ride) 45 4::.box b_5 [i6 c_.Car,i6 c_.Wide,i6 c_.Sag,i6 c_.Most,.slice (some ⟨g,0,none⟩) ((x_3.set (W (((x_3.length : Nat) : Int) - 1)).toNat (⟨next_,e_1.Long,e_1.Weight⟩ : crew_Ride)).length) c_7] 27::.box b_4 [i6 next_,i6 e_1.Long,i6 e_1.Weight.Lo,i6 e_1.Weight.Hi] 45::.row p_9 c_9 (x_1.map enc_crew_Ride) 45 4::.row p_1 c_1 (out.map encI_i64) 3 1::.box b_2 [i6 c_.Car,i6 c_.Wide,i6 c_.Sag,i6 c_.Most,.slice p_9 x_1.length c_9] 27::Lf) w := by simp only [List.length_set] at hc ⊢; exact hc
      exact hK25 (next_,next_,(x_3.set (W (((x_3.length : Nat) : Int) - 1)).toNat (⟨next_,e_1.Long,e_1.Weight⟩ : crew_Ride))) _ _ (sj hF).symm ⟨p_9,c_9,(some ⟨g,0,none⟩),c_7,hf.kp rfl,hc⟩
     have ho33 : ∀ r,x33 = .out r → r = st25 := by
      rintro r rfl
      exact sj hF
     refine cLoop N (loopW (S := S33) (x := x33) ?_ N ((-1),0) _ _ ⟨p_6,c_6,hf.kp rfl,hc⟩ hx33)
     clear hF hf hc
     rintro ⟨next_,x_4⟩ st33 a w KB33 ⟨p_9,c_9,hf,hc⟩ hF hfin33 hK33
     unfold crew_Queue_b33 at hF
     refine zS fun K h => sp 1 hf rfl fun a hf => zT h ?_
     refine wp_seq_k fun K37 h37 => zI hf rfl hF ?_ ?_ <;> clear hF <;> intro hF
     ·refine wp_skip ?_
      refine h37 _ _ ?_
      refine wp_seq_k fun K38 h38 => ?_
      have hj38 : ∀ (next__1 : Int) (p_10 : Option Addr) (c_10 : Nat) a w,Has 105 a [(5,pq b_2),(6,.slice p_1 out.length c_1),(7,i6 at__1),(9,pq b_4),(10,pq b_5),(11,i6 next__1),(35,.slice c__Rides_p c_.Rides.length c__Rides_c),(36,i6 ((c_.Rides.length : Nat) : Int)),(37,i6 x),(59,.slice p_10 x_1.length c_10),(60,i6 ((x_1.length : Nat) : Int)),(61,i6 x_4)] → Ctx G (.row p_7 c_7 (x_3.map enc_crew_Ride) 45 4::.box b_5 [i6 c_.Car,i6 c_.Wide,i6 c_.Sag,i6 c_.Most,.slice p_7 x_3.length c_7] 27::.box b_4 [i6 x_2,i6 e_1.Long,i6 e_1.Weight.Lo,i6 e_1.Weight.Hi] 45::.row p_10 c_10 (x_1.map enc_crew_Ride) 45 4::.row p_1 c_1 (out.map encI_i64) 3 1::.box b_2 [i6 c_.Car,i6 c_.Wide,i6 c_.Sag,i6 c_.Most,.slice p_10 x_1.length c_10] 27::Lf) w → crew_Queue_j38 N x_4 next__1 = some st33 → K38 a w := by
       repeat (clear hF)
       repeat (clear hc)
       repeat (clear hf)
       intro next__1 p_10 c_10 a w hf hc hF
       unfold crew_Queue_j38 at hF
       refine h38 _ _ ?_
       refine cReg ?_
       refine sp 2 hf rfl fun a hf => cNil ?_
       exact hK33 (next__1,W (x_4 + 1)) _ _ (sj hF).symm ⟨p_10,c_10,hf.kp rfl,hc⟩
      refine wp_block ?_
      refine zS fun K h => ?_
      obtain ⟨e_3,he_3,hF⟩ := bnd_some hF
      obtain ⟨g_1,rfl,qa_2,qr_1⟩ := row_atm hc m3 he_3
      refine zP hf rfl (pIA Tryz.underlying25 sz_45 rfl rfl qa_2) fun a hf => zE hf hc rfl (eLdN (vs := [i6 e_3.From,i6 e_3.Long,i6 e_3.Weight.Lo,i6 e_3.Weight.Hi]) ag_45 rfl rfl (cells_rw (sz := 4) (i := x_4.toNat) m3 qr_1 (n := 4) (o' := 0) rfl)) fun a w hf hc => zA hf hc zr_45 rfl fun b_9 a w hf hc => zW hf hc sz_45 u0 rfl fun w hc => zT h ?_
      refine zS fun K h => zN hf hc ag_45 m0 rfl fun a w hf hc => sp 1 hf rfl fun a hf => zQ (v := .bool (crew_Ride_on e_3 at__1)) hf hc en_35 rfl (fun w hc => crew_Ride_on_ok e_3 at__1 hc rfl) fun a w hf hc => sp 1 hf rfl fun a hf => stCc 12 (fun a => Has 105 a [(5,pq b_2),(6,.slice p_1 out.length c_1),(7,i6 at__1),(9,pq b_4),(10,pq b_5),(11,i6 next_),(35,.slice c__Rides_p c_.Rides.length c__Rides_c),(36,i6 ((c_.Rides.length : Nat) : Int)),(37,i6 x),(59,.slice (some ⟨g_1,0,none⟩) x_1.length c_9),(60,i6 ((x_1.length : Nat) : Int)),(61,i6 x_4),(13,pq b_9),(65,.agg #[i6 e_3.From,i6 e_3.Long,i6 e_3.Weight.Lo,i6 e_3.Weight.Hi]),(66,i6 at__1),(67,.bool (crew_Ride_on e_3 at__1)),(68,.bool (crew_Ride_on e_3 at__1)),(80,.bool ((crew_Ride_on e_3 at__1) && ((next_ == (-1)) || (decide ((W (e_3.From + e_3.Long)) < next_)))))]) hc ?_ ?_
      ·cases hb : (crew_Ride_on e_3 at__1)
       ·rw [hb] at hf
        refine stS hf rfl rfl rfl fun a hf => stS hf rfl rfl rfl fun a hf => stS hf rfl rfl rfl fun a hf => stS hf rfl rfl rfl fun a hf => stS hf rfl rfl rfl fun a hf => stS hf rfl rfl rfl fun a hf => stS hf rfl rfl rfl fun a hf => stS hf rfl rfl rfl fun a hf => stS hf rfl rfl rfl fun a hf => stS hf rfl rfl rfl fun a hf => stS hf rfl rfl rfl fun a hf => sp 1 hf rfl fun a hf => cNil ⟨hf.kp rfl,hc⟩
       ·rw [hb] at hf
        refine sp 3 hf rfl fun a hf => stCc 8 (fun a => Has 105 a [(5,pq b_2),(6,.slice p_1 out.length c_1),(7,i6 at__1),(9,pq b_4),(10,pq b_5),(11,i6 next_),(35,.slice c__Rides_p c_.Rides.length c__Rides_c),(36,i6 ((c_.Rides.length : Nat) : Int)),(37,i6 x),(59,.slice (some ⟨g_1,0,none⟩) x_1.length c_9),(60,i6 ((x_1.length : Nat) : Int)),(61,i6 x_4),(13,pq b_9),(65,.agg #[i6 e_3.From,i6 e_3.Long,i6 e_3.Weight.Lo,i6 e_3.Weight.Hi]),(66,i6 at__1),(67,.bool true),(68,.bool true),(69,i6 next_),(70,.bool (next_ == (-1))),(71,.bool (next_ == (-1))),(79,.bool ((next_ == (-1)) || (decide ((W (e_3.From + e_3.Long)) < next_))))]) hc ?_ ?_
        ·cases hb : (next_ == (-1))
         ·rw [hb] at hf
          refine zP hf rfl (pFA fa_45_0 rfl) fun a hf => zL hf hc sc_3 m0 rfl fun a w hf hc => zP hf rfl (pFA fa_45_1 rfl) fun a hf => zL hf hc sc_3 m0 rfl fun a w hf hc => sp 4 hf rfl fun a hf => cNil ⟨hf.kp rfl,hc⟩
         ·rw [hb] at hf
          refine stS hf rfl rfl rfl fun a hf => stS hf rfl rfl rfl fun a hf => stS hf rfl rfl rfl fun a hf => stS hf rfl rfl rfl fun a hf => stS hf rfl rfl rfl fun a hf => stS hf rfl rfl rfl fun a hf => stS hf rfl rfl rfl fun a hf => sp 1 hf rfl fun a hf => cNil ⟨hf.kp rfl,hc⟩
        intro a w ⟨hf,hc⟩
        refine sp 1 hf rfl fun a hf => cNil ⟨hf.kp rfl,hc⟩
      intro a w ⟨hf,hc⟩
      refine zT h ?_
      refine zI hf rfl hF ?_ ?_ <;> clear hF <;> intro hF
      ·refine cReg ?_
       refine zP hf rfl (pFA fa_45_0 rfl) fun a hf => zL hf hc sc_3 m0 rfl fun a w hf hc => zP hf rfl (pFA fa_45_1 rfl) fun a hf => zL hf hc sc_3 m0 rfl fun a w hf hc => sp 2 hf rfl fun a hf => cNil ?_
       replace hc := hc.drop k0
       exact hj38 (W (e_3.From + e_3.Long)) (some ⟨g_1,0,none⟩) c_9 _ _  (hf.kp rfl) hc hF
      ·refine wp_skip ?_
       replace hc := hc.drop k0
       exact hj38 next_ (some ⟨g_1,0,none⟩) c_9 _ _  (hf.kp rfl) hc hF
     ·refine wp_exit ?_
      refine xThen ?_
      refine xThen ?_
      have he := sj hF
      rw [← he] at hfin33
      refine cHit ?_
      exact hr33 _ _ _ hfin33 ⟨p_9,c_9,hf.kp rfl,hc⟩
    ·refine wp_exit ?_
     refine xThen ?_
     refine xThen ?_
     have he := sj hF
     rw [← he] at hfin25
     refine cHit ?_
     exact hr25 _ _ _ hfin25 ⟨p_6,c_6,p_7,c_7,hf.kp rfl,hc⟩
   ·refine wp_exit ?_
    refine xThen ?_
    refine xThen ?_
    have he := sj hF
    rw [← he] at hfin14
    refine cHit ?_
    exact hr14 _ _ _ hfin14 ⟨p_1,c_1,p_2,c_2,hf.kp rfl,hc⟩

def slices_Sort_Lint_int (N : Nat) (x : List Int) : Option ((List Int)) :=
 sortO x
/-! ### Walks of the library -/
end Go.Nilo
namespace Go.Proofs
open Go.Shelf
def Tryz.lays189_ren : Go.Shelf.Ren := ⟨fun | 189 => 61 | 125 => 80 | 257 => 79 | 128 => 105 | 129 => 106 | 294 => 96 | 295 => 97 | 296 => 98 | 297 => 99 | 298 => 100 | 299 => 101 | 216 => 102 | 300 => 103 | 301 => 104 | 328 => 126 | 329 => 127 | 330 => 128 | 331 => 129 | 332 => 130 | 215 => 94 | 343 => 143 | n => n,fun | 28 => 35 | 3 => 3 | 46 => 127 | 0 => 0 | 51 => 158 | 53 => 160 | 4 => 4 | 183 => 151 | 182 => 150 | 131 => 155 | 5 => 5 | 9 => 9 | 218 => 174 | 222 => 178 | 228 => 186 | 229 => 187 | n => n,fun | n => n⟩
theorem Tryz.lays189 : Go.Proofs.Lays.n189 Tryz.prog Tryz.lays189_ren := {
 mixed := by kernel_rfl
 f125 := Tryz.func80.trans (congrArg some (by kernel_rfl))
 f128 := Tryz.func105.trans (congrArg some (by kernel_rfl))
 f129 := Tryz.func106.trans (congrArg some (by kernel_rfl))
 f189 := Tryz.func61.trans (congrArg some (by kernel_rfl))
 f215 := Tryz.func94.trans (congrArg some (by kernel_rfl))
 f216 := Tryz.func102.trans (congrArg some (by kernel_rfl))
 f257 := Tryz.func79.trans (congrArg some (by kernel_rfl))
 f294 := Tryz.func96.trans (congrArg some (by kernel_rfl))
 f295 := Tryz.func97.trans (congrArg some (by kernel_rfl))
 f296 := Tryz.func98.trans (congrArg some (by kernel_rfl))
 f297 := Tryz.func99.trans (congrArg some (by kernel_rfl))
 f298 := Tryz.func100.trans (congrArg some (by kernel_rfl))
 f299 := Tryz.func101.trans (congrArg some (by kernel_rfl))
 f300 := Tryz.func103.trans (congrArg some (by kernel_rfl))
 f301 := Tryz.func104.trans (congrArg some (by kernel_rfl))
 f328 := Tryz.func126.trans (congrArg some (by kernel_rfl))
 f329 := Tryz.func127.trans (congrArg some (by kernel_rfl))
 f330 := Tryz.func128.trans (congrArg some (by kernel_rfl))
 f331 := Tryz.func129.trans (congrArg some (by kernel_rfl))
 f332 := Tryz.func130.trans (congrArg some (by kernel_rfl))
 f343 := Tryz.func143.trans (congrArg some (by kernel_rfl))
 t0 := Tryz.underlying0
 a0 := Tryz.isAgg0
 z0 := Tryz.sizeOf0
 v0 := Tryz.zeroValue0
 t3 := Tryz.underlying3
 a3 := Tryz.isAgg3
 z3 := Tryz.sizeOf3
 v3 := Tryz.zeroValue3
 t4 := Tryz.underlying4
 a4 := Tryz.isAgg4
 z4 := Tryz.sizeOf4
 v4 := Tryz.zeroValue4
 t5 := Tryz.underlying5
 a5 := Tryz.isAgg5
 z5 := Tryz.sizeOf5
 v5 := Tryz.zeroValue5
 t9 := Tryz.underlying9
 a9 := Tryz.isAgg9
 z9 := Tryz.sizeOf9
 v9 := Tryz.zeroValue9
 t28 := Tryz.underlying35
 a28 := Tryz.isAgg35
 z28 := Tryz.sizeOf35
 v28 := Tryz.zeroValue35
 t46 := Tryz.underlying127
 a46 := Tryz.isAgg127
 z46 := Tryz.sizeOf127
 v46 := Tryz.zeroValue127
 t51 := Tryz.underlying158
 a51 := Tryz.isAgg158
 z51 := Tryz.sizeOf158
 v51 := Tryz.zeroValue158
 t53 := Tryz.underlying160
 a53 := Tryz.isAgg160
 z53 := Tryz.sizeOf160
 v53 := Tryz.zeroValue160
 t131 := Tryz.underlying155
 a131 := Tryz.isAgg155
 z131 := Tryz.sizeOf155
 v131 := Tryz.zeroValue155
 t182 := Tryz.underlying150
 a182 := Tryz.isAgg150
 z182 := Tryz.sizeOf150
 v182 := Tryz.zeroValue150
 t183 := Tryz.underlying151
 a183 := Tryz.isAgg151
 z183 := Tryz.sizeOf151
 v183 := Tryz.zeroValue151
 t218 := Tryz.underlying174
 a218 := Tryz.isAgg174
 z218 := Tryz.sizeOf174
 v218 := Tryz.zeroValue174
 t222 := Tryz.underlying178
 a222 := Tryz.isAgg178
 z222 := Tryz.sizeOf178
 v222 := Tryz.zeroValue178
 t228 := Tryz.underlying186
 a228 := Tryz.isAgg186
 z228 := Tryz.sizeOf186
 v228 := Tryz.zeroValue186
 t229 := Tryz.underlying187
 a229 := Tryz.isAgg187
 z229 := Tryz.sizeOf187
 v229 := Tryz.zeroValue187 }
def Tryz.lays20_ren : Go.Shelf.Ren := ⟨fun | 20 => 62 | n => n,fun | 22 => 35 | 3 => 3 | 4 => 4 | 0 => 0 | n => n,fun | n => n⟩
theorem Tryz.lays20 : Go.Proofs.Lays2.n20 Tryz.prog Tryz.lays20_ren := {
 mixed := by kernel_rfl
 f20 := Tryz.func62.trans (congrArg some (by kernel_rfl))
 t0 := Tryz.underlying0
 a0 := Tryz.isAgg0
 z0 := Tryz.sizeOf0
 v0 := Tryz.zeroValue0
 t3 := Tryz.underlying3
 a3 := Tryz.isAgg3
 z3 := Tryz.sizeOf3
 v3 := Tryz.zeroValue3
 t4 := Tryz.underlying4
 a4 := Tryz.isAgg4
 z4 := Tryz.sizeOf4
 v4 := Tryz.zeroValue4
 t22 := Tryz.underlying35
 a22 := Tryz.isAgg35
 z22 := Tryz.sizeOf35
 v22 := Tryz.zeroValue35
 i3 := by kernel_rfl }
def Tryz.lays212_ren : Go.Shelf.Ren := ⟨fun | 212 => 121 | 263 => 141 | 264 => 142 | n => n,fun | 46 => 127 | 51 => 158 | 146 => 182 | 53 => 160 | 148 => 184 | n => n,fun | n => n⟩
theorem Tryz.lays212 : Go.Proofs.Lays.n212 Tryz.prog Tryz.lays212_ren := {
 mixed := by kernel_rfl
 f212 := Tryz.func121.trans (congrArg some (by kernel_rfl))
 f263 := Tryz.func141.trans (congrArg some (by kernel_rfl))
 f264 := Tryz.func142.trans (congrArg some (by kernel_rfl))
 t46 := Tryz.underlying127
 a46 := Tryz.isAgg127
 z46 := Tryz.sizeOf127
 v46 := Tryz.zeroValue127
 t51 := Tryz.underlying158
 a51 := Tryz.isAgg158
 z51 := Tryz.sizeOf158
 v51 := Tryz.zeroValue158
 t53 := Tryz.underlying160
 a53 := Tryz.isAgg160
 z53 := Tryz.sizeOf160
 v53 := Tryz.zeroValue160
 t146 := Tryz.underlying182
 a146 := Tryz.isAgg182
 z146 := Tryz.sizeOf182
 v146 := Tryz.zeroValue182
 t148 := Tryz.underlying184
 a148 := Tryz.isAgg184
 z148 := Tryz.sizeOf184
 v148 := Tryz.zeroValue184 }
end Go.Proofs
namespace Go.Nilo
open Go.Proofs

theorem slices_Sort_Lint_int_ok {N : Nat} {G : Pers} {Lf : List Ent} {w : World} (x : List Int) {x_p : Option Addr} {x_c : Nat}  (hc : Ctx G (.row x_p x_c (x.map encI_i64) 3 1::Lf) w) {res : (List Int)} (hF : slices_Sort_Lint_int N x = some res) : Calls Tryz.prog 61 #[.slice x_p x.length x_c] w (fun e w => e = .returned (.tuple #[]) ∧ res.length = x.length ∧ Ctx G (.row x_p x_c (res.map encI_i64) 3 1::Lf) w) := by
 unfold slices_Sort_Lint_int at hF
 exact sort_ctx (fun w => sort_nil Go.Proofs.Tryz.lays189 w) (fun b o c zs w h1 h2 h3 => Go.Proofs.Any.slices_Sort_int Go.Proofs.Tryz.lays189 b o c zs w h1 h2 h3) hc hF

def slices_Compact_Lint_int (N : Nat) (s_ : List Int) : Option ((List Int)) :=
 compO s_
/-! ### Walks of the library -/

theorem slices_Compact_Lint_int_ok {N : Nat} {G : Pers} {Lf : List Ent} {w : World} (s_ : List Int) {s__p : Option Addr} {s__c : Nat}  (hc : Ctx G (.row s__p s__c (s_.map encI_i64) 3 1::Lf) w) {res : (List Int)} (hF : slices_Compact_Lint_int N s_ = some res) : Calls Tryz.prog 62 #[.slice s__p s_.length s__c] w (fun e w => ∃ (p'1 : Option Addr) (c'1 : Nat),e = .returned (.slice p'1 res.length c'1) ∧ Ctx G (.row p'1 c'1 (res.map encI_i64) 3 1::Lf) w) := by
 unfold slices_Compact_Lint_int at hF
 exact compact_ctx (fun a c w => Go.Proofs.Any.slices_Compact_int_empty Go.Proofs.Tryz.lays20 a c w) (fun b o c zs w h1 h2 h3 => Go.Proofs.Any.slices_Compact_int Go.Proofs.Tryz.lays20 b o c zs w h1 h2 h3) hc hF

def crew_Cable_starts_b5 (N : Nat) (c_ : crew_Cable) (out : List Int) (x : Int) : Option (Step ((List Int) × Int) ((List Int))) :=
 cond (decide (x < ((c_.Rides.length : Nat) : Int)))
 (Option.bind (getI c_.Rides x) fun e_1 =>
 Option.bind (room ((out ++ [e_1.From])).length) fun un =>
 some (.cont ((out ++ [e_1.From]),W (x + 1))))
 (some (.brk (out,x)))
def crew_Cable_starts (N : Nat) (c_ : crew_Cable) : Option ((List Int)) :=
 Option.bind (loopO (fun s5 => crew_Cable_starts_b5 N c_ s5.1 s5.2) N (([0] : List Int),0)) fun x5 =>
 exK x5 (fun s5 => Option.bind (slices_Clone_Lint_int N s5.1) fun r =>
 Option.bind (slices_Sort_Lint_int N r) fun r_1 =>
 Option.bind (slices_Compact_Lint_int N r_1) fun r_2 =>
 some r_2) some
theorem crew_Cable_starts_ok {N : Nat} {G : Pers} {Lf : List Ent} {w : World} (c_ : crew_Cable) {c__Rides_p : Option Addr} {c__Rides_c : Nat} (h_c__Rides : Rd G 4 c__Rides_p c__Rides_c (c_.Rides.map enc_crew_Ride)) (hc : Ctx G (Lf) w) {res : (List Int)} (hF : crew_Cable_starts N c_ = some res) : Calls Tryz.prog 36 #[.agg #[i6 c_.Car,i6 c_.Wide,i6 c_.Sag,i6 c_.Most,.slice c__Rides_p c_.Rides.length c__Rides_c]] w (fun e w => ∃ (p'1 : Option Addr) (c'1 : Nat),e = .returned (.slice p'1 res.length c'1) ∧ Ctx G (.row p'1 c'1 (res.map encI_i64) 3 1::Lf) w) := by
 unfold crew_Cable_starts at hF
 refine fnIn Tryz.func36 rfl Tryz.ntmps36 rfl fun a hf => zS fun K h => zB hf hc rfl fun b_1 a w hf hc => sp 1 hf rfl fun a hf => zT h ?_
 refine zS fun K h => stBS (rows := ([0] : List Int).map encI_i64) (vs := [(0,i6 0)]) hf hc rfl rfl sl_35 rfl ⟨rfl,rfl,rfl,trivial⟩ rfl rfl fun b_2 a w hf hc => sp 1 hf rfl fun a hf => zT h ?_
 refine wp_seq_k fun K3 h3 => zS fun K h => zP hf rfl (pFA fa_27_4 rfl) fun a hf => zL hf hc sc_25 m1 rfl fun a w hf hc => zP hf rfl (pLenS Tryz.underlying25 rfl) fun a hf => sp 1 hf rfl fun a hf => zT h ?_
 refine wp_block ?_
 obtain ⟨x5,hx5,hF⟩ := bnd_some hF
 let S5 : ((List Int) × Int) → Act → World → Prop := (fun (zz : (List Int) × Int) a w => ∃ (p_1 : Option Addr) (c_1 : Nat),Has 27 a [(3,.slice p_1 zz.1.length c_1),(9,.slice c__Rides_p c_.Rides.length c__Rides_c),(10,i6 ((c_.Rides.length : Nat) : Int)),(11,i6 zz.2)] ∧ Ctx G (.row p_1 c_1 (zz.1.map encI_i64) 3 1::Lf) w)
 have hr5 : ∀ (zz : (List Int) × Int) a w,x5 = .go zz → S5 zz a w → K3 a w := by
  rintro ⟨out,x⟩ a w rfl ⟨p_1,c_1,hf,hc⟩
  replace hF := exK_go hF
  refine h3 _ _ ?_
  refine zS fun K h => sp 1 hf rfl fun a hf => ?_
  obtain ⟨r,hr,hF⟩ := bnd_some hF
  obtain ⟨G1,hle1,hrd1,hc,hth1⟩ := lend hc k0
  refine zC hf en_27 rfl (slices_Clone_Lint_int_ok out hrd1 hc hr) ?_
  rintro _ w ⟨p_2,c_2,rfl,hc⟩
  refine ⟨_,rfl,fun a hf => ?_⟩
  replace hc := hth1 _ _ hc
  refine sp 1 hf rfl fun a hf => zT h ?_
  refine zS fun K h => sp 1 hf rfl fun a hf => ?_
  obtain ⟨r_1,hr_1,hF⟩ := bnd_some hF
  refine zC hf en_61 rfl (slices_Sort_Lint_int_ok r (hc.pick k1) hr_1) ?_
  rintro _ w ⟨rfl,hl,hc⟩
  refine ⟨_,rfl,fun a hf => ?_⟩
  try rw [← hl] at hf
  try rw [← hl] at hc
  refine zT h ?_
  refine zS fun K h => sp 1 hf rfl fun a hf => ?_
  obtain ⟨r_2,hr_2,hF⟩ := bnd_some hF
  refine zC hf en_62 rfl (slices_Compact_Lint_int_ok r_1 (hc.pick k0) hr_2) ?_
  rintro _ w ⟨p_3,c_3,rfl,hc⟩
  refine ⟨_,rfl,fun a hf => ?_⟩
  refine sp 1 hf rfl fun a hf => zT h ?_
  refine wp_ret ?_
  obtain rfl := sj hF
  replace hc := hc.drop k1
  exact zO1 Tryz.results36 hf rfl ⟨p_3,c_3,rfl,hc⟩
 have ho5 : ∀ r,x5 = .out r → r = res := by
  rintro r rfl
  exact sj hF
 replace hc := hc.drop k1
 refine cLoop N (loopW (S := S5) (x := x5) ?_ N (([0] : List Int),0) _ _ ⟨(some ⟨b_2,0,none⟩),1,hf.kp rfl,hc⟩ hx5)
 clear hF hf hc
 rintro ⟨out,x⟩ st5 a w KB5 ⟨p_1,c_1,hf,hc⟩ hF hfin5 hK5
 unfold crew_Cable_starts_b5 at hF
 refine zS fun K h => sp 1 hf rfl fun a hf => zT h ?_
 refine wp_seq_k fun K10 h10 => zI hf rfl hF ?_ ?_ <;> clear hF <;> intro hF
 ·refine wp_skip ?_
  refine h10 _ _ ?_
  refine wp_seq_k fun K11 h11 => wp_block ?_
  refine zS fun K h => ?_
  obtain ⟨e_1,he_1,hF⟩ := bnd_some hF
  obtain ⟨b_3,o,qa,qp⟩ := h_c__Rides.atm he_1
  refine zP hf rfl (pIA Tryz.underlying25 sz_45 rfl rfl qa) fun a hf => zE hf hc rfl (eLdN (vs := [i6 e_1.From,i6 e_1.Long,i6 e_1.Weight.Lo,i6 e_1.Weight.Hi]) ag_45 rfl rfl (cells_pc qp (n := 4) (o' := 0) rfl)) fun a w hf hc => zA hf hc zr_45 rfl fun b_4 a w hf hc => zW hf hc sz_45 u0 rfl fun w hc => zT h ?_
  refine cReg ?_
  refine sp 1 hf rfl fun a hf => zP hf rfl (pFA fa_45_0 rfl) fun a hf => zL hf hc sc_3 m0 rfl fun a w hf hc => stBS (rows := ([e_1.From] : List Int).map encI_i64) (vs := [(0,i6 e_1.From)]) hf hc rfl rfl sl_35 rfl ⟨rfl,rfl,rfl,trivial⟩ rfl rfl fun b_5 a w hf hc => ?_
  obtain ⟨un,hun,hF⟩ := bnd_some hF
  refine stApm (xs := out) (ys := ([e_1.From] : List Int)) hf hc rfl rfl sl_35 rfl rfl rfl rfl rfl one_encI_i64 (src_row hc m0) (fun _ _ => u2) (by simpa using room_spec hun) fun p_4 c_4 a w hf hc => sp 1 hf rfl fun a hf => cNil ?_
  refine h11 _ _ ?_
  refine cReg ?_
  refine sp 2 hf rfl fun a hf => cNil ?_
  replace hc := (hc.drop k1).drop k0
  exact hK5 ((out ++ [e_1.From]),W (x + 1)) _ _ (sj hF).symm ⟨p_4,c_4,hf.kp rfl,hc⟩
 ·refine wp_exit ?_
  refine xThen ?_
  refine xThen ?_
  have he := sj hF
  rw [← he] at hfin5
  refine cHit ?_
  exact hr5 _ _ _ hfin5 ⟨p_1,c_1,hf.kp rfl,hc⟩

def crew_Beyond_1_1 (N : Nat) (n : Int) (x : crew_Cable) : Option (Bool) :=
 Option.bind (crew_Cable_load N (⟨x.Car,x.Wide,x.Sag,x.Most,x.Rides⟩ : crew_Cable) n) fun r =>
 some (crew_Cable_beyond (⟨x.Car,x.Wide,x.Sag,x.Most,x.Rides⟩ : crew_Cable) r)
theorem crew_Beyond_1_1_ok {N : Nat} {G : Pers} {Lf : List Ent} {w : World} (n : Int) (x : crew_Cable) {b_ : Nat} {x_Rides_p : Option Addr} {x_Rides_c : Nat} {b__1 : Nat} (h_x_Rides : Rd G 4 x_Rides_p x_Rides_c (x.Rides.map enc_crew_Ride)) (hc : Ctx G (.box b_ [i6 x.Car,i6 x.Wide,i6 x.Sag,i6 x.Most,.slice x_Rides_p x.Rides.length x_Rides_c] 27::.box b__1 [.func (.func 64) #[] #[]] 83::Lf) w) {res : Bool} (hF : crew_Beyond_1_1 N n x = some res) : Calls Tryz.prog 39 #[i6 n,pq b_,pq b__1] w (fun e w => e = .returned (.bool res) ∧ Ctx G (.box b_ [i6 x.Car,i6 x.Wide,i6 x.Sag,i6 x.Most,.slice x_Rides_p x.Rides.length x_Rides_c] 27::.box b__1 [.func (.func 64) #[] #[]] 83::Lf) w) := by
 unfold crew_Beyond_1_1 at hF
 refine fnIn Tryz.func39 rfl Tryz.ntmps39 rfl fun a hf => zS fun K h => sp 1 hf rfl fun a hf => zT h ?_
 refine wp_seq_k fun K2 h2 => ?_
 obtain ⟨r,hr,hF⟩ := bnd_some hF
 refine cQ hc follows_mx (by kernel_rfl) ?_
 refine qE hf rfl rfl rfl (eLdN (vs := [i6 x.Car,i6 x.Wide,i6 x.Sag,i6 x.Most,.slice x_Rides_p x.Rides.length x_Rides_c]) ag_27 rfl rfl (cells_box (n := 5) m0 rfl)) fun a hf => qE hf rfl rfl rfl (eLdN (vs := [i6 x.Car,i6 x.Wide,i6 x.Sag,i6 x.Most,.slice x_Rides_p x.Rides.length x_Rides_c]) ag_27 rfl rfl (cells_box (n := 5) m0 rfl)) fun a hf => qE hf rfl rfl rfl (Pu.ev (pM rfl)) fun a hf => qE hf rfl rfl rfl (eLdN (vs := [.func (.func 64) #[] #[]]) ag_83 rfl rfl (cells_box (n := 1) m1 rfl)) fun a hf => qE hf rfl rfl rfl (eC (v := i6 r) (vs := [.agg #[i6 x.Car,i6 x.Wide,i6 x.Sag,i6 x.Most,.slice x_Rides_p x.Rides.length x_Rides_c],i6 n,.agg #[.func (.func 64) #[] #[]]]) (caps := []) en_40 rfl rfl rfl rfl (fun w hc => crew_Cable_load_ok (⟨x.Car,x.Wide,x.Sag,x.Most,x.Rides⟩ : crew_Cable) n h_x_Rides hc hr)) fun a hf => qE hf rfl rfl rfl (eC (v := .bool (crew_Cable_beyond (⟨x.Car,x.Wide,x.Sag,x.Most,x.Rides⟩ : crew_Cable) r)) (vs := [.agg #[i6 x.Car,i6 x.Wide,i6 x.Sag,i6 x.Most,.slice x_Rides_p x.Rides.length x_Rides_c],i6 r]) (caps := []) en_30 rfl rfl rfl rfl (fun w hc => crew_Cable_beyond_ok (⟨x.Car,x.Wide,x.Sag,x.Most,x.Rides⟩ : crew_Cable) r h_x_Rides hc rfl)) fun a hf => qE hf rfl rfl rfl (Pu.ev (pA rfl)) fun a hf => ?_
 intro w hc
 refine h2 _ _ ?_
 refine wp_ret ?_
 obtain rfl := sj hF
 exact zO1 Tryz.results39 hf rfl ⟨rfl,hc⟩

def slices_IndexFunc_Lint_int_s2_b4 (N : Nat) (s_ : List Int) (f_ : crew_Cable) (x : Int) : Option (Step (Int) (Int)) :=
 cond (decide (x < ((s_.length : Nat) : Int)))
 (Option.bind (getI s_ x) fun e_1 =>
 Option.bind (crew_Beyond_1_1 N e_1 f_) fun r =>
 cond r
 (some (.ret x))
 (some (.cont (W (x + 1)))))
 (some (.brk x))
def slices_IndexFunc_Lint_int_s2 (N : Nat) (s_ : List Int) (f_ : crew_Cable) : Option (Int) :=
 Option.bind (loopO (fun s4 => slices_IndexFunc_Lint_int_s2_b4 N s_ f_ s4) N 0) fun x4 =>
 exK x4 (fun s4 => some (-1)) some
theorem slices_IndexFunc_Lint_int_s2_ok {N : Nat} {G : Pers} {Lf : List Ent} {w : World} (s_ : List Int) (f_ : crew_Cable) {s__p : Option Addr} {s__c : Nat} {b_ : Nat} {f__Rides_p : Option Addr} {f__Rides_c : Nat} {b__1 : Nat} (h_s_ : Rd G 1 s__p s__c (s_.map encI_i64)) (h_f__Rides : Rd G 4 f__Rides_p f__Rides_c (f_.Rides.map enc_crew_Ride)) (hc : Ctx G (.box b_ [i6 f_.Car,i6 f_.Wide,i6 f_.Sag,i6 f_.Most,.slice f__Rides_p f_.Rides.length f__Rides_c] 27::.box b__1 [.func (.func 64) #[] #[]] 83::Lf) w) {res : Int} (hF : slices_IndexFunc_Lint_int_s2 N s_ f_ = some res) : Calls Tryz.prog 38 #[.slice s__p s_.length s__c,.func (.func 39) #[] #[pq b_,pq b__1]] w (fun e w => e = .returned (i6 res) ∧ Ctx G (.box b_ [i6 f_.Car,i6 f_.Wide,i6 f_.Sag,i6 f_.Most,.slice f__Rides_p f_.Rides.length f__Rides_c] 27::.box b__1 [.func (.func 64) #[] #[]] 83::Lf) w) := by
 unfold slices_IndexFunc_Lint_int_s2 at hF
 refine fnIn Tryz.func38 rfl Tryz.ntmps38 rfl fun a hf => zS fun K h => sp 1 hf rfl fun a hf => zT h ?_
 refine wp_seq_k fun K2 h2 => zS fun K h => sp 1 hf rfl fun a hf => zP hf rfl (pLenS Tryz.underlying35 rfl) fun a hf => sp 1 hf rfl fun a hf => zT h ?_
 refine wp_block ?_
 obtain ⟨x4,hx4,hF⟩ := bnd_some hF
 let S4 : Int → Act → World → Prop := (fun (zz : Int) a w => Has 19 a [(0,.slice s__p s_.length s__c),(1,.func (.func 39) #[] #[pq b_,pq b__1]),(7,i6 ((s_.length : Nat) : Int)),(8,i6 zz)] ∧ Ctx G (.box b_ [i6 f_.Car,i6 f_.Wide,i6 f_.Sag,i6 f_.Most,.slice f__Rides_p f_.Rides.length f__Rides_c] 27::.box b__1 [.func (.func 64) #[] #[]] 83::Lf) w)
 have hr4 : ∀ (zz : Int) a w,x4 = .go zz → S4 zz a w → K2 a w := by
  rintro x a w rfl ⟨hf,hc⟩
  replace hF := exK_go hF
  refine h2 _ _ ?_
  refine zS fun K h => sp 1 hf rfl fun a hf => zT h ?_
  refine wp_ret ?_
  obtain rfl := sj hF
  exact zO1 Tryz.results38 hf rfl ⟨rfl,hc⟩
 have ho4 : ∀ r,x4 = .out r → r = res := by
  rintro r rfl
  exact sj hF
 refine cLoop N (loopW (S := S4) (x := x4) ?_ N 0 _ _ ⟨hf.kp rfl,hc⟩ hx4)
 clear hF hf hc
 rintro x st4 a w KB4 ⟨hf,hc⟩ hF hfin4 hK4
 unfold slices_IndexFunc_Lint_int_s2_b4 at hF
 refine zS fun K h => sp 1 hf rfl fun a hf => zT h ?_
 refine wp_seq_k fun K7 h7 => zI hf rfl hF ?_ ?_ <;> clear hF <;> intro hF
 ·refine wp_skip ?_
  refine h7 _ _ ?_
  refine wp_seq_k fun K8 h8 => wp_block ?_
  refine zS fun K h => sp 2 hf rfl fun a hf => zT h ?_
  refine zS fun K h => sp 3 hf rfl fun a hf => ?_
  obtain ⟨e_1,he_1,hF⟩ := bnd_some hF
  obtain ⟨b_1,o,qa,qp⟩ := h_s_.atm he_1
  refine zP hf rfl (pIA Tryz.underlying35 sz_3 rfl rfl qa) fun a hf => zE hf hc rfl (eLd1 sc_3 rfl (cell_pc (j := 0) qp rfl)) fun a w hf hc => ?_
  obtain ⟨r,hr,hF⟩ := bnd_some hF
  refine zQ (v := .bool r) hf hc en_39 rfl (fun w hc => (crew_Beyond_1_1_ok e_1 f_ h_f__Rides ((hc.pick k1).pick k1) hr).mono fun e w h => ⟨h.1,((h.2.unpick k1).unpick k1)⟩) fun a w hf hc => zT h ?_
  refine zI hf rfl hF ?_ ?_ <;> clear hF <;> intro hF
  ·refine zS fun K h => sp 2 hf rfl fun a hf => zT h ?_
   refine wp_ret ?_
   refine xBlkR ?_
   refine xThenR ?_
   refine xThenR ?_
   have he := sj hF
   rw [← he] at hfin4
   replace hF := ho4 _ hfin4
   refine xBlkR ?_
   refine xThenR ?_
   obtain rfl := hF
   exact zO1 Tryz.results38 hf rfl ⟨rfl,hc⟩
  ·refine wp_skip ?_
   refine h8 _ _ ?_
   refine cReg ?_
   refine sp 2 hf rfl fun a hf => cNil ?_
   exact hK4 (W (x + 1)) _ _ (sj hF).symm ⟨hf.kp rfl,hc⟩
 ·refine wp_exit ?_
  refine xThen ?_
  refine xThen ?_
  have he := sj hF
  rw [← he] at hfin4
  refine cHit ?_
  exact hr4 _ _ _ hfin4 ⟨hf.kp rfl,hc⟩

def crew_Beyond_1 (N : Nat) (x : List Int) (x_1 : crew_Cable) : Option (Int) :=
 Option.bind (slices_IndexFunc_Lint_int_s2 N x x_1) fun r =>
 cond (r == (-1))
 (some (-1))
 (Option.bind (getI x r) fun e_1 =>
 some e_1)
theorem crew_Beyond_1_ok {N : Nat} {G : Pers} {Lf : List Ent} {w : World} (x : List Int) (x_1 : crew_Cable) {b_ : Nat} {x_p : Option Addr} {x_c : Nat} {b__1 : Nat} {x_1_Rides_p : Option Addr} {x_1_Rides_c : Nat} (h_x : Rd G 1 x_p x_c (x.map encI_i64)) (h_x_1_Rides : Rd G 4 x_1_Rides_p x_1_Rides_c (x_1.Rides.map enc_crew_Ride)) (hc : Ctx G (.box b_ [.slice x_p x.length x_c] 35::.box b__1 [i6 x_1.Car,i6 x_1.Wide,i6 x_1.Sag,i6 x_1.Most,.slice x_1_Rides_p x_1.Rides.length x_1_Rides_c] 27::Lf) w) {res : Int} (hF : crew_Beyond_1 N x x_1 = some res) : Calls Tryz.prog 37 #[.agg #[.func (.func 64) #[] #[]],pq b_,pq b__1] w (fun e w => e = .returned (i6 res) ∧ Ctx G (.box b_ [.slice x_p x.length x_c] 35::.box b__1 [i6 x_1.Car,i6 x_1.Wide,i6 x_1.Sag,i6 x_1.Most,.slice x_1_Rides_p x_1.Rides.length x_1_Rides_c] 27::Lf) w) := by
 unfold crew_Beyond_1 at hF
 refine fnIn Tryz.func37 rfl Tryz.ntmps37 rfl fun a hf => zS fun K h => zB hf hc rfl fun b_1 a w hf hc => sp 1 hf rfl fun a hf => zT h ?_
 refine zS fun K h => zL hf hc sc_35 m1 rfl fun a w hf hc => zP hf rfl (pMF (us := [pq b__1,pq b_1]) rfl rfl) fun a hf => ?_
 obtain ⟨r,hr,hF⟩ := bnd_some hF
 refine zQ (v := i6 r) hf hc en_38 rfl (fun w hc => (slices_IndexFunc_Lint_int_s2_ok x x_1 h_x h_x_1_Rides ((hc.pick k0).pick k2) hr).mono fun e w h => ⟨h.1,((h.2.unpick k2).unpick k0)⟩) fun a w hf hc => sp 1 hf rfl fun a hf => zT h ?_
 refine wp_seq_k fun K3 h3 => zS fun K h => sp 2 hf rfl fun a hf => zT h ?_
 refine zI hf rfl hF ?_ ?_ <;> clear hF <;> intro hF
 ·refine zS fun K h => sp 1 hf rfl fun a hf => zT h ?_
  refine wp_ret ?_
  refine xThenR ?_
  obtain rfl := sj hF
  replace hc := hc.drop k0
  exact zO1 Tryz.results37 hf rfl ⟨rfl,hc⟩
 ·refine wp_skip ?_
  refine h3 _ _ ?_
  refine zS fun K h => zL hf hc sc_35 m1 rfl fun a w hf hc => sp 1 hf rfl fun a hf => ?_
  obtain ⟨e_1,he_1,hF⟩ := bnd_some hF
  obtain ⟨b_2,o,qa,qp⟩ := h_x.atm he_1
  refine zP hf rfl (pIA Tryz.underlying35 sz_3 rfl rfl qa) fun a hf => zE hf hc rfl (eLd1 sc_3 rfl (cell_pc (j := 0) qp rfl)) fun a w hf hc => sp 1 hf rfl fun a hf => zT h ?_
  refine wp_ret ?_
  obtain rfl := sj hF
  replace hc := hc.drop k0
  exact zO1 Tryz.results37 hf rfl ⟨rfl,hc⟩

def crew_low  : Unit :=
 ()
theorem crew_low_ok {G : Pers} {Lf : List Ent} {w : World}    (hc : Ctx G (Lf) w) {res : Unit} (hF : crew_low = res) : Calls Tryz.prog 42 #[] w (fun e w => e = .returned (.agg #[.func (.func 65) #[] #[]]) ∧ Ctx G (Lf) w) := by
 unfold crew_low at hF
 refine fnIn Tryz.func42 rfl Tryz.ntmps42 rfl fun a hf => zS fun K h => zA hf hc zr_83 rfl fun b_1 a w hf hc => zT h ?_
 refine zS fun K h => zP hf rfl (pBuildS (cells := [.func (.func 65) #[] #[]]) bt_83 rfl rfl) fun a hf => zW hf hc sz_83 u0 rfl fun w hc => zT h ?_
 refine wp_ret ?_
 obtain rfl := hF
 exact fnOut1 (by simp) rfl Tryz.results42 hf hc (rv_cellN (vs := [.func (.func 65) #[] #[]]) ag_83 rfl rfl (cells_box (n := 1) m0 rfl)) ⟨rfl,(hc.drop k0)⟩

def crew_low_1 (s_ : api_Span) : Int :=
 s_.Lo
theorem crew_low_1_ok {G : Pers} {Lf : List Ent} {w : World} (s_ : api_Span)   (hc : Ctx G (Lf) w) {res : Int} (hF : crew_low_1 s_ = res) : Calls Tryz.prog 65 #[.agg #[i6 s_.Lo,i6 s_.Hi]] w (fun e w => e = .returned (i6 res) ∧ Ctx G (Lf) w) := by
 unfold crew_low_1 at hF
 refine fnIn Tryz.func65 rfl Tryz.ntmps65 rfl fun a hf => zS fun K h => zB hf hc rfl fun b_1 a w hf hc => sp 1 hf rfl fun a hf => zT h ?_
 refine zS fun K h => zP hf rfl (pFA fa_43_0 rfl) fun a hf => zL hf hc sc_3 m0 rfl fun a w hf hc => sp 1 hf rfl fun a hf => zT h ?_
 refine wp_ret ?_
 obtain rfl := hF
 replace hc := hc.drop k0
 exact zO1 Tryz.results65 hf rfl ⟨rfl,hc⟩

def crew_Cable_load_s2_j9 (N : Nat) (x : Int) (l_1 : List Int) : Option (Step ((List Int) × Int) (Int)) :=
 some (.cont (l_1,W (x + 1)))
def crew_Cable_load_s2_b5 (N : Nat) (c_ : crew_Cable) (n : Int) (l : List Int) (x : Int) : Option (Step ((List Int) × Int) (Int)) :=
 cond (decide (x < ((c_.Rides.length : Nat) : Int)))
 (Option.bind (getI c_.Rides x) fun e_1 =>
 cond (crew_Ride_on e_1 n)
 (Option.bind (room ((l ++ [(crew_low_1 e_1.Weight)])).length) fun un =>
 crew_Cable_load_s2_j9 N x (l ++ [(crew_low_1 e_1.Weight)]))
 (crew_Cable_load_s2_j9 N x l))
 (some (.brk (l,x)))
def crew_Cable_load_s2 (N : Nat) (c_ : crew_Cable) (n : Int) : Option (Int) :=
 Option.bind (loopO (fun s5 => crew_Cable_load_s2_b5 N c_ n s5.1 s5.2) N (([c_.Car] : List Int),0)) fun x5 =>
 exK x5 (fun s5 => Option.bind (crew_sum N s5.1) fun r =>
 some r) some
theorem crew_Cable_load_s2_ok {N : Nat} {G : Pers} {Lf : List Ent} {w : World} (c_ : crew_Cable) (n : Int) {c__Rides_p : Option Addr} {c__Rides_c : Nat} (h_c__Rides : Rd G 4 c__Rides_p c__Rides_c (c_.Rides.map enc_crew_Ride)) (hc : Ctx G (Lf) w) {res : Int} (hF : crew_Cable_load_s2 N c_ n = some res) : Calls Tryz.prog 40 #[.agg #[i6 c_.Car,i6 c_.Wide,i6 c_.Sag,i6 c_.Most,.slice c__Rides_p c_.Rides.length c__Rides_c],i6 n,.agg #[.func (.func 65) #[] #[]]] w (fun e w => e = .returned (i6 res) ∧ Ctx G (Lf) w) := by
 unfold crew_Cable_load_s2 at hF
 refine fnIn Tryz.func40 rfl Tryz.ntmps40 rfl fun a hf => zS fun K h => zB hf hc rfl fun b_1 a w hf hc => zB hf hc rfl fun b_2 a w hf hc => sp 1 hf rfl fun a hf => zT h ?_
 refine zS fun K h => zP hf rfl (pFA fa_27_0 rfl) fun a hf => zL hf hc sc_3 m1 rfl fun a w hf hc => stBS (rows := ([c_.Car] : List Int).map encI_i64) (vs := [(0,i6 c_.Car)]) hf hc rfl rfl sl_35 rfl ⟨rfl,rfl,rfl,trivial⟩ rfl rfl fun b_3 a w hf hc => sp 1 hf rfl fun a hf => zT h ?_
 refine wp_seq_k fun K3 h3 => zS fun K h => zP hf rfl (pFA fa_27_4 rfl) fun a hf => zL hf hc sc_25 m2 rfl fun a w hf hc => zP hf rfl (pLenS Tryz.underlying25 rfl) fun a hf => sp 1 hf rfl fun a hf => zT h ?_
 refine wp_block ?_
 obtain ⟨x5,hx5,hF⟩ := bnd_some hF
 let S5 : ((List Int) × Int) → Act → World → Prop := (fun (zz : (List Int) × Int) a w => ∃ (p_1 : Option Addr) (c_1 : Nat),Has 34 a [(1,i6 n),(5,pq b_2),(7,.slice p_1 zz.1.length c_1),(14,.slice c__Rides_p c_.Rides.length c__Rides_c),(15,i6 ((c_.Rides.length : Nat) : Int)),(16,i6 zz.2)] ∧ Ctx G (.row p_1 c_1 (zz.1.map encI_i64) 3 1::.box b_2 [.func (.func 65) #[] #[]] 83::Lf) w)
 have hr5 : ∀ (zz : (List Int) × Int) a w,x5 = .go zz → S5 zz a w → K3 a w := by
  rintro ⟨l,x⟩ a w rfl ⟨p_1,c_1,hf,hc⟩
  replace hF := exK_go hF
  refine h3 _ _ ?_
  refine zS fun K h => sp 1 hf rfl fun a hf => ?_
  obtain ⟨r,hr,hF⟩ := bnd_some hF
  refine zQ (v := i6 r) hf hc en_63 rfl (fun w hc => by obtain ⟨G1,hle1,hrd1,hc,hth1⟩ := lend hc k0; exact (crew_sum_ok l hrd1 hc hr).mono fun e w h => ⟨h.1,((hth1 _ _ h.2).unpick k0)⟩) fun a w hf hc => sp 1 hf rfl fun a hf => zT h ?_
  refine wp_ret ?_
  obtain rfl := sj hF
  replace hc := (hc.drop k1).drop k0
  exact zO1 Tryz.results40 hf rfl ⟨rfl,hc⟩
 have ho5 : ∀ r,x5 = .out r → r = res := by
  rintro r rfl
  exact sj hF
 replace hc := hc.drop k2
 refine cLoop N (loopW (S := S5) (x := x5) ?_ N (([c_.Car] : List Int),0) _ _ ⟨(some ⟨b_3,0,none⟩),1,hf.kp rfl,hc⟩ hx5)
 clear hF hf hc
 rintro ⟨l,x⟩ st5 a w KB5 ⟨p_1,c_1,hf,hc⟩ hF hfin5 hK5
 unfold crew_Cable_load_s2_b5 at hF
 refine zS fun K h => sp 1 hf rfl fun a hf => zT h ?_
 refine wp_seq_k fun K8 h8 => zI hf rfl hF ?_ ?_ <;> clear hF <;> intro hF
 ·refine wp_skip ?_
  refine h8 _ _ ?_
  refine wp_seq_k fun K9 h9 => ?_
  have hj9 : ∀ (l_1 : List Int) (p_2 : Option Addr) (c_2 : Nat) a w,Has 34 a [(1,i6 n),(5,pq b_2),(7,.slice p_2 l_1.length c_2),(14,.slice c__Rides_p c_.Rides.length c__Rides_c),(15,i6 ((c_.Rides.length : Nat) : Int)),(16,i6 x)] → Ctx G (.row p_2 c_2 (l_1.map encI_i64) 3 1::.box b_2 [.func (.func 65) #[] #[]] 83::Lf) w → crew_Cable_load_s2_j9 N x l_1 = some st5 → K9 a w := by
   repeat (clear hF)
   repeat (clear hc)
   repeat (clear hf)
   intro l_1 p_2 c_2 a w hf hc hF
   unfold crew_Cable_load_s2_j9 at hF
   refine h9 _ _ ?_
   refine cReg ?_
   refine sp 2 hf rfl fun a hf => cNil ?_
   exact hK5 (l_1,W (x + 1)) _ _ (sj hF).symm ⟨p_2,c_2,hf.kp rfl,hc⟩
  refine wp_block ?_
  refine zS fun K h => ?_
  obtain ⟨e_1,he_1,hF⟩ := bnd_some hF
  obtain ⟨b_4,o,qa,qp⟩ := h_c__Rides.atm he_1
  refine zP hf rfl (pIA Tryz.underlying25 sz_45 rfl rfl qa) fun a hf => zE hf hc rfl (eLdN (vs := [i6 e_1.From,i6 e_1.Long,i6 e_1.Weight.Lo,i6 e_1.Weight.Hi]) ag_45 rfl rfl (cells_pc qp (n := 4) (o' := 0) rfl)) fun a w hf hc => zA hf hc zr_45 rfl fun b_5 a w hf hc => zW hf hc sz_45 u0 rfl fun w hc => zT h ?_
  refine zS fun K h => zN hf hc ag_45 m0 rfl fun a w hf hc => sp 1 hf rfl fun a hf => zQ (v := .bool (crew_Ride_on e_1 n)) hf hc en_35 rfl (fun w hc => crew_Ride_on_ok e_1 n hc rfl) fun a w hf hc => zT h ?_
  refine zI hf rfl hF ?_ ?_ <;> clear hF <;> intro hF
  ·refine cReg ?_
   refine sp 1 hf rfl fun a hf => zP hf rfl (pFA fa_83_0 rfl) fun a hf => zL hf hc sc_81 m2 rfl fun a w hf hc => zP hf rfl (pFA fa_45_2 rfl) fun a hf => zN hf hc ag_43 m0 rfl fun a w hf hc => zQ (v := i6 (crew_low_1 e_1.Weight)) hf hc en_65 rfl (fun w hc => crew_low_1_ok e_1.Weight hc rfl) fun a w hf hc => stBS (rows := ([(crew_low_1 e_1.Weight)] : List Int).map encI_i64) (vs := [(0,i6 (crew_low_1 e_1.Weight))]) hf hc rfl rfl sl_35 rfl ⟨rfl,rfl,rfl,trivial⟩ rfl rfl fun b_6 a w hf hc => ?_
   obtain ⟨un,hun,hF⟩ := bnd_some hF
   refine stApm (xs := l) (ys := ([(crew_low_1 e_1.Weight)] : List Int)) hf hc rfl rfl sl_35 rfl rfl rfl rfl rfl one_encI_i64 (src_row hc m0) (fun _ _ => u2) (by simpa using room_spec hun) fun p_3 c_3 a w hf hc => sp 1 hf rfl fun a hf => cNil ?_
   replace hc := (hc.drop k1).drop k0
   exact hj9 (l ++ [(crew_low_1 e_1.Weight)]) p_3 c_3 _ _  (hf.kp rfl) hc hF
  ·refine wp_skip ?_
   replace hc := hc.drop k0
   exact hj9 l p_1 c_1 _ _  (hf.kp rfl) hc hF
 ·refine wp_exit ?_
  refine xThen ?_
  refine xThen ?_
  have he := sj hF
  rw [← he] at hfin5
  refine cHit ?_
  exact hr5 _ _ _ hfin5 ⟨p_1,c_1,hf.kp rfl,hc⟩

def crew_Beyond_1_1_s2 (N : Nat) (n : Int) (x : crew_Cable) : Option (Bool) :=
 Option.bind (crew_Cable_load_s2 N (⟨x.Car,x.Wide,x.Sag,x.Most,x.Rides⟩ : crew_Cable) n) fun r =>
 some (crew_Cable_beyond (⟨x.Car,x.Wide,x.Sag,x.Most,x.Rides⟩ : crew_Cable) r)
theorem crew_Beyond_1_1_s2_ok {N : Nat} {G : Pers} {Lf : List Ent} {w : World} (n : Int) (x : crew_Cable) {b_ : Nat} {x_Rides_p : Option Addr} {x_Rides_c : Nat} {b__1 : Nat} (h_x_Rides : Rd G 4 x_Rides_p x_Rides_c (x.Rides.map enc_crew_Ride)) (hc : Ctx G (.box b_ [i6 x.Car,i6 x.Wide,i6 x.Sag,i6 x.Most,.slice x_Rides_p x.Rides.length x_Rides_c] 27::.box b__1 [.func (.func 65) #[] #[]] 83::Lf) w) {res : Bool} (hF : crew_Beyond_1_1_s2 N n x = some res) : Calls Tryz.prog 39 #[i6 n,pq b_,pq b__1] w (fun e w => e = .returned (.bool res) ∧ Ctx G (.box b_ [i6 x.Car,i6 x.Wide,i6 x.Sag,i6 x.Most,.slice x_Rides_p x.Rides.length x_Rides_c] 27::.box b__1 [.func (.func 65) #[] #[]] 83::Lf) w) := by
 unfold crew_Beyond_1_1_s2 at hF
 refine fnIn Tryz.func39 rfl Tryz.ntmps39 rfl fun a hf => zS fun K h => sp 1 hf rfl fun a hf => zT h ?_
 refine wp_seq_k fun K2 h2 => ?_
 obtain ⟨r,hr,hF⟩ := bnd_some hF
 refine cQ hc follows_mx (by kernel_rfl) ?_
 refine qE hf rfl rfl rfl (eLdN (vs := [i6 x.Car,i6 x.Wide,i6 x.Sag,i6 x.Most,.slice x_Rides_p x.Rides.length x_Rides_c]) ag_27 rfl rfl (cells_box (n := 5) m0 rfl)) fun a hf => qE hf rfl rfl rfl (eLdN (vs := [i6 x.Car,i6 x.Wide,i6 x.Sag,i6 x.Most,.slice x_Rides_p x.Rides.length x_Rides_c]) ag_27 rfl rfl (cells_box (n := 5) m0 rfl)) fun a hf => qE hf rfl rfl rfl (Pu.ev (pM rfl)) fun a hf => qE hf rfl rfl rfl (eLdN (vs := [.func (.func 65) #[] #[]]) ag_83 rfl rfl (cells_box (n := 1) m1 rfl)) fun a hf => qE hf rfl rfl rfl (eC (v := i6 r) (vs := [.agg #[i6 x.Car,i6 x.Wide,i6 x.Sag,i6 x.Most,.slice x_Rides_p x.Rides.length x_Rides_c],i6 n,.agg #[.func (.func 65) #[] #[]]]) (caps := []) en_40 rfl rfl rfl rfl (fun w hc => crew_Cable_load_s2_ok (⟨x.Car,x.Wide,x.Sag,x.Most,x.Rides⟩ : crew_Cable) n h_x_Rides hc hr)) fun a hf => qE hf rfl rfl rfl (eC (v := .bool (crew_Cable_beyond (⟨x.Car,x.Wide,x.Sag,x.Most,x.Rides⟩ : crew_Cable) r)) (vs := [.agg #[i6 x.Car,i6 x.Wide,i6 x.Sag,i6 x.Most,.slice x_Rides_p x.Rides.length x_Rides_c],i6 r]) (caps := []) en_30 rfl rfl rfl rfl (fun w hc => crew_Cable_beyond_ok (⟨x.Car,x.Wide,x.Sag,x.Most,x.Rides⟩ : crew_Cable) r h_x_Rides hc rfl)) fun a hf => qE hf rfl rfl rfl (Pu.ev (pA rfl)) fun a hf => ?_
 intro w hc
 refine h2 _ _ ?_
 refine wp_ret ?_
 obtain rfl := sj hF
 exact zO1 Tryz.results39 hf rfl ⟨rfl,hc⟩

def slices_IndexFunc_Lint_int_s3_b4 (N : Nat) (s_ : List Int) (f_ : crew_Cable) (x : Int) : Option (Step (Int) (Int)) :=
 cond (decide (x < ((s_.length : Nat) : Int)))
 (Option.bind (getI s_ x) fun e_1 =>
 Option.bind (crew_Beyond_1_1_s2 N e_1 f_) fun r =>
 cond r
 (some (.ret x))
 (some (.cont (W (x + 1)))))
 (some (.brk x))
def slices_IndexFunc_Lint_int_s3 (N : Nat) (s_ : List Int) (f_ : crew_Cable) : Option (Int) :=
 Option.bind (loopO (fun s4 => slices_IndexFunc_Lint_int_s3_b4 N s_ f_ s4) N 0) fun x4 =>
 exK x4 (fun s4 => some (-1)) some
theorem slices_IndexFunc_Lint_int_s3_ok {N : Nat} {G : Pers} {Lf : List Ent} {w : World} (s_ : List Int) (f_ : crew_Cable) {s__p : Option Addr} {s__c : Nat} {b_ : Nat} {f__Rides_p : Option Addr} {f__Rides_c : Nat} {b__1 : Nat} (h_s_ : Rd G 1 s__p s__c (s_.map encI_i64)) (h_f__Rides : Rd G 4 f__Rides_p f__Rides_c (f_.Rides.map enc_crew_Ride)) (hc : Ctx G (.box b_ [i6 f_.Car,i6 f_.Wide,i6 f_.Sag,i6 f_.Most,.slice f__Rides_p f_.Rides.length f__Rides_c] 27::.box b__1 [.func (.func 65) #[] #[]] 83::Lf) w) {res : Int} (hF : slices_IndexFunc_Lint_int_s3 N s_ f_ = some res) : Calls Tryz.prog 38 #[.slice s__p s_.length s__c,.func (.func 39) #[] #[pq b_,pq b__1]] w (fun e w => e = .returned (i6 res) ∧ Ctx G (.box b_ [i6 f_.Car,i6 f_.Wide,i6 f_.Sag,i6 f_.Most,.slice f__Rides_p f_.Rides.length f__Rides_c] 27::.box b__1 [.func (.func 65) #[] #[]] 83::Lf) w) := by
 unfold slices_IndexFunc_Lint_int_s3 at hF
 refine fnIn Tryz.func38 rfl Tryz.ntmps38 rfl fun a hf => zS fun K h => sp 1 hf rfl fun a hf => zT h ?_
 refine wp_seq_k fun K2 h2 => zS fun K h => sp 1 hf rfl fun a hf => zP hf rfl (pLenS Tryz.underlying35 rfl) fun a hf => sp 1 hf rfl fun a hf => zT h ?_
 refine wp_block ?_
 obtain ⟨x4,hx4,hF⟩ := bnd_some hF
 let S4 : Int → Act → World → Prop := (fun (zz : Int) a w => Has 19 a [(0,.slice s__p s_.length s__c),(1,.func (.func 39) #[] #[pq b_,pq b__1]),(7,i6 ((s_.length : Nat) : Int)),(8,i6 zz)] ∧ Ctx G (.box b_ [i6 f_.Car,i6 f_.Wide,i6 f_.Sag,i6 f_.Most,.slice f__Rides_p f_.Rides.length f__Rides_c] 27::.box b__1 [.func (.func 65) #[] #[]] 83::Lf) w)
 have hr4 : ∀ (zz : Int) a w,x4 = .go zz → S4 zz a w → K2 a w := by
  rintro x a w rfl ⟨hf,hc⟩
  replace hF := exK_go hF
  refine h2 _ _ ?_
  refine zS fun K h => sp 1 hf rfl fun a hf => zT h ?_
  refine wp_ret ?_
  obtain rfl := sj hF
  exact zO1 Tryz.results38 hf rfl ⟨rfl,hc⟩
 have ho4 : ∀ r,x4 = .out r → r = res := by
  rintro r rfl
  exact sj hF
 refine cLoop N (loopW (S := S4) (x := x4) ?_ N 0 _ _ ⟨hf.kp rfl,hc⟩ hx4)
 clear hF hf hc
 rintro x st4 a w KB4 ⟨hf,hc⟩ hF hfin4 hK4
 unfold slices_IndexFunc_Lint_int_s3_b4 at hF
 refine zS fun K h => sp 1 hf rfl fun a hf => zT h ?_
 refine wp_seq_k fun K7 h7 => zI hf rfl hF ?_ ?_ <;> clear hF <;> intro hF
 ·refine wp_skip ?_
  refine h7 _ _ ?_
  refine wp_seq_k fun K8 h8 => wp_block ?_
  refine zS fun K h => sp 2 hf rfl fun a hf => zT h ?_
  refine zS fun K h => sp 3 hf rfl fun a hf => ?_
  obtain ⟨e_1,he_1,hF⟩ := bnd_some hF
  obtain ⟨b_1,o,qa,qp⟩ := h_s_.atm he_1
  refine zP hf rfl (pIA Tryz.underlying35 sz_3 rfl rfl qa) fun a hf => zE hf hc rfl (eLd1 sc_3 rfl (cell_pc (j := 0) qp rfl)) fun a w hf hc => ?_
  obtain ⟨r,hr,hF⟩ := bnd_some hF
  refine zQ (v := .bool r) hf hc en_39 rfl (fun w hc => (crew_Beyond_1_1_s2_ok e_1 f_ h_f__Rides ((hc.pick k1).pick k1) hr).mono fun e w h => ⟨h.1,((h.2.unpick k1).unpick k1)⟩) fun a w hf hc => zT h ?_
  refine zI hf rfl hF ?_ ?_ <;> clear hF <;> intro hF
  ·refine zS fun K h => sp 2 hf rfl fun a hf => zT h ?_
   refine wp_ret ?_
   refine xBlkR ?_
   refine xThenR ?_
   refine xThenR ?_
   have he := sj hF
   rw [← he] at hfin4
   replace hF := ho4 _ hfin4
   refine xBlkR ?_
   refine xThenR ?_
   obtain rfl := hF
   exact zO1 Tryz.results38 hf rfl ⟨rfl,hc⟩
  ·refine wp_skip ?_
   refine h8 _ _ ?_
   refine cReg ?_
   refine sp 2 hf rfl fun a hf => cNil ?_
   exact hK4 (W (x + 1)) _ _ (sj hF).symm ⟨hf.kp rfl,hc⟩
 ·refine wp_exit ?_
  refine xThen ?_
  refine xThen ?_
  have he := sj hF
  rw [← he] at hfin4
  refine cHit ?_
  exact hr4 _ _ _ hfin4 ⟨hf.kp rfl,hc⟩

def crew_Beyond_1_s2 (N : Nat) (x : List Int) (x_1 : crew_Cable) : Option (Int) :=
 Option.bind (slices_IndexFunc_Lint_int_s3 N x x_1) fun r =>
 cond (r == (-1))
 (some (-1))
 (Option.bind (getI x r) fun e_1 =>
 some e_1)
theorem crew_Beyond_1_s2_ok {N : Nat} {G : Pers} {Lf : List Ent} {w : World} (x : List Int) (x_1 : crew_Cable) {b_ : Nat} {x_p : Option Addr} {x_c : Nat} {b__1 : Nat} {x_1_Rides_p : Option Addr} {x_1_Rides_c : Nat} (h_x : Rd G 1 x_p x_c (x.map encI_i64)) (h_x_1_Rides : Rd G 4 x_1_Rides_p x_1_Rides_c (x_1.Rides.map enc_crew_Ride)) (hc : Ctx G (.box b_ [.slice x_p x.length x_c] 35::.box b__1 [i6 x_1.Car,i6 x_1.Wide,i6 x_1.Sag,i6 x_1.Most,.slice x_1_Rides_p x_1.Rides.length x_1_Rides_c] 27::Lf) w) {res : Int} (hF : crew_Beyond_1_s2 N x x_1 = some res) : Calls Tryz.prog 37 #[.agg #[.func (.func 65) #[] #[]],pq b_,pq b__1] w (fun e w => e = .returned (i6 res) ∧ Ctx G (.box b_ [.slice x_p x.length x_c] 35::.box b__1 [i6 x_1.Car,i6 x_1.Wide,i6 x_1.Sag,i6 x_1.Most,.slice x_1_Rides_p x_1.Rides.length x_1_Rides_c] 27::Lf) w) := by
 unfold crew_Beyond_1_s2 at hF
 refine fnIn Tryz.func37 rfl Tryz.ntmps37 rfl fun a hf => zS fun K h => zB hf hc rfl fun b_1 a w hf hc => sp 1 hf rfl fun a hf => zT h ?_
 refine zS fun K h => zL hf hc sc_35 m1 rfl fun a w hf hc => zP hf rfl (pMF (us := [pq b__1,pq b_1]) rfl rfl) fun a hf => ?_
 obtain ⟨r,hr,hF⟩ := bnd_some hF
 refine zQ (v := i6 r) hf hc en_38 rfl (fun w hc => (slices_IndexFunc_Lint_int_s3_ok x x_1 h_x h_x_1_Rides ((hc.pick k0).pick k2) hr).mono fun e w h => ⟨h.1,((h.2.unpick k2).unpick k0)⟩) fun a w hf hc => sp 1 hf rfl fun a hf => zT h ?_
 refine wp_seq_k fun K3 h3 => zS fun K h => sp 2 hf rfl fun a hf => zT h ?_
 refine zI hf rfl hF ?_ ?_ <;> clear hF <;> intro hF
 ·refine zS fun K h => sp 1 hf rfl fun a hf => zT h ?_
  refine wp_ret ?_
  refine xThenR ?_
  obtain rfl := sj hF
  replace hc := hc.drop k0
  exact zO1 Tryz.results37 hf rfl ⟨rfl,hc⟩
 ·refine wp_skip ?_
  refine h3 _ _ ?_
  refine zS fun K h => zL hf hc sc_35 m1 rfl fun a w hf hc => sp 1 hf rfl fun a hf => ?_
  obtain ⟨e_1,he_1,hF⟩ := bnd_some hF
  obtain ⟨b_2,o,qa,qp⟩ := h_x.atm he_1
  refine zP hf rfl (pIA Tryz.underlying35 sz_3 rfl rfl qa) fun a hf => zE hf hc rfl (eLd1 sc_3 rfl (cell_pc (j := 0) qp rfl)) fun a w hf hc => sp 1 hf rfl fun a hf => zT h ?_
  refine wp_ret ?_
  obtain rfl := sj hF
  replace hc := hc.drop k0
  exact zO1 Tryz.results37 hf rfl ⟨rfl,hc⟩

def crew_Beyond (N : Nat) (c_ : crew_Cable) : Option (Int × Int × Int) :=
 Option.bind (crew_CheckCable N c_) fun r =>
 cond (r != 0)
 (some (0,0,r))
 (Option.bind (crew_Cable_starts N c_) fun r_1 =>
 Option.bind (crew_Beyond_1 N r_1 c_) fun r_2 =>
 Option.bind (crew_Beyond_1_s2 N r_1 c_) fun r_3 =>
 some (r_2,r_3,0))
theorem crew_Beyond_ok {N : Nat} {G : Pers} {Lf : List Ent} {w : World} (c_ : crew_Cable) {c__Rides_p : Option Addr} {c__Rides_c : Nat} (h_c__Rides : Rd G 4 c__Rides_p c__Rides_c (c_.Rides.map enc_crew_Ride)) (hc : Ctx G (Lf) w) {res : Int × Int × Int} (hF : crew_Beyond N c_ = some res) : Calls Tryz.prog 13 #[.agg #[i6 c_.Car,i6 c_.Wide,i6 c_.Sag,i6 c_.Most,.slice c__Rides_p c_.Rides.length c__Rides_c]] w (fun e w => e = .returned (.tuple #[i6 res.1,i6 res.2.1,i6 res.2.2]) ∧ Ctx G (Lf) w) := by
 unfold crew_Beyond at hF
 refine fnIn Tryz.func13 rfl Tryz.ntmps13 rfl fun a hf => zS fun K h => zB hf hc rfl fun b_1 a w hf hc => sp 3 hf rfl fun a hf => zT h ?_
 refine wp_seq_k fun K2 h2 => zS fun K h => zN hf hc ag_27 m0 rfl fun a w hf hc => ?_
 obtain ⟨r,hr,hF⟩ := bnd_some hF
 refine zQ (v := i6 r) hf hc en_29 rfl (fun w hc => crew_CheckCable_ok c_ h_c__Rides hc hr) fun a w hf hc => sp 1 hf rfl fun a hf => zT h ?_
 refine zS fun K h => sp 2 hf rfl fun a hf => zT h ?_
 refine zI hf rfl hF ?_ ?_ <;> clear hF <;> intro hF
 ·refine zS fun K h => sp 4 hf rfl fun a hf => zT h ?_
  refine wp_ret ?_
  refine xThenR ?_
  obtain rfl := sj hF
  replace hc := hc.drop k0
  exact zO3 Tryz.results13 hf rfl rfl rfl ⟨rfl,hc⟩
 ·refine wp_skip ?_
  refine h2 _ _ ?_
  refine zS fun K h => zN hf hc ag_27 m0 rfl fun a w hf hc => ?_
  obtain ⟨r_1,hr_1,hF⟩ := bnd_some hF
  refine zC hf en_36 rfl (crew_Cable_starts_ok c_ h_c__Rides hc hr_1) ?_
  rintro _ w ⟨p_1,c_1,rfl,hc⟩
  refine ⟨_,rfl,fun a hf => ?_⟩
  refine zA hf hc zr_35 rfl fun b_2 a w hf hc => zW hf hc sz_35 u0 rfl fun w hc => zT h ?_
  refine zS fun K h => zP hf rfl (pMF (us := [pq b_2,pq b_1]) rfl rfl) fun a hf => sp 1 hf rfl fun a hf => zT h ?_
  refine zS fun K h => sp 1 hf rfl fun a hf => zQ (v := .agg #[.func (.func 64) #[] #[]]) hf hc en_41 rfl (fun w hc => crew_high_ok hc rfl) fun a w hf hc => ?_
  obtain ⟨r_2,hr_2,hF⟩ := bnd_some hF
  refine zQ (v := i6 r_2) hf hc en_37 rfl (fun w hc => by obtain ⟨G1,hle1,hrd1,hc,hth1⟩ := lend hc k1; exact (crew_Beyond_1_ok r_1 c_ hrd1 (h_c__Rides.mono hle1) ((hc.pick k1).pick k1) hr_2).mono fun e w h => ⟨h.1,((hth1 _ _ ((h.2.unpick k1).unpick k1)).unpick k1)⟩) fun a w hf hc => sp 1 hf rfl fun a hf => zQ (v := .agg #[.func (.func 65) #[] #[]]) hf hc en_42 rfl (fun w hc => crew_low_ok hc rfl) fun a w hf hc => ?_
  obtain ⟨r_3,hr_3,hF⟩ := bnd_some hF
  refine zQ (v := i6 r_3) hf hc en_37 rfl (fun w hc => by obtain ⟨G1,hle1,hrd1,hc,hth1⟩ := lend hc k1; exact (crew_Beyond_1_s2_ok r_1 c_ hrd1 (h_c__Rides.mono hle1) ((hc.pick k1).pick k1) hr_3).mono fun e w h => ⟨h.1,((hth1 _ _ ((h.2.unpick k1).unpick k1)).unpick k1)⟩) fun a w hf hc => sp 3 hf rfl fun a hf => zT h ?_
  refine wp_ret ?_
  obtain rfl := sj hF
  replace hc := ((hc.drop k2).drop k1).drop k0
  exact zO3 Tryz.results13 hf rfl rfl rfl ⟨rfl,hc⟩

def law13_Six (N : Nat)  : Option ((List notes_Work)) :=
 some ([(⟨([] : List Int),1,5⟩ : notes_Work),(⟨([] : List Int),1,6⟩ : notes_Work),(⟨([0,1] : List Int),1,10⟩ : notes_Work),(⟨([1] : List Int),1,30⟩ : notes_Work),(⟨([2,3] : List Int),1,20⟩ : notes_Work),(⟨([4] : List Int),1,1⟩ : notes_Work)] : List notes_Work)
theorem law13_Six_ok {N : Nat} {G : Pers} {Lf : List Ent} {w : World}    (hc : Ctx G (Lf) w) {res : (List notes_Work)} (hF : law13_Six N = some res) : Calls Tryz.prog 44 #[] w (fun e w => ∃ (p'1 : Option Addr) (tcq'1 : TabH),e = .returned (.slice p'1 res.length tcq'1.1) ∧ Ctx G (.row p'1 tcq'1.1 ((tabR tcq'1.2 res).map (Kd.v kd_110)) 110 3::tabI kd_110 (tabR tcq'1.2 res)::Lf) w) := by
 unfold law13_Six at hF
 refine fnIn Tryz.func44 rfl Tryz.ntmps44 rfl fun a hf => zS fun K h => sp 1 hf rfl fun a hf => zT h ?_
 refine wp_seq_k fun K2 h2 => cReg ?_
 refine zP hf rfl (pBuildS (cells := [.slice none 0 0,i6 1,i6 5]) bt_110 rfl rfl) fun a hf => zP hf rfl (pBuildS (cells := [.slice none 0 0,i6 1,i6 6]) bt_110 rfl rfl) fun a hf => stBS (rows := ([0,1] : List Int).map encI_i64) (vs := [(0,i6 0),(1,i6 1)]) hf hc rfl rfl sl_35 rfl ⟨rfl,rfl,rfl,rfl,rfl,rfl,trivial⟩ rfl rfl fun b_1 a w hf hc => zP hf rfl (pBuildS (cells := [.slice (some ⟨b_1,0,none⟩) 2 2,i6 1,i6 10]) bt_110 rfl rfl) fun a hf => stBS (rows := ([1] : List Int).map encI_i64) (vs := [(0,i6 1)]) hf hc rfl rfl sl_35 rfl ⟨rfl,rfl,rfl,trivial⟩ rfl rfl fun b_2 a w hf hc => zP hf rfl (pBuildS (cells := [.slice (some ⟨b_2,0,none⟩) 1 1,i6 1,i6 30]) bt_110 rfl rfl) fun a hf => stBS (rows := ([2,3] : List Int).map encI_i64) (vs := [(0,i6 2),(1,i6 3)]) hf hc rfl rfl sl_35 rfl ⟨rfl,rfl,rfl,rfl,rfl,rfl,trivial⟩ rfl rfl fun b_3 a w hf hc => zP hf rfl (pBuildS (cells := [.slice (some ⟨b_3,0,none⟩) 2 2,i6 1,i6 20]) bt_110 rfl rfl) fun a hf => stBS (rows := ([4] : List Int).map encI_i64) (vs := [(0,i6 4)]) hf hc rfl rfl sl_35 rfl ⟨rfl,rfl,rfl,trivial⟩ rfl rfl fun b_4 a w hf hc => zP hf rfl (pBuildS (cells := [.slice (some ⟨b_4,0,none⟩) 1 1,i6 1,i6 1]) bt_110 rfl rfl) fun a hf => ?_
 replace hc := hc.nilRow 3 1
 replace hc := hc.nilRow 3 1
 refine stBS (rows := ([((none,0),(⟨([] : List Int),1,5⟩ : notes_Work)),((none,0),(⟨([] : List Int),1,6⟩ : notes_Work)),(((some ⟨b_1,0,none⟩),2),(⟨([0,1] : List Int),1,10⟩ : notes_Work)),(((some ⟨b_2,0,none⟩),1),(⟨([1] : List Int),1,30⟩ : notes_Work)),(((some ⟨b_3,0,none⟩),2),(⟨([2,3] : List Int),1,20⟩ : notes_Work)),(((some ⟨b_4,0,none⟩),1),(⟨([4] : List Int),1,1⟩ : notes_Work))] : List (H2 × notes_Work)).map (Kd.v kd_110)) (vs := [(0,.agg #[.slice none 0 0,i6 1,i6 5]),(1,.agg #[.slice none 0 0,i6 1,i6 6]),(2,.agg #[.slice (some ⟨b_1,0,none⟩) 2 2,i6 1,i6 10]),(3,.agg #[.slice (some ⟨b_2,0,none⟩) 1 1,i6 1,i6 30]),(4,.agg #[.slice (some ⟨b_3,0,none⟩) 2 2,i6 1,i6 20]),(5,.agg #[.slice (some ⟨b_4,0,none⟩) 1 1,i6 1,i6 1])]) hf hc rfl rfl sl_89 rfl ⟨rfl,rfl,rfl,rfl,rfl,rfl,rfl,rfl,rfl,rfl,rfl,rfl,rfl,rfl,rfl,rfl,rfl,rfl,trivial⟩ rfl rfl fun b_5 a w hf hc => sp 1 hf rfl fun a hf => cNil ?_
 replace hc := ((((((hc.pick k3).pick k4).pick k5).pick k6).pick k5).pick k6).pick k6
 obtain ⟨hsq,hc⟩ := tab_mk (K := kd_110) ([((none,0),(⟨([] : List Int),1,5⟩ : notes_Work)),((none,0),(⟨([] : List Int),1,6⟩ : notes_Work)),(((some ⟨b_1,0,none⟩),2),(⟨([0,1] : List Int),1,10⟩ : notes_Work)),(((some ⟨b_2,0,none⟩),1),(⟨([1] : List Int),1,30⟩ : notes_Work)),(((some ⟨b_3,0,none⟩),2),(⟨([2,3] : List Int),1,20⟩ : notes_Work)),(((some ⟨b_4,0,none⟩),1),(⟨([4] : List Int),1,1⟩ : notes_Work))] : List (H2 × notes_Work)) hc
 replace hc : Ctx G (.row (some ⟨b_5,0,none⟩) 6 ((tabR hsq ([(⟨([] : List Int),1,5⟩ : notes_Work),(⟨([] : List Int),1,6⟩ : notes_Work),(⟨([0,1] : List Int),1,10⟩ : notes_Work),(⟨([1] : List Int),1,30⟩ : notes_Work),(⟨([2,3] : List Int),1,20⟩ : notes_Work),(⟨([4] : List Int),1,1⟩ : notes_Work)] : List notes_Work)).map (Kd.v kd_110)) 110 3::tabI kd_110 (tabR hsq ([(⟨([] : List Int),1,5⟩ : notes_Work),(⟨([] : List Int),1,6⟩ : notes_Work),(⟨([0,1] : List Int),1,10⟩ : notes_Work),(⟨([1] : List Int),1,30⟩ : notes_Work),(⟨([2,3] : List Int),1,20⟩ : notes_Work),(⟨([4] : List Int),1,1⟩ : notes_Work)] : List notes_Work))::Lf) w := hc
 refine h2 _ _ ?_
 refine wp_ret ?_
 obtain rfl := sj hF
 exact zO1 Tryz.results44 hf rfl ⟨(some ⟨b_5,0,none⟩),(6,hsq),rfl,hc⟩

def notes_in (n : Int) (least : Int) (greatest : Int) : Bool :=
 ((decide (least ≤ n)) && (decide (n ≤ greatest)))
theorem notes_in_ok {G : Pers} {Lf : List Ent} {w : World} (n : Int) (least : Int) (greatest : Int)   (hc : Ctx G (Lf) w) {res : Bool} (hF : notes_in n least greatest = res) : Calls Tryz.prog 111 #[i6 n,i6 least,i6 greatest] w (fun e w => e = .returned (.bool res) ∧ Ctx G (Lf) w) := by
 unfold notes_in at hF
 refine fnIn Tryz.func111 rfl Tryz.ntmps111 rfl fun a hf => zS fun K h => sp 1 hf rfl fun a hf => zT h ?_
 refine zS fun K h => sp 4 hf rfl fun a hf => stCc 4 (fun a => Has 15 a [(0,i6 n),(1,i6 least),(2,i6 greatest),(6,.bool false),(7,i6 n),(8,i6 least),(9,.bool (decide (least ≤ n))),(10,.bool (decide (least ≤ n))),(14,.bool ((decide (least ≤ n)) && (decide (n ≤ greatest))))]) hc ?_ ?_
 ·cases hb : (decide (least ≤ n))
  ·rw [hb] at hf
   refine stS hf rfl rfl rfl fun a hf => stS hf rfl rfl rfl fun a hf => stS hf rfl rfl rfl fun a hf => sp 1 hf rfl fun a hf => cNil ⟨hf.kp rfl,hc⟩
  ·rw [hb] at hf
   refine sp 4 hf rfl fun a hf => cNil ⟨hf.kp rfl,hc⟩
 intro a w ⟨hf,hc⟩
 refine sp 1 hf rfl fun a hf => zT h ?_
 refine wp_ret ?_
 obtain rfl := hF
 exact zO1 Tryz.results111 hf rfl ⟨rfl,hc⟩

def notes_right_1 (x : notes_Work) : Bool :=
 (decide (((x.Of.length : Nat) : Int) ≤ 5))
theorem notes_right_1_ok {G : Pers} {Lf : List Ent} {w : World} (x : notes_Work) {x_Of_p : Option Addr} {x_Of_c : Nat} (h_x_Of : Rd G 1 x_Of_p x_Of_c (x.Of.map encI_i64)) (hc : Ctx G (Lf) w) {res : Bool} (hF : notes_right_1 x = res) : Calls Tryz.prog 132 #[.agg #[.slice x_Of_p x.Of.length x_Of_c,i6 x.Base,i6 x.Minutes]] w (fun e w => e = .returned (.bool res) ∧ Ctx G (Lf) w) := by
 unfold notes_right_1 at hF
 refine fnIn Tryz.func132 rfl Tryz.ntmps132 rfl fun a hf => zS fun K h => zB hf hc rfl fun b_1 a w hf hc => sp 1 hf rfl fun a hf => zT h ?_
 refine zS fun K h => zP hf rfl (pFA fa_110_0 rfl) fun a hf => zL hf hc sc_35 m0 rfl fun a w hf hc => zP hf rfl (pLenS Tryz.underlying35 rfl) fun a hf => sp 2 hf rfl fun a hf => zT h ?_
 refine wp_ret ?_
 obtain rfl := hF
 replace hc := hc.drop k0
 exact zO1 Tryz.results132 hf rfl ⟨rfl,hc⟩

def notes_every_notes_Work_1 (x : notes_Work) : Bool :=
 (!(notes_right_1 x))
theorem notes_every_notes_Work_1_ok {G : Pers} {Lf : List Ent} {w : World} (x : notes_Work) {x_Of_p : Option Addr} {x_Of_c : Nat} {b_ : Nat} (h_x_Of : Rd G 1 x_Of_p x_Of_c (x.Of.map encI_i64)) (hc : Ctx G (.box b_ [.func (.func 132) #[] #[]] 181::Lf) w) {res : Bool} (hF : notes_every_notes_Work_1 x = res) : Calls Tryz.prog 145 #[.agg #[.slice x_Of_p x.Of.length x_Of_c,i6 x.Base,i6 x.Minutes],pq b_] w (fun e w => e = .returned (.bool res) ∧ Ctx G (.box b_ [.func (.func 132) #[] #[]] 181::Lf) w) := by
 unfold notes_every_notes_Work_1 at hF
 refine fnIn Tryz.func145 rfl Tryz.ntmps145 rfl fun a hf => zS fun K h => zB hf hc rfl fun b_1 a w hf hc => sp 1 hf rfl fun a hf => zT h ?_
 refine zS fun K h => zL hf hc sc_181 m1 rfl fun a w hf hc => zN hf hc ag_110 m0 rfl fun a w hf hc => zQ (v := .bool (notes_right_1 x)) hf hc en_132 rfl (fun w hc => notes_right_1_ok x h_x_Of hc rfl) fun a w hf hc => sp 2 hf rfl fun a hf => zT h ?_
 refine wp_ret ?_
 obtain rfl := hF
 replace hc := hc.drop k0
 exact zO1 Tryz.results145 hf rfl ⟨rfl,hc⟩

def slices_IndexFunc_Lnotes_Work_notes_Work_b4 (N : Nat) (s_ : List notes_Work) (x : Int) : Option (Step (Int) (Int)) :=
 cond (decide (x < ((s_.length : Nat) : Int)))
 (Option.bind (getI s_ x) fun e_1 =>
 cond (notes_every_notes_Work_1 e_1)
 (some (.ret x))
 (some (.cont (W (x + 1)))))
 (some (.brk x))
def slices_IndexFunc_Lnotes_Work_notes_Work (N : Nat) (s_ : List notes_Work) : Option (Int) :=
 Option.bind (loopO (fun s4 => slices_IndexFunc_Lnotes_Work_notes_Work_b4 N s_ s4) N 0) fun x4 =>
 exK x4 (fun s4 => some (-1)) some
theorem slices_IndexFunc_Lnotes_Work_notes_Work_ok {N : Nat} {G : Pers} {Lf : List Ent} {w : World} (s_ : List notes_Work) {s__p : Option Addr} {s__c : Nat} {b_ : Nat} (h_s_ : RdT kd_110 G 3 s__p s__c s_) (hc : Ctx G (.box b_ [.func (.func 132) #[] #[]] 181::Lf) w) {res : Int} (hF : slices_IndexFunc_Lnotes_Work_notes_Work N s_ = some res) : Calls Tryz.prog 148 #[.slice s__p s_.length s__c,.func (.func 145) #[] #[pq b_]] w (fun e w => e = .returned (i6 res) ∧ Ctx G (.box b_ [.func (.func 132) #[] #[]] 181::Lf) w) := by
 unfold slices_IndexFunc_Lnotes_Work_notes_Work at hF
 refine fnIn Tryz.func148 rfl Tryz.ntmps148 rfl fun a hf => zS fun K h => sp 1 hf rfl fun a hf => zT h ?_
 refine wp_seq_k fun K2 h2 => zS fun K h => sp 1 hf rfl fun a hf => zP hf rfl (pLenS Tryz.underlying89 rfl) fun a hf => sp 1 hf rfl fun a hf => zT h ?_
 refine wp_block ?_
 obtain ⟨x4,hx4,hF⟩ := bnd_some hF
 let S4 : Int → Act → World → Prop := (fun (zz : Int) a w => Has 19 a [(0,.slice s__p s_.length s__c),(1,.func (.func 145) #[] #[pq b_]),(7,i6 ((s_.length : Nat) : Int)),(8,i6 zz)] ∧ Ctx G (.box b_ [.func (.func 132) #[] #[]] 181::Lf) w)
 have hr4 : ∀ (zz : Int) a w,x4 = .go zz → S4 zz a w → K2 a w := by
  rintro x a w rfl ⟨hf,hc⟩
  replace hF := exK_go hF
  refine h2 _ _ ?_
  refine zS fun K h => sp 1 hf rfl fun a hf => zT h ?_
  refine wp_ret ?_
  obtain rfl := sj hF
  exact zO1 Tryz.results148 hf rfl ⟨rfl,hc⟩
 have ho4 : ∀ r,x4 = .out r → r = res := by
  rintro r rfl
  exact sj hF
 refine cLoop N (loopW (S := S4) (x := x4) ?_ N 0 _ _ ⟨hf.kp rfl,hc⟩ hx4)
 clear hF hf hc
 rintro x st4 a w KB4 ⟨hf,hc⟩ hF hfin4 hK4
 unfold slices_IndexFunc_Lnotes_Work_notes_Work_b4 at hF
 refine zS fun K h => sp 1 hf rfl fun a hf => zT h ?_
 refine wp_seq_k fun K7 h7 => zI hf rfl hF ?_ ?_ <;> clear hF <;> intro hF
 ·refine wp_skip ?_
  refine h7 _ _ ?_
  refine wp_seq_k fun K8 h8 => wp_block ?_
  refine zS fun K h => sp 2 hf rfl fun a hf => zT h ?_
  refine zS fun K h => sp 3 hf rfl fun a hf => ?_
  obtain ⟨e_1,he_1,hF⟩ := bnd_some hF
  obtain ⟨b_1,o,hd,qa,qp,qr⟩ := h_s_.atm he_1
  refine zP hf rfl (pIA Tryz.underlying89 sz_110 rfl rfl qa) fun a hf => zE hf hc rfl (eLdN (vs := [.slice hd.1 e_1.Of.length hd.2,i6 e_1.Base,i6 e_1.Minutes]) ag_110 rfl rfl (cells_pc qp (n := 3) (o' := 0) rfl)) fun a w hf hc => zQ (v := .bool (notes_every_notes_Work_1 e_1)) hf hc en_145 rfl (fun w hc => (notes_every_notes_Work_1_ok e_1 qr (hc.pick k0) rfl).mono fun e w h => ⟨h.1,(h.2.unpick k0)⟩) fun a w hf hc => zT h ?_
  refine zI hf rfl hF ?_ ?_ <;> clear hF <;> intro hF
  ·refine zS fun K h => sp 2 hf rfl fun a hf => zT h ?_
   refine wp_ret ?_
   refine xBlkR ?_
   refine xThenR ?_
   refine xThenR ?_
   have he := sj hF
   rw [← he] at hfin4
   replace hF := ho4 _ hfin4
   refine xBlkR ?_
   refine xThenR ?_
   obtain rfl := hF
   exact zO1 Tryz.results148 hf rfl ⟨rfl,hc⟩
  ·refine wp_skip ?_
   refine h8 _ _ ?_
   refine cReg ?_
   refine sp 2 hf rfl fun a hf => cNil ?_
   exact hK4 (W (x + 1)) _ _ (sj hF).symm ⟨hf.kp rfl,hc⟩
 ·refine wp_exit ?_
  refine xThen ?_
  refine xThen ?_
  have he := sj hF
  rw [← he] at hfin4
  refine cHit ?_
  exact hr4 _ _ _ hfin4 ⟨hf.kp rfl,hc⟩

def slices_ContainsFunc_Lnotes_Work_notes_Work (N : Nat) (s_ : List notes_Work) : Option (Bool) :=
 Option.bind (slices_IndexFunc_Lnotes_Work_notes_Work N s_) fun r =>
 some (decide (0 ≤ r))
theorem slices_ContainsFunc_Lnotes_Work_notes_Work_ok {N : Nat} {G : Pers} {Lf : List Ent} {w : World} (s_ : List notes_Work) {s__p : Option Addr} {s__c : Nat} {b_ : Nat} (h_s_ : RdT kd_110 G 3 s__p s__c s_) (hc : Ctx G (.box b_ [.func (.func 132) #[] #[]] 181::Lf) w) {res : Bool} (hF : slices_ContainsFunc_Lnotes_Work_notes_Work N s_ = some res) : Calls Tryz.prog 144 #[.slice s__p s_.length s__c,.func (.func 145) #[] #[pq b_]] w (fun e w => e = .returned (.bool res) ∧ Ctx G (.box b_ [.func (.func 132) #[] #[]] 181::Lf) w) := by
 unfold slices_ContainsFunc_Lnotes_Work_notes_Work at hF
 refine fnIn Tryz.func144 rfl Tryz.ntmps144 rfl fun a hf => zS fun K h => sp 1 hf rfl fun a hf => zT h ?_
 refine zS fun K h => sp 2 hf rfl fun a hf => ?_
 obtain ⟨r,hr,hF⟩ := bnd_some hF
 refine zQ (v := i6 r) hf hc en_148 rfl (fun w hc => (slices_IndexFunc_Lnotes_Work_notes_Work_ok s_ h_s_ (hc.pick k0) hr).mono fun e w h => ⟨h.1,(h.2.unpick k0)⟩) fun a w hf hc => sp 2 hf rfl fun a hf => zT h ?_
 refine wp_ret ?_
 obtain rfl := sj hF
 exact zO1 Tryz.results144 hf rfl ⟨rfl,hc⟩

def notes_every_notes_Work (N : Nat) (l : List notes_Work) : Option (Bool) :=
 Option.bind (slices_ContainsFunc_Lnotes_Work_notes_Work N l) fun r =>
 some (!r)
theorem notes_every_notes_Work_ok {N : Nat} {G : Pers} {Lf : List Ent} {w : World} (l : List notes_Work) {l_p : Option Addr} {l_c : Nat} (h_l : RdT kd_110 G 3 l_p l_c l) (hc : Ctx G (Lf) w) {res : Bool} (hF : notes_every_notes_Work N l = some res) : Calls Tryz.prog 131 #[.func (.func 132) #[] #[],.slice l_p l.length l_c] w (fun e w => e = .returned (.bool res) ∧ Ctx G (Lf) w) := by
 unfold notes_every_notes_Work at hF
 refine fnIn Tryz.func131 rfl Tryz.ntmps131 rfl fun a hf => zS fun K h => zB hf hc rfl fun b_1 a w hf hc => sp 1 hf rfl fun a hf => zT h ?_
 refine zS fun K h => sp 1 hf rfl fun a hf => zP hf rfl (pMF (us := [pq b_1]) rfl rfl) fun a hf => ?_
 obtain ⟨r,hr,hF⟩ := bnd_some hF
 refine zQ (v := .bool r) hf hc en_144 rfl (fun w hc => (slices_ContainsFunc_Lnotes_Work_notes_Work_ok l h_l (hc.pick k0) hr).mono fun e w h => ⟨h.1,(h.2.unpick k0)⟩) fun a w hf hc => sp 2 hf rfl fun a hf => zT h ?_
 refine wp_ret ?_
 obtain rfl := sj hF
 replace hc := hc.drop k0
 exact zO1 Tryz.results131 hf rfl ⟨rfl,hc⟩

def notes_right_2 (k : Int) (x : List notes_Work) (x_1 : Int) : Bool :=
 ((notes_in k 0 (W (((x.length : Nat) : Int) - 1))) && (k != x_1))
theorem notes_right_2_ok {G : Pers} {Lf : List Ent} {w : World} (k : Int) (x : List notes_Work) (x_1 : Int) {b_ : Nat} {x_p : Option Addr} {x_c : Nat} {b__1 : Nat} (h_x : RdT kd_110 G 3 x_p x_c x) (hc : Ctx G (.box b_ [.slice x_p x.length x_c] 89::.box b__1 [i6 x_1] 3::Lf) w) {res : Bool} (hF : notes_right_2 k x x_1 = res) : Calls Tryz.prog 133 #[i6 k,pq b_,pq b__1] w (fun e w => e = .returned (.bool res) ∧ Ctx G (.box b_ [.slice x_p x.length x_c] 89::.box b__1 [i6 x_1] 3::Lf) w) := by
 unfold notes_right_2 at hF
 refine fnIn Tryz.func133 rfl Tryz.ntmps133 rfl fun a hf => zS fun K h => sp 1 hf rfl fun a hf => zT h ?_
 refine zS fun K h => sp 1 hf rfl fun a hf => zL hf hc sc_89 m0 rfl fun a w hf hc => zP hf rfl (pLenS Tryz.underlying89 rfl) fun a hf => sp 1 hf rfl fun a hf => zQ (v := .bool (notes_in k 0 (W (((x.length : Nat) : Int) - 1)))) hf hc en_111 rfl (fun w hc => notes_in_ok k 0 (W (((x.length : Nat) : Int) - 1)) hc rfl) fun a w hf hc => sp 1 hf rfl fun a hf => stCc 4 (fun a => Has 15 a [(0,i6 k),(1,pq b_),(2,pq b__1),(4,.bool false),(5,i6 k),(6,.slice x_p x.length x_c),(7,i6 ((x.length : Nat) : Int)),(8,i6 (W (((x.length : Nat) : Int) - 1))),(9,.bool (notes_in k 0 (W (((x.length : Nat) : Int) - 1)))),(10,.bool (notes_in k 0 (W (((x.length : Nat) : Int) - 1)))),(14,.bool ((notes_in k 0 (W (((x.length : Nat) : Int) - 1))) && (k != x_1)))]) hc ?_ ?_
 ·cases hb : (notes_in k 0 (W (((x.length : Nat) : Int) - 1)))
  ·rw [hb] at hf
   refine stS hf rfl rfl rfl fun a hf => stS hf rfl rfl rfl fun a hf => stS hf rfl rfl rfl fun a hf => sp 1 hf rfl fun a hf => cNil ⟨hf.kp rfl,hc⟩
  ·rw [hb] at hf
   refine sp 1 hf rfl fun a hf => zL hf hc sc_3 m1 rfl fun a w hf hc => sp 2 hf rfl fun a hf => cNil ⟨hf.kp rfl,hc⟩
 intro a w ⟨hf,hc⟩
 refine sp 1 hf rfl fun a hf => zT h ?_
 refine wp_ret ?_
 obtain rfl := hF
 exact zO1 Tryz.results133 hf rfl ⟨rfl,hc⟩

def notes_every_int_1 (x : Int) (x_1 : List notes_Work) (x_2 : Int) : Bool :=
 (!(notes_right_2 x x_1 x_2))
theorem notes_every_int_1_ok {G : Pers} {Lf : List Ent} {w : World} (x : Int) (x_1 : List notes_Work) (x_2 : Int) {b_ : Nat} {b__1 : Nat} {x_1_p : Option Addr} {x_1_c : Nat} {b__2 : Nat} (h_x_1 : RdT kd_110 G 3 x_1_p x_1_c x_1) (hc : Ctx G (.box b_ [.func (.func 133) #[] #[pq b__1,pq b__2]] 72::.box b__1 [.slice x_1_p x_1.length x_1_c] 89::.box b__2 [i6 x_2] 3::Lf) w) {res : Bool} (hF : notes_every_int_1 x x_1 x_2 = res) : Calls Tryz.prog 135 #[i6 x,pq b_] w (fun e w => e = .returned (.bool res) ∧ Ctx G (.box b_ [.func (.func 133) #[] #[pq b__1,pq b__2]] 72::.box b__1 [.slice x_1_p x_1.length x_1_c] 89::.box b__2 [i6 x_2] 3::Lf) w) := by
 unfold notes_every_int_1 at hF
 refine fnIn Tryz.func135 rfl Tryz.ntmps135 rfl fun a hf => zS fun K h => sp 1 hf rfl fun a hf => zT h ?_
 refine zS fun K h => zL hf hc sc_72 m0 rfl fun a w hf hc => sp 1 hf rfl fun a hf => zQ (v := .bool (notes_right_2 x x_1 x_2)) hf hc en_133 rfl (fun w hc => (notes_right_2_ok x x_1 x_2 h_x_1 ((hc.pick k2).pick k2) rfl).mono fun e w h => ⟨h.1,((h.2.unpick k2).unpick k2)⟩) fun a w hf hc => sp 2 hf rfl fun a hf => zT h ?_
 refine wp_ret ?_
 obtain rfl := hF
 exact zO1 Tryz.results135 hf rfl ⟨rfl,hc⟩

def slices_IndexFunc_Lint_int_s4_b4 (N : Nat) (s_ : List Int) (f_ : List notes_Work) (f__1 : Int) (x : Int) : Option (Step (Int) (Int)) :=
 cond (decide (x < ((s_.length : Nat) : Int)))
 (Option.bind (getI s_ x) fun e_1 =>
 cond (notes_every_int_1 e_1 f_ f__1)
 (some (.ret x))
 (some (.cont (W (x + 1)))))
 (some (.brk x))
def slices_IndexFunc_Lint_int_s4 (N : Nat) (s_ : List Int) (f_ : List notes_Work) (f__1 : Int) : Option (Int) :=
 Option.bind (loopO (fun s4 => slices_IndexFunc_Lint_int_s4_b4 N s_ f_ f__1 s4) N 0) fun x4 =>
 exK x4 (fun s4 => some (-1)) some
theorem slices_IndexFunc_Lint_int_s4_ok {N : Nat} {G : Pers} {Lf : List Ent} {w : World} (s_ : List Int) (f_ : List notes_Work) (f__1 : Int) {s__p : Option Addr} {s__c : Nat} {b_ : Nat} {b__1 : Nat} {f__p : Option Addr} {f__c : Nat} {b__2 : Nat} (h_s_ : Rd G 1 s__p s__c (s_.map encI_i64)) (h_f_ : RdT kd_110 G 3 f__p f__c f_) (hc : Ctx G (.box b_ [.func (.func 133) #[] #[pq b__1,pq b__2]] 72::.box b__1 [.slice f__p f_.length f__c] 89::.box b__2 [i6 f__1] 3::Lf) w) {res : Int} (hF : slices_IndexFunc_Lint_int_s4 N s_ f_ f__1 = some res) : Calls Tryz.prog 38 #[.slice s__p s_.length s__c,.func (.func 135) #[] #[pq b_]] w (fun e w => e = .returned (i6 res) ∧ Ctx G (.box b_ [.func (.func 133) #[] #[pq b__1,pq b__2]] 72::.box b__1 [.slice f__p f_.length f__c] 89::.box b__2 [i6 f__1] 3::Lf) w) := by
 unfold slices_IndexFunc_Lint_int_s4 at hF
 refine fnIn Tryz.func38 rfl Tryz.ntmps38 rfl fun a hf => zS fun K h => sp 1 hf rfl fun a hf => zT h ?_
 refine wp_seq_k fun K2 h2 => zS fun K h => sp 1 hf rfl fun a hf => zP hf rfl (pLenS Tryz.underlying35 rfl) fun a hf => sp 1 hf rfl fun a hf => zT h ?_
 refine wp_block ?_
 obtain ⟨x4,hx4,hF⟩ := bnd_some hF
 let S4 : Int → Act → World → Prop := (fun (zz : Int) a w => Has 19 a [(0,.slice s__p s_.length s__c),(1,.func (.func 135) #[] #[pq b_]),(7,i6 ((s_.length : Nat) : Int)),(8,i6 zz)] ∧ Ctx G (.box b_ [.func (.func 133) #[] #[pq b__1,pq b__2]] 72::.box b__1 [.slice f__p f_.length f__c] 89::.box b__2 [i6 f__1] 3::Lf) w)
 have hr4 : ∀ (zz : Int) a w,x4 = .go zz → S4 zz a w → K2 a w := by
  rintro x a w rfl ⟨hf,hc⟩
  replace hF := exK_go hF
  refine h2 _ _ ?_
  refine zS fun K h => sp 1 hf rfl fun a hf => zT h ?_
  refine wp_ret ?_
  obtain rfl := sj hF
  exact zO1 Tryz.results38 hf rfl ⟨rfl,hc⟩
 have ho4 : ∀ r,x4 = .out r → r = res := by
  rintro r rfl
  exact sj hF
 refine cLoop N (loopW (S := S4) (x := x4) ?_ N 0 _ _ ⟨hf.kp rfl,hc⟩ hx4)
 clear hF hf hc
 rintro x st4 a w KB4 ⟨hf,hc⟩ hF hfin4 hK4
 unfold slices_IndexFunc_Lint_int_s4_b4 at hF
 refine zS fun K h => sp 1 hf rfl fun a hf => zT h ?_
 refine wp_seq_k fun K7 h7 => zI hf rfl hF ?_ ?_ <;> clear hF <;> intro hF
 ·refine wp_skip ?_
  refine h7 _ _ ?_
  refine wp_seq_k fun K8 h8 => wp_block ?_
  refine zS fun K h => sp 2 hf rfl fun a hf => zT h ?_
  refine zS fun K h => sp 3 hf rfl fun a hf => ?_
  obtain ⟨e_1,he_1,hF⟩ := bnd_some hF
  obtain ⟨b_1,o,qa,qp⟩ := h_s_.atm he_1
  refine zP hf rfl (pIA Tryz.underlying35 sz_3 rfl rfl qa) fun a hf => zE hf hc rfl (eLd1 sc_3 rfl (cell_pc (j := 0) qp rfl)) fun a w hf hc => zQ (v := .bool (notes_every_int_1 e_1 f_ f__1)) hf hc en_135 rfl (fun w hc => (notes_every_int_1_ok e_1 f_ f__1 h_f_ (((hc.pick k2).pick k2).pick k2) rfl).mono fun e w h => ⟨h.1,(((h.2.unpick k2).unpick k2).unpick k2)⟩) fun a w hf hc => zT h ?_
  refine zI hf rfl hF ?_ ?_ <;> clear hF <;> intro hF
  ·refine zS fun K h => sp 2 hf rfl fun a hf => zT h ?_
   refine wp_ret ?_
   refine xBlkR ?_
   refine xThenR ?_
   refine xThenR ?_
   have he := sj hF
   rw [← he] at hfin4
   replace hF := ho4 _ hfin4
   refine xBlkR ?_
   refine xThenR ?_
   obtain rfl := hF
   exact zO1 Tryz.results38 hf rfl ⟨rfl,hc⟩
  ·refine wp_skip ?_
   refine h8 _ _ ?_
   refine cReg ?_
   refine sp 2 hf rfl fun a hf => cNil ?_
   exact hK4 (W (x + 1)) _ _ (sj hF).symm ⟨hf.kp rfl,hc⟩
 ·refine wp_exit ?_
  refine xThen ?_
  refine xThen ?_
  have he := sj hF
  rw [← he] at hfin4
  refine cHit ?_
  exact hr4 _ _ _ hfin4 ⟨hf.kp rfl,hc⟩

def slices_ContainsFunc_Lint_int_s2 (N : Nat) (s_ : List Int) (f_ : List notes_Work) (f__1 : Int) : Option (Bool) :=
 Option.bind (slices_IndexFunc_Lint_int_s4 N s_ f_ f__1) fun r =>
 some (decide (0 ≤ r))
theorem slices_ContainsFunc_Lint_int_s2_ok {N : Nat} {G : Pers} {Lf : List Ent} {w : World} (s_ : List Int) (f_ : List notes_Work) (f__1 : Int) {s__p : Option Addr} {s__c : Nat} {b_ : Nat} {b__1 : Nat} {f__p : Option Addr} {f__c : Nat} {b__2 : Nat} (h_s_ : Rd G 1 s__p s__c (s_.map encI_i64)) (h_f_ : RdT kd_110 G 3 f__p f__c f_) (hc : Ctx G (.box b_ [.func (.func 133) #[] #[pq b__1,pq b__2]] 72::.box b__1 [.slice f__p f_.length f__c] 89::.box b__2 [i6 f__1] 3::Lf) w) {res : Bool} (hF : slices_ContainsFunc_Lint_int_s2 N s_ f_ f__1 = some res) : Calls Tryz.prog 54 #[.slice s__p s_.length s__c,.func (.func 135) #[] #[pq b_]] w (fun e w => e = .returned (.bool res) ∧ Ctx G (.box b_ [.func (.func 133) #[] #[pq b__1,pq b__2]] 72::.box b__1 [.slice f__p f_.length f__c] 89::.box b__2 [i6 f__1] 3::Lf) w) := by
 unfold slices_ContainsFunc_Lint_int_s2 at hF
 refine fnIn Tryz.func54 rfl Tryz.ntmps54 rfl fun a hf => zS fun K h => sp 1 hf rfl fun a hf => zT h ?_
 refine zS fun K h => sp 2 hf rfl fun a hf => ?_
 obtain ⟨r,hr,hF⟩ := bnd_some hF
 refine zQ (v := i6 r) hf hc en_38 rfl (fun w hc => (slices_IndexFunc_Lint_int_s4_ok s_ f_ f__1 h_s_ h_f_ (((hc.pick k2).pick k2).pick k2) hr).mono fun e w h => ⟨h.1,(((h.2.unpick k2).unpick k2).unpick k2)⟩) fun a w hf hc => sp 2 hf rfl fun a hf => zT h ?_
 refine wp_ret ?_
 obtain rfl := sj hF
 exact zO1 Tryz.results54 hf rfl ⟨rfl,hc⟩

def notes_every_int (N : Nat) (so : List notes_Work) (so_1 : Int) (l : List Int) : Option (Bool) :=
 Option.bind (slices_ContainsFunc_Lint_int_s2 N l so so_1) fun r =>
 some (!r)
theorem notes_every_int_ok {N : Nat} {G : Pers} {Lf : List Ent} {w : World} (so : List notes_Work) (so_1 : Int) (l : List Int) {b_ : Nat} {so_p : Option Addr} {so_c : Nat} {b__1 : Nat} {l_p : Option Addr} {l_c : Nat} (h_so : RdT kd_110 G 3 so_p so_c so) (h_l : Rd G 1 l_p l_c (l.map encI_i64)) (hc : Ctx G (.box b_ [.slice so_p so.length so_c] 89::.box b__1 [i6 so_1] 3::Lf) w) {res : Bool} (hF : notes_every_int N so so_1 l = some res) : Calls Tryz.prog 109 #[.func (.func 133) #[] #[pq b_,pq b__1],.slice l_p l.length l_c] w (fun e w => e = .returned (.bool res) ∧ Ctx G (.box b_ [.slice so_p so.length so_c] 89::.box b__1 [i6 so_1] 3::Lf) w) := by
 unfold notes_every_int at hF
 refine fnIn Tryz.func109 rfl Tryz.ntmps109 rfl fun a hf => zS fun K h => zB hf hc rfl fun b_1 a w hf hc => sp 1 hf rfl fun a hf => zT h ?_
 refine zS fun K h => sp 1 hf rfl fun a hf => zP hf rfl (pMF (us := [pq b_1]) rfl rfl) fun a hf => ?_
 obtain ⟨r,hr,hF⟩ := bnd_some hF
 refine zQ (v := .bool r) hf hc en_54 rfl (fun w hc => (slices_ContainsFunc_Lint_int_s2_ok l so so_1 h_l h_so (((hc.pick k2).pick k2).pick k2) hr).mono fun e w h => ⟨h.1,(((h.2.unpick k2).unpick k2).unpick k2)⟩) fun a w hf hc => sp 2 hf rfl fun a hf => zT h ?_
 refine wp_ret ?_
 obtain rfl := sj hF
 replace hc := hc.drop k0
 exact zO1 Tryz.results109 hf rfl ⟨rfl,hc⟩

def slices_Index_Lint_int_b4 (N : Nat) (s_ : List Int) (v : Int) (x : Int) : Option (Step (Int) (Int)) :=
 cond (decide (x < ((s_.length : Nat) : Int)))
 (Option.bind (getI s_ x) fun e_1 =>
 cond (v == e_1)
 (some (.ret x))
 (some (.cont (W (x + 1)))))
 (some (.brk x))
def slices_Index_Lint_int (N : Nat) (s_ : List Int) (v : Int) : Option (Int) :=
 Option.bind (loopO (fun s4 => slices_Index_Lint_int_b4 N s_ v s4) N 0) fun x4 =>
 exK x4 (fun s4 => some (-1)) some
theorem slices_Index_Lint_int_ok {N : Nat} {G : Pers} {Lf : List Ent} {w : World} (s_ : List Int) (v : Int) {s__p : Option Addr} {s__c : Nat} (h_s_ : Rd G 1 s__p s__c (s_.map encI_i64)) (hc : Ctx G (Lf) w) {res : Int} (hF : slices_Index_Lint_int N s_ v = some res) : Calls Tryz.prog 86 #[.slice s__p s_.length s__c,i6 v] w (fun e w => e = .returned (i6 res) ∧ Ctx G (Lf) w) := by
 unfold slices_Index_Lint_int at hF
 refine fnIn Tryz.func86 rfl Tryz.ntmps86 rfl fun a hf => zS fun K h => sp 1 hf rfl fun a hf => zT h ?_
 refine wp_seq_k fun K2 h2 => zS fun K h => sp 1 hf rfl fun a hf => zP hf rfl (pLenS Tryz.underlying35 rfl) fun a hf => sp 1 hf rfl fun a hf => zT h ?_
 refine wp_block ?_
 obtain ⟨x4,hx4,hF⟩ := bnd_some hF
 let S4 : Int → Act → World → Prop := (fun (zz : Int) a w => Has 19 a [(0,.slice s__p s_.length s__c),(1,i6 v),(7,i6 ((s_.length : Nat) : Int)),(8,i6 zz)] ∧ Ctx G (Lf) w)
 have hr4 : ∀ (zz : Int) a w,x4 = .go zz → S4 zz a w → K2 a w := by
  rintro x a w rfl ⟨hf,hc⟩
  replace hF := exK_go hF
  refine h2 _ _ ?_
  refine zS fun K h => sp 1 hf rfl fun a hf => zT h ?_
  refine wp_ret ?_
  obtain rfl := sj hF
  exact zO1 Tryz.results86 hf rfl ⟨rfl,hc⟩
 have ho4 : ∀ r,x4 = .out r → r = res := by
  rintro r rfl
  exact sj hF
 refine cLoop N (loopW (S := S4) (x := x4) ?_ N 0 _ _ ⟨hf.kp rfl,hc⟩ hx4)
 clear hF hf hc
 rintro x st4 a w KB4 ⟨hf,hc⟩ hF hfin4 hK4
 unfold slices_Index_Lint_int_b4 at hF
 refine zS fun K h => sp 1 hf rfl fun a hf => zT h ?_
 refine wp_seq_k fun K7 h7 => zI hf rfl hF ?_ ?_ <;> clear hF <;> intro hF
 ·refine wp_skip ?_
  refine h7 _ _ ?_
  refine wp_seq_k fun K8 h8 => wp_block ?_
  refine zS fun K h => sp 2 hf rfl fun a hf => zT h ?_
  refine zS fun K h => sp 3 hf rfl fun a hf => ?_
  obtain ⟨e_1,he_1,hF⟩ := bnd_some hF
  obtain ⟨b_1,o,qa,qp⟩ := h_s_.atm he_1
  refine zP hf rfl (pIA Tryz.underlying35 sz_3 rfl rfl qa) fun a hf => zE hf hc rfl (eLd1 sc_3 rfl (cell_pc (j := 0) qp rfl)) fun a w hf hc => sp 1 hf rfl fun a hf => zT h ?_
  refine zI hf rfl hF ?_ ?_ <;> clear hF <;> intro hF
  ·refine zS fun K h => sp 2 hf rfl fun a hf => zT h ?_
   refine wp_ret ?_
   refine xBlkR ?_
   refine xThenR ?_
   refine xThenR ?_
   have he := sj hF
   rw [← he] at hfin4
   replace hF := ho4 _ hfin4
   refine xBlkR ?_
   refine xThenR ?_
   obtain rfl := hF
   exact zO1 Tryz.results86 hf rfl ⟨rfl,hc⟩
  ·refine wp_skip ?_
   refine h8 _ _ ?_
   refine cReg ?_
   refine sp 2 hf rfl fun a hf => cNil ?_
   exact hK4 (W (x + 1)) _ _ (sj hF).symm ⟨hf.kp rfl,hc⟩
 ·refine wp_exit ?_
  refine xThen ?_
  refine xThen ?_
  have he := sj hF
  rw [← he] at hfin4
  refine cHit ?_
  exact hr4 _ _ _ hfin4 ⟨hf.kp rfl,hc⟩

def slices_Contains_Lint_int (N : Nat) (s_ : List Int) (v : Int) : Option (Bool) :=
 Option.bind (slices_Index_Lint_int N s_ v) fun r =>
 some (decide (0 ≤ r))
theorem slices_Contains_Lint_int_ok {N : Nat} {G : Pers} {Lf : List Ent} {w : World} (s_ : List Int) (v : Int) {s__p : Option Addr} {s__c : Nat} (h_s_ : Rd G 1 s__p s__c (s_.map encI_i64)) (hc : Ctx G (Lf) w) {res : Bool} (hF : slices_Contains_Lint_int N s_ v = some res) : Calls Tryz.prog 83 #[.slice s__p s_.length s__c,i6 v] w (fun e w => e = .returned (.bool res) ∧ Ctx G (Lf) w) := by
 unfold slices_Contains_Lint_int at hF
 refine fnIn Tryz.func83 rfl Tryz.ntmps83 rfl fun a hf => zS fun K h => sp 1 hf rfl fun a hf => zT h ?_
 refine zS fun K h => sp 2 hf rfl fun a hf => ?_
 obtain ⟨r,hr,hF⟩ := bnd_some hF
 refine zQ (v := i6 r) hf hc en_86 rfl (fun w hc => slices_Index_Lint_int_ok s_ v h_s_ hc hr) fun a w hf hc => sp 2 hf rfl fun a hf => zT h ?_
 refine wp_ret ?_
 obtain rfl := sj hF
 exact zO1 Tryz.results83 hf rfl ⟨rfl,hc⟩

def notes_right_b22 (N : Nat) (e_1 : notes_Work) (twice_1 : Bool) (x_1 : Int) : Option (Step (Bool × Int) (Step (Bool × Int) (Int))) :=
 cond (decide (x_1 < ((e_1.Of.length : Nat) : Int)))
 (Option.bind (getI e_1.Of x_1) fun e_2 =>
 Option.bind (cond twice_1 (some true) (Option.bind (subO e_1.Of 0 x_1) fun sub =>
 Option.bind (slices_Contains_Lint_int N sub e_2) fun r_2 =>
 some r_2)) fun t_3 =>
 some (.cont (t_3,W (x_1 + 1))))
 (some (.brk (twice_1,x_1)))
def notes_right_b8 (N : Nat) (w_ : List notes_Work) (twice : Bool) (x : Int) : Option (Step (Bool × Int) (Int)) :=
 cond (decide (x < ((w_.length : Nat) : Int)))
 (Option.bind (getI w_ x) fun e_1 =>
 Option.bind (cond ((!(notes_in e_1.Base 0 1000002)) || (!(notes_in e_1.Minutes 0 10000))) (some true) (Option.bind (notes_every_int N w_ x e_1.Of) fun r_1 =>
 some (!r_1))) fun t_2 =>
 cond t_2
 (some (.ret 140))
 (Option.bind (loopO (fun s22 => notes_right_b22 N e_1 s22.1 s22.2) N (twice,0)) fun x22 =>
 exK x22 (fun s22 => some (.cont (s22.1,W (x + 1)))) some))
 (some (.brk (twice,x)))
def notes_right (N : Nat) (w_ : List notes_Work) : Option (Int) :=
 Option.bind (cond (!(notes_in ((w_.length : Nat) : Int) 1 30)) (some true) (Option.bind (notes_every_notes_Work N w_) fun r =>
 some (!r))) fun t_1 =>
 cond t_1
 (some 3)
 (Option.bind (loopO (fun s8 => notes_right_b8 N w_ s8.1 s8.2) N (false,0)) fun x8 =>
 exK x8 (fun s8 => cond s8.1
 (some 10)
 (some 0)) some)
theorem notes_right_ok {N : Nat} {G : Pers} {Lf : List Ent} {w : World} (w_ : List notes_Work) {w__p : Option Addr} {w__c : Nat} (h_w_ : RdT kd_110 G 3 w__p w__c w_) (hc : Ctx G (Lf) w) {res : Int} (hF : notes_right N w_ = some res) : Calls Tryz.prog 107 #[.slice w__p w_.length w__c] w (fun e w => e = .returned (i6 res) ∧ Ctx G (Lf) w) := by
 unfold notes_right at hF
 refine fnIn Tryz.func107 rfl Tryz.ntmps107 rfl fun a hf => zS fun K h => zB hf hc rfl fun b_1 a w hf hc => sp 1 hf rfl fun a hf => zT h ?_
 refine wp_seq_k fun K2 h2 => zS fun K h => zL hf hc sc_89 m0 rfl fun a w hf hc => zP hf rfl (pLenS Tryz.underlying89 rfl) fun a hf => zQ (v := .bool (notes_in ((w_.length : Nat) : Int) 1 30)) hf hc en_111 rfl (fun w hc => notes_in_ok ((w_.length : Nat) : Int) 1 30 hc rfl) fun a w hf hc => sp 2 hf rfl fun a hf => ?_
 obtain ⟨t_1,ht_1,hF⟩ := bnd_some hF
 refine stCc 4 (fun a => Has 61 a [(1,pq b_1),(8,.slice w__p w_.length w__c),(9,i6 ((w_.length : Nat) : Int)),(10,.bool (notes_in ((w_.length : Nat) : Int) 1 30)),(11,.bool (!(notes_in ((w_.length : Nat) : Int) 1 30))),(12,.bool (!(notes_in ((w_.length : Nat) : Int) 1 30))),(16,.bool t_1)]) hc ?_ ?_
 ·cases hb : (!(notes_in ((w_.length : Nat) : Int) 1 30))
  ·rw [hb] at hf
   have hF := condF hb ht_1
   refine zL hf hc sc_89 m0 rfl fun a w hf hc => ?_
   obtain ⟨r,hr,hF⟩ := bnd_some hF
   refine zQ (v := .bool r) hf hc en_131 rfl (fun w hc => notes_every_notes_Work_ok w_ h_w_ hc hr) fun a w hf hc => sp 2 hf rfl fun a hf => ?_
   obtain rfl := sj hF
   exact cNil ⟨hf.kp rfl,hc⟩
  ·rw [hb] at hf
   have hF := condT hb ht_1
   obtain rfl := sj hF
   refine stS hf rfl rfl rfl fun a hf => stS hf rfl rfl rfl fun a hf => stS hf rfl rfl rfl fun a hf => sp 1 hf rfl fun a hf => cNil ⟨hf.kp rfl,hc⟩
 intro a w ⟨hf,hc⟩
 refine zT h ?_
 refine zI hf rfl hF ?_ ?_ <;> clear hF <;> intro hF
 ·refine zS fun K h => sp 1 hf rfl fun a hf => zT h ?_
  refine wp_ret ?_
  refine xThenR ?_
  obtain rfl := sj hF
  replace hc := hc.drop k0
  exact zO1 Tryz.results107 hf rfl ⟨rfl,hc⟩
 ·refine wp_skip ?_
  refine h2 _ _ ?_
  refine zS fun K h => sp 1 hf rfl fun a hf => zT h ?_
  refine wp_seq_k fun K6 h6 => zS fun K h => zL hf hc sc_89 m0 rfl fun a w hf hc => zP hf rfl (pLenS Tryz.underlying89 rfl) fun a hf => sp 1 hf rfl fun a hf => zT h ?_
  refine wp_block ?_
  obtain ⟨x8,hx8,hF⟩ := bnd_some hF
  let S8 : (Bool × Int) → Act → World → Prop := (fun (zz : Bool × Int) a w => Has 61 a [(1,pq b_1),(3,.bool zz.1),(17,.slice w__p w_.length w__c),(18,i6 ((w_.length : Nat) : Int)),(19,i6 zz.2)] ∧ Ctx G (.box b_1 [.slice w__p w_.length w__c] 89::Lf) w)
  have hr8 : ∀ (zz : Bool × Int) a w,x8 = .go zz → S8 zz a w → K6 a w := by
   rintro ⟨twice,x⟩ a w rfl ⟨hf,hc⟩
   replace hF := exK_go hF
   refine h6 _ _ ?_
   refine wp_seq_k fun K9 h9 => zS fun K h => sp 1 hf rfl fun a hf => zT h ?_
   refine zI hf rfl hF ?_ ?_ <;> clear hF <;> intro hF
   ·refine zS fun K h => sp 1 hf rfl fun a hf => zT h ?_
    refine wp_ret ?_
    refine xThenR ?_
    obtain rfl := sj hF
    replace hc := hc.drop k0
    exact zO1 Tryz.results107 hf rfl ⟨rfl,hc⟩
   ·refine wp_skip ?_
    refine h9 _ _ ?_
    refine zS fun K h => sp 1 hf rfl fun a hf => zT h ?_
    refine wp_ret ?_
    obtain rfl := sj hF
    replace hc := hc.drop k0
    exact zO1 Tryz.results107 hf rfl ⟨rfl,hc⟩
  have ho8 : ∀ r,x8 = .out r → r = res := by
   rintro r rfl
   exact sj hF
  refine cLoop N (loopW (S := S8) (x := x8) ?_ N (false,0) _ _ ⟨hf.kp rfl,hc⟩ hx8)
  clear hF hf hc
  rintro ⟨twice,x⟩ st8 a w KB8 ⟨hf,hc⟩ hF hfin8 hK8
  unfold notes_right_b8 at hF
  refine zS fun K h => sp 1 hf rfl fun a hf => zT h ?_
  refine wp_seq_k fun K14 h14 => zI hf rfl hF ?_ ?_ <;> clear hF <;> intro hF
  ·refine wp_skip ?_
   refine h14 _ _ ?_
   refine wp_seq_k fun K15 h15 => wp_block ?_
   refine zS fun K h => sp 1 hf rfl fun a hf => ?_
   obtain ⟨e_1,he_1,hF⟩ := bnd_some hF
   obtain ⟨b_2,o,hd,qa,qp,qr⟩ := h_w_.atm he_1
   refine zP hf rfl (pIA Tryz.underlying89 sz_110 rfl rfl qa) fun a hf => zE hf hc rfl (eLdN (vs := [.slice hd.1 e_1.Of.length hd.2,i6 e_1.Base,i6 e_1.Minutes]) ag_110 rfl rfl (cells_pc qp (n := 3) (o' := 0) rfl)) fun a w hf hc => zA hf hc zr_3 rfl fun b_3 a w hf hc => zA hf hc zr_110 rfl fun b_4 a w hf hc => zW hf hc sz_3 u1 rfl fun w hc => zW hf hc sz_110 u0 rfl fun w hc => zT h ?_
   refine wp_seq_k fun K17 h17 => zS fun K h => zP hf rfl (pFA fa_110_1 rfl) fun a hf => zL hf hc sc_3 m0 rfl fun a w hf hc => zQ (v := .bool (notes_in e_1.Base 0 1000002)) hf hc en_111 rfl (fun w hc => notes_in_ok e_1.Base 0 1000002 hc rfl) fun a w hf hc => sp 2 hf rfl fun a hf => stCc 5 (fun a => Has 61 a [(1,pq b_1),(3,.bool twice),(17,.slice w__p w_.length w__c),(18,i6 ((w_.length : Nat) : Int)),(19,i6 x),(4,pq b_3),(5,pq b_4),(24,.pointer (some ⟨b_4,1,none⟩)),(25,i6 e_1.Base),(26,.bool (notes_in e_1.Base 0 1000002)),(27,.bool (!(notes_in e_1.Base 0 1000002))),(28,.bool (!(notes_in e_1.Base 0 1000002))),(33,.bool ((!(notes_in e_1.Base 0 1000002)) || (!(notes_in e_1.Minutes 0 10000))))]) hc ?_ ?_
   ·cases hb : (!(notes_in e_1.Base 0 1000002))
    ·rw [hb] at hf
     refine zP hf rfl (pFA fa_110_2 rfl) fun a hf => zL hf hc sc_3 m0 rfl fun a w hf hc => zQ (v := .bool (notes_in e_1.Minutes 0 10000)) hf hc en_111 rfl (fun w hc => notes_in_ok e_1.Minutes 0 10000 hc rfl) fun a w hf hc => sp 2 hf rfl fun a hf => cNil ⟨hf.kp rfl,hc⟩
    ·rw [hb] at hf
     refine stS hf rfl rfl rfl fun a hf => stS hf rfl rfl rfl fun a hf => stS hf rfl rfl rfl fun a hf => stS hf rfl rfl rfl fun a hf => sp 1 hf rfl fun a hf => cNil ⟨hf.kp rfl,hc⟩
   intro a w ⟨hf,hc⟩
   refine sp 1 hf rfl fun a hf => ?_
   obtain ⟨t_2,ht_2,hF⟩ := bnd_some hF
   refine stCc 6 (fun a => Has 61 a [(1,pq b_1),(3,.bool twice),(17,.slice w__p w_.length w__c),(18,i6 ((w_.length : Nat) : Int)),(19,i6 x),(4,pq b_3),(5,pq b_4),(24,.pointer (some ⟨b_4,1,none⟩)),(25,i6 e_1.Base),(26,.bool (notes_in e_1.Base 0 1000002)),(27,.bool (!(notes_in e_1.Base 0 1000002))),(28,.bool (!(notes_in e_1.Base 0 1000002))),(33,.bool ((!(notes_in e_1.Base 0 1000002)) || (!(notes_in e_1.Minutes 0 10000)))),(34,.bool ((!(notes_in e_1.Base 0 1000002)) || (!(notes_in e_1.Minutes 0 10000)))),(40,.bool t_2)]) hc ?_ ?_
   ·cases hb : ((!(notes_in e_1.Base 0 1000002)) || (!(notes_in e_1.Minutes 0 10000)))
    ·rw [hb] at hf
     have hF := condF hb ht_2
     refine zP hf rfl (pMF (us := [pq b_1,pq b_3]) rfl rfl) fun a hf => zP hf rfl (pFA fa_110_0 rfl) fun a hf => zL hf hc sc_35 m0 rfl fun a w hf hc => ?_
     obtain ⟨r_1,hr_1,hF⟩ := bnd_some hF
     refine zQ (v := .bool r_1) hf hc en_109 rfl (fun w hc => (notes_every_int_ok w_ x e_1.Of h_w_ qr ((hc.pick k1).pick k2) hr_1).mono fun e w h => ⟨h.1,((h.2.unpick k2).unpick k1)⟩) fun a w hf hc => sp 2 hf rfl fun a hf => ?_
     obtain rfl := sj hF
     exact cNil ⟨hf.kp rfl,hc⟩
    ·rw [hb] at hf
     have hF := condT hb ht_2
     obtain rfl := sj hF
     refine stS hf rfl rfl rfl fun a hf => stS hf rfl rfl rfl fun a hf => stS hf rfl rfl rfl fun a hf => stS hf rfl rfl rfl fun a hf => stS hf rfl rfl rfl fun a hf => sp 1 hf rfl fun a hf => cNil ⟨hf.kp rfl,hc⟩
   intro a w ⟨hf,hc⟩
   refine zT h ?_
   refine zI hf rfl hF ?_ ?_ <;> clear hF <;> intro hF
   ·refine zS fun K h => sp 1 hf rfl fun a hf => zT h ?_
    refine wp_ret ?_
    refine xThenR ?_
    refine xBlkR ?_
    refine xThenR ?_
    refine xThenR ?_
    have he := sj hF
    rw [← he] at hfin8
    replace hF := ho8 _ hfin8
    refine xBlkR ?_
    refine xThenR ?_
    obtain rfl := hF
    replace hc := ((hc.drop k2).drop k1).drop k0
    exact zO1 Tryz.results107 hf rfl ⟨rfl,hc⟩
   ·refine wp_skip ?_
    refine h17 _ _ ?_
    refine zS fun K h => zP hf rfl (pFA fa_110_0 rfl) fun a hf => zL hf hc sc_35 m0 rfl fun a w hf hc => zP hf rfl (pLenS Tryz.underlying35 rfl) fun a hf => sp 1 hf rfl fun a hf => zT h ?_
    refine wp_thenK fun K21 h21 => wp_block ?_
    obtain ⟨x22,hx22,hF⟩ := bnd_some hF
    let S22 : (Bool × Int) → Act → World → Prop := (fun (zz : Bool × Int) a w => Has 61 a [(1,pq b_1),(3,.bool zz.1),(5,pq b_4),(17,.slice w__p w_.length w__c),(18,i6 ((w_.length : Nat) : Int)),(19,i6 x),(42,.slice hd.1 e_1.Of.length hd.2),(43,i6 ((e_1.Of.length : Nat) : Int)),(44,i6 zz.2)] ∧ Ctx G (.box b_4 [.slice hd.1 e_1.Of.length hd.2,i6 e_1.Base,i6 e_1.Minutes] 110::.box b_1 [.slice w__p w_.length w__c] 89::Lf) w)
    have hr22 : ∀ (zz : Bool × Int) a w,x22 = .go zz → S22 zz a w → K21 a w := by
     rintro ⟨twice_1,x_1⟩ a w rfl ⟨hf,hc⟩
     replace hF := exK_go hF
     refine h21 _ _ ?_
     refine h15 _ _ ?_
     refine cReg ?_
     refine sp 2 hf rfl fun a hf => cNil ?_
     replace hc := hc.drop k0
     exact hK8 (twice_1,W (x + 1)) _ _ (sj hF).symm ⟨hf.kp rfl,hc⟩
    have ho22 : ∀ r,x22 = .out r → r = st8 := by
     rintro r rfl
     exact sj hF
    replace hc := hc.drop k1
    refine cLoop N (loopW (S := S22) (x := x22) ?_ N (twice,0) _ _ ⟨hf.kp rfl,hc⟩ hx22)
    clear hF hf hc
    rintro ⟨twice_1,x_1⟩ st22 a w KB22 ⟨hf,hc⟩ hF hfin22 hK22
    unfold notes_right_b22 at hF
    refine zS fun K h => sp 1 hf rfl fun a hf => zT h ?_
    refine wp_seq_k fun K24 h24 => zI hf rfl hF ?_ ?_ <;> clear hF <;> intro hF
    ·refine wp_skip ?_
     refine h24 _ _ ?_
     refine wp_seq_k fun K25 h25 => wp_block ?_
     refine zS fun K h => sp 1 hf rfl fun a hf => ?_
     obtain ⟨e_2,he_2,hF⟩ := bnd_some hF
     obtain ⟨b_5,o_1,qa_1,qp_1⟩ := qr.atm he_2
     refine zP hf rfl (pIA Tryz.underlying35 sz_3 rfl rfl qa_1) fun a hf => zE hf hc rfl (eLd1 sc_3 rfl (cell_pc (j := 0) qp_1 rfl)) fun a w hf hc => sp 2 hf rfl fun a hf => zT h ?_
     refine cReg ?_
     refine sp 2 hf rfl fun a hf => ?_
     obtain ⟨t_3,ht_3,hF⟩ := bnd_some hF
     refine stCc 7 (fun a => Has 61 a [(1,pq b_1),(3,.bool twice_1),(5,pq b_4),(17,.slice w__p w_.length w__c),(18,i6 ((w_.length : Nat) : Int)),(19,i6 x),(42,.slice hd.1 e_1.Of.length hd.2),(43,i6 ((e_1.Of.length : Nat) : Int)),(44,i6 x_1),(6,i6 x_1),(7,i6 e_2),(49,.bool twice_1),(50,.bool twice_1),(57,.bool t_3)]) hc ?_ ?_
     ·cases hb : twice_1
      ·rw [hb] at hf
       try rw [hb] at hc
       have hF := condF hb ht_3
       refine zP hf rfl (pFA fa_110_0 rfl) fun a hf => zL hf hc sc_35 m0 rfl fun a w hf hc => sp 1 hf rfl fun a hf => ?_
       obtain ⟨sub,hsub,hF⟩ := bnd_some hF
       have qs := Rd.sub qr hsub
       refine zP hf rfl (pSl Tryz.underlying35 sz_3 rfl rfl (by simpa using qr.1) rfl rfl hsub) fun a hf => sp 1 hf rfl fun a hf => ?_
       obtain ⟨r_2,hr_2,hF⟩ := bnd_some hF
       refine zQ (v := .bool r_2) hf hc en_83 rfl (fun w hc => slices_Contains_Lint_int_ok sub e_2 qs hc hr_2) fun a w hf hc => sp 1 hf rfl fun a hf => ?_
       obtain rfl := sj hF
       exact cNil ⟨hf.kp rfl,hc⟩
      ·rw [hb] at hf
       try rw [hb] at hc
       have hF := condT hb ht_3
       obtain rfl := sj hF
       refine stS hf rfl rfl rfl fun a hf => stS hf rfl rfl rfl fun a hf => stS hf rfl rfl rfl fun a hf => stS hf rfl rfl rfl fun a hf => stS hf rfl rfl rfl fun a hf => stS hf rfl rfl rfl fun a hf => sp 1 hf rfl fun a hf => cNil ⟨hf.kp rfl,hc⟩
     intro a w ⟨hf,hc⟩
     refine sp 1 hf rfl fun a hf => cNil ?_
     refine h25 _ _ ?_
     refine cReg ?_
     refine sp 2 hf rfl fun a hf => cNil ?_
     exact hK22 (t_3,W (x_1 + 1)) _ _ (sj hF).symm ⟨hf.kp rfl,hc⟩
    ·refine wp_exit ?_
     refine xThen ?_
     refine xThen ?_
     have he := sj hF
     rw [← he] at hfin22
     refine cHit ?_
     exact hr22 _ _ _ hfin22 ⟨hf.kp rfl,hc⟩
  ·refine wp_exit ?_
   refine xThen ?_
   refine xThen ?_
   have he := sj hF
   rw [← he] at hfin8
   refine cHit ?_
   exact hr8 _ _ _ hfin8 ⟨hf.kp rfl,hc⟩

def notes_web_order_1 (N : Nat) (i_ : Int) (x : List Int) : Option (Bool) :=
 Option.bind (slices_Contains_Lint_int N x i_) fun r =>
 some r
theorem notes_web_order_1_ok {N : Nat} {G : Pers} {Lf : List Ent} {w : World} (i_ : Int) (x : List Int) {b_ : Nat} {x_p : Option Addr} {x_c : Nat} (h_x : Rd G 1 x_p x_c (x.map encI_i64)) (hc : Ctx G (.box b_ [.slice x_p x.length x_c] 35::Lf) w) {res : Bool} (hF : notes_web_order_1 N i_ x = some res) : Calls Tryz.prog 134 #[i6 i_,pq b_] w (fun e w => e = .returned (.bool res) ∧ Ctx G (.box b_ [.slice x_p x.length x_c] 35::Lf) w) := by
 unfold notes_web_order_1 at hF
 refine fnIn Tryz.func134 rfl Tryz.ntmps134 rfl fun a hf => zS fun K h => sp 1 hf rfl fun a hf => zT h ?_
 refine zS fun K h => zL hf hc sc_35 m0 rfl fun a w hf hc => sp 1 hf rfl fun a hf => ?_
 obtain ⟨r,hr,hF⟩ := bnd_some hF
 refine zQ (v := .bool r) hf hc en_83 rfl (fun w hc => slices_Contains_Lint_int_ok x i_ h_x hc hr) fun a w hf hc => sp 1 hf rfl fun a hf => zT h ?_
 refine wp_ret ?_
 obtain rfl := sj hF
 exact zO1 Tryz.results134 hf rfl ⟨rfl,hc⟩

def notes_every_int_1_s2 (N : Nat) (x : Int) (x_1 : List Int) : Option (Bool) :=
 Option.bind (notes_web_order_1 N x x_1) fun r =>
 some (!r)
theorem notes_every_int_1_s2_ok {N : Nat} {G : Pers} {Lf : List Ent} {w : World} (x : Int) (x_1 : List Int) {b_ : Nat} {b__1 : Nat} {x_1_p : Option Addr} {x_1_c : Nat} (h_x_1 : Rd G 1 x_1_p x_1_c (x_1.map encI_i64)) (hc : Ctx G (.box b_ [.func (.func 134) #[] #[pq b__1]] 72::.box b__1 [.slice x_1_p x_1.length x_1_c] 35::Lf) w) {res : Bool} (hF : notes_every_int_1_s2 N x x_1 = some res) : Calls Tryz.prog 135 #[i6 x,pq b_] w (fun e w => e = .returned (.bool res) ∧ Ctx G (.box b_ [.func (.func 134) #[] #[pq b__1]] 72::.box b__1 [.slice x_1_p x_1.length x_1_c] 35::Lf) w) := by
 unfold notes_every_int_1_s2 at hF
 refine fnIn Tryz.func135 rfl Tryz.ntmps135 rfl fun a hf => zS fun K h => sp 1 hf rfl fun a hf => zT h ?_
 refine zS fun K h => zL hf hc sc_72 m0 rfl fun a w hf hc => sp 1 hf rfl fun a hf => ?_
 obtain ⟨r,hr,hF⟩ := bnd_some hF
 refine zQ (v := .bool r) hf hc en_134 rfl (fun w hc => (notes_web_order_1_ok x x_1 h_x_1 (hc.pick k1) hr).mono fun e w h => ⟨h.1,(h.2.unpick k1)⟩) fun a w hf hc => sp 2 hf rfl fun a hf => zT h ?_
 refine wp_ret ?_
 obtain rfl := sj hF
 exact zO1 Tryz.results135 hf rfl ⟨rfl,hc⟩

def slices_IndexFunc_Lint_int_s5_b4 (N : Nat) (s_ : List Int) (f_ : List Int) (x : Int) : Option (Step (Int) (Int)) :=
 cond (decide (x < ((s_.length : Nat) : Int)))
 (Option.bind (getI s_ x) fun e_1 =>
 Option.bind (notes_every_int_1_s2 N e_1 f_) fun r =>
 cond r
 (some (.ret x))
 (some (.cont (W (x + 1)))))
 (some (.brk x))
def slices_IndexFunc_Lint_int_s5 (N : Nat) (s_ : List Int) (f_ : List Int) : Option (Int) :=
 Option.bind (loopO (fun s4 => slices_IndexFunc_Lint_int_s5_b4 N s_ f_ s4) N 0) fun x4 =>
 exK x4 (fun s4 => some (-1)) some
theorem slices_IndexFunc_Lint_int_s5_ok {N : Nat} {G : Pers} {Lf : List Ent} {w : World} (s_ : List Int) (f_ : List Int) {s__p : Option Addr} {s__c : Nat} {b_ : Nat} {b__1 : Nat} {f__p : Option Addr} {f__c : Nat} (h_s_ : Rd G 1 s__p s__c (s_.map encI_i64)) (h_f_ : Rd G 1 f__p f__c (f_.map encI_i64)) (hc : Ctx G (.box b_ [.func (.func 134) #[] #[pq b__1]] 72::.box b__1 [.slice f__p f_.length f__c] 35::Lf) w) {res : Int} (hF : slices_IndexFunc_Lint_int_s5 N s_ f_ = some res) : Calls Tryz.prog 38 #[.slice s__p s_.length s__c,.func (.func 135) #[] #[pq b_]] w (fun e w => e = .returned (i6 res) ∧ Ctx G (.box b_ [.func (.func 134) #[] #[pq b__1]] 72::.box b__1 [.slice f__p f_.length f__c] 35::Lf) w) := by
 unfold slices_IndexFunc_Lint_int_s5 at hF
 refine fnIn Tryz.func38 rfl Tryz.ntmps38 rfl fun a hf => zS fun K h => sp 1 hf rfl fun a hf => zT h ?_
 refine wp_seq_k fun K2 h2 => zS fun K h => sp 1 hf rfl fun a hf => zP hf rfl (pLenS Tryz.underlying35 rfl) fun a hf => sp 1 hf rfl fun a hf => zT h ?_
 refine wp_block ?_
 obtain ⟨x4,hx4,hF⟩ := bnd_some hF
 let S4 : Int → Act → World → Prop := (fun (zz : Int) a w => Has 19 a [(0,.slice s__p s_.length s__c),(1,.func (.func 135) #[] #[pq b_]),(7,i6 ((s_.length : Nat) : Int)),(8,i6 zz)] ∧ Ctx G (.box b_ [.func (.func 134) #[] #[pq b__1]] 72::.box b__1 [.slice f__p f_.length f__c] 35::Lf) w)
 have hr4 : ∀ (zz : Int) a w,x4 = .go zz → S4 zz a w → K2 a w := by
  rintro x a w rfl ⟨hf,hc⟩
  replace hF := exK_go hF
  refine h2 _ _ ?_
  refine zS fun K h => sp 1 hf rfl fun a hf => zT h ?_
  refine wp_ret ?_
  obtain rfl := sj hF
  exact zO1 Tryz.results38 hf rfl ⟨rfl,hc⟩
 have ho4 : ∀ r,x4 = .out r → r = res := by
  rintro r rfl
  exact sj hF
 refine cLoop N (loopW (S := S4) (x := x4) ?_ N 0 _ _ ⟨hf.kp rfl,hc⟩ hx4)
 clear hF hf hc
 rintro x st4 a w KB4 ⟨hf,hc⟩ hF hfin4 hK4
 unfold slices_IndexFunc_Lint_int_s5_b4 at hF
 refine zS fun K h => sp 1 hf rfl fun a hf => zT h ?_
 refine wp_seq_k fun K7 h7 => zI hf rfl hF ?_ ?_ <;> clear hF <;> intro hF
 ·refine wp_skip ?_
  refine h7 _ _ ?_
  refine wp_seq_k fun K8 h8 => wp_block ?_
  refine zS fun K h => sp 2 hf rfl fun a hf => zT h ?_
  refine zS fun K h => sp 3 hf rfl fun a hf => ?_
  obtain ⟨e_1,he_1,hF⟩ := bnd_some hF
  obtain ⟨b_1,o,qa,qp⟩ := h_s_.atm he_1
  refine zP hf rfl (pIA Tryz.underlying35 sz_3 rfl rfl qa) fun a hf => zE hf hc rfl (eLd1 sc_3 rfl (cell_pc (j := 0) qp rfl)) fun a w hf hc => ?_
  obtain ⟨r,hr,hF⟩ := bnd_some hF
  refine zQ (v := .bool r) hf hc en_135 rfl (fun w hc => (notes_every_int_1_s2_ok e_1 f_ h_f_ ((hc.pick k1).pick k1) hr).mono fun e w h => ⟨h.1,((h.2.unpick k1).unpick k1)⟩) fun a w hf hc => zT h ?_
  refine zI hf rfl hF ?_ ?_ <;> clear hF <;> intro hF
  ·refine zS fun K h => sp 2 hf rfl fun a hf => zT h ?_
   refine wp_ret ?_
   refine xBlkR ?_
   refine xThenR ?_
   refine xThenR ?_
   have he := sj hF
   rw [← he] at hfin4
   replace hF := ho4 _ hfin4
   refine xBlkR ?_
   refine xThenR ?_
   obtain rfl := hF
   exact zO1 Tryz.results38 hf rfl ⟨rfl,hc⟩
  ·refine wp_skip ?_
   refine h8 _ _ ?_
   refine cReg ?_
   refine sp 2 hf rfl fun a hf => cNil ?_
   exact hK4 (W (x + 1)) _ _ (sj hF).symm ⟨hf.kp rfl,hc⟩
 ·refine wp_exit ?_
  refine xThen ?_
  refine xThen ?_
  have he := sj hF
  rw [← he] at hfin4
  refine cHit ?_
  exact hr4 _ _ _ hfin4 ⟨hf.kp rfl,hc⟩

def slices_ContainsFunc_Lint_int_s3 (N : Nat) (s_ : List Int) (f_ : List Int) : Option (Bool) :=
 Option.bind (slices_IndexFunc_Lint_int_s5 N s_ f_) fun r =>
 some (decide (0 ≤ r))
theorem slices_ContainsFunc_Lint_int_s3_ok {N : Nat} {G : Pers} {Lf : List Ent} {w : World} (s_ : List Int) (f_ : List Int) {s__p : Option Addr} {s__c : Nat} {b_ : Nat} {b__1 : Nat} {f__p : Option Addr} {f__c : Nat} (h_s_ : Rd G 1 s__p s__c (s_.map encI_i64)) (h_f_ : Rd G 1 f__p f__c (f_.map encI_i64)) (hc : Ctx G (.box b_ [.func (.func 134) #[] #[pq b__1]] 72::.box b__1 [.slice f__p f_.length f__c] 35::Lf) w) {res : Bool} (hF : slices_ContainsFunc_Lint_int_s3 N s_ f_ = some res) : Calls Tryz.prog 54 #[.slice s__p s_.length s__c,.func (.func 135) #[] #[pq b_]] w (fun e w => e = .returned (.bool res) ∧ Ctx G (.box b_ [.func (.func 134) #[] #[pq b__1]] 72::.box b__1 [.slice f__p f_.length f__c] 35::Lf) w) := by
 unfold slices_ContainsFunc_Lint_int_s3 at hF
 refine fnIn Tryz.func54 rfl Tryz.ntmps54 rfl fun a hf => zS fun K h => sp 1 hf rfl fun a hf => zT h ?_
 refine zS fun K h => sp 2 hf rfl fun a hf => ?_
 obtain ⟨r,hr,hF⟩ := bnd_some hF
 refine zQ (v := i6 r) hf hc en_38 rfl (fun w hc => (slices_IndexFunc_Lint_int_s5_ok s_ f_ h_s_ h_f_ ((hc.pick k1).pick k1) hr).mono fun e w h => ⟨h.1,((h.2.unpick k1).unpick k1)⟩) fun a w hf hc => sp 2 hf rfl fun a hf => zT h ?_
 refine wp_ret ?_
 obtain rfl := sj hF
 exact zO1 Tryz.results54 hf rfl ⟨rfl,hc⟩

def notes_every_int_s2 (N : Nat) (so : List Int) (l : List Int) : Option (Bool) :=
 Option.bind (slices_ContainsFunc_Lint_int_s3 N l so) fun r =>
 some (!r)
theorem notes_every_int_s2_ok {N : Nat} {G : Pers} {Lf : List Ent} {w : World} (so : List Int) (l : List Int) {b_ : Nat} {so_p : Option Addr} {so_c : Nat} {l_p : Option Addr} {l_c : Nat} (h_so : Rd G 1 so_p so_c (so.map encI_i64)) (h_l : Rd G 1 l_p l_c (l.map encI_i64)) (hc : Ctx G (.box b_ [.slice so_p so.length so_c] 35::Lf) w) {res : Bool} (hF : notes_every_int_s2 N so l = some res) : Calls Tryz.prog 109 #[.func (.func 134) #[] #[pq b_],.slice l_p l.length l_c] w (fun e w => e = .returned (.bool res) ∧ Ctx G (.box b_ [.slice so_p so.length so_c] 35::Lf) w) := by
 unfold notes_every_int_s2 at hF
 refine fnIn Tryz.func109 rfl Tryz.ntmps109 rfl fun a hf => zS fun K h => zB hf hc rfl fun b_1 a w hf hc => sp 1 hf rfl fun a hf => zT h ?_
 refine zS fun K h => sp 1 hf rfl fun a hf => zP hf rfl (pMF (us := [pq b_1]) rfl rfl) fun a hf => ?_
 obtain ⟨r,hr,hF⟩ := bnd_some hF
 refine zQ (v := .bool r) hf hc en_54 rfl (fun w hc => (slices_ContainsFunc_Lint_int_s3_ok l so h_l h_so ((hc.pick k1).pick k1) hr).mono fun e w h => ⟨h.1,((h.2.unpick k1).unpick k1)⟩) fun a w hf hc => sp 2 hf rfl fun a hf => zT h ?_
 refine wp_ret ?_
 obtain rfl := sj hF
 replace hc := hc.drop k0
 exact zO1 Tryz.results109 hf rfl ⟨rfl,hc⟩

def notes_web_order_j10 (N : Nat) (i_2 : Int) (x_1 : List Int) : Option (Step (Int × (List Int)) ((List Int))) :=
 some (.cont (W (i_2 + 1),x_1))
def notes_web_order_b6 (N : Nat) (w_ : notes_web) (i_1 : Int) (x : List Int) : Option (Step (Int × (List Int)) ((List Int))) :=
 cond (decide (i_1 < ((w_.list.works.length : Nat) : Int)))
 (Option.bind (notes_web_order_1 N i_1 x) fun r =>
 Option.bind (cond (!r) (Option.bind (getI w_.list.works i_1) fun e_1 =>
 Option.bind (notes_every_int_s2 N x e_1.Of) fun r_1 =>
 some r_1) (some false)) fun t_1 =>
 cond t_1
 (Option.bind (room ((x ++ [i_1])).length) fun un =>
 notes_web_order_j10 N (-1) (x ++ [i_1]))
 (notes_web_order_j10 N i_1 x))
 (some (.brk (i_1,x)))
def notes_web_order (N : Nat) (w_ : notes_web) : Option ((List Int)) :=
 Option.bind (loopO (fun s6 => notes_web_order_b6 N w_ s6.1 s6.2) N (0,([] : List Int))) fun x6 =>
 exK x6 (fun s6 => some s6.2) some
theorem notes_web_order_ok {N : Nat} {G : Pers} {Lf : List Ent} {w : World} (w_ : notes_web) {b_ : Nat} {w__list_works_p : Option Addr} {w__list_works_c : Nat} (h_w__list_works : RdT kd_110 G 3 w__list_works_p w__list_works_c w_.list.works) (hc : Ctx G (.box b_ [.slice w__list_works_p w_.list.works.length w__list_works_c] 165::Lf) w) {res : (List Int)} (hF : notes_web_order N w_ = some res) : Calls Tryz.prog 108 #[pq b_] w (fun e w => ∃ (p'1 : Option Addr) (c'1 : Nat),e = .returned (.slice p'1 res.length c'1) ∧ Ctx G (.row p'1 c'1 (res.map encI_i64) 3 1::.box b_ [.slice w__list_works_p w_.list.works.length w__list_works_c] 165::Lf) w) := by
 unfold notes_web_order at hF
 refine fnIn Tryz.func108 rfl Tryz.ntmps108 rfl fun a hf => zS fun K h => sp 1 hf rfl fun a hf => zT h ?_
 refine zS fun K h => zA hf hc zr_35 rfl fun b_1 a w hf hc => zT h ?_
 refine zS fun K h => zP hf rfl (pMF (us := [pq b_1]) rfl rfl) fun a hf => sp 1 hf rfl fun a hf => zT h ?_
 refine wp_seq_k fun K4 h4 => zS fun K h => sp 1 hf rfl fun a hf => zT h ?_
 refine wp_block ?_
 obtain ⟨x6,hx6,hF⟩ := bnd_some hF
 let S6 : (Int × (List Int)) → Act → World → Prop := (fun (zz : Int × (List Int)) a w => ∃ (p_1 : Option Addr) (c_1 : Nat),Has 39 a [(0,pq b_),(3,pq b_1),(4,.func (.func 134) #[] #[pq b_1]),(5,i6 zz.1)] ∧ Ctx G (.row p_1 c_1 (zz.2.map encI_i64) 3 1::.box b_1 [.slice p_1 zz.2.length c_1] 35::.box b_ [.slice w__list_works_p w_.list.works.length w__list_works_c] 165::Lf) w)
 have hr6 : ∀ (zz : Int × (List Int)) a w,x6 = .go zz → S6 zz a w → K4 a w := by
  rintro ⟨i_1,x⟩ a w rfl ⟨p_1,c_1,hf,hc⟩
  replace hF := exK_go hF
  refine h4 _ _ ?_
  refine zS fun K h => zL hf hc sc_35 m1 rfl fun a w hf hc => sp 1 hf rfl fun a hf => zT h ?_
  refine wp_ret ?_
  obtain rfl := sj hF
  replace hc := hc.drop k1
  exact zO1 Tryz.results108 hf rfl ⟨p_1,c_1,rfl,hc⟩
 have ho6 : ∀ r,x6 = .out r → r = res := by
  rintro r rfl
  exact sj hF
 replace hc := hc.nilRow 3 1
 refine cLoop N (loopW (S := S6) (x := x6) ?_ N (0,([] : List Int)) _ _ ⟨none,0,hf.kp rfl,hc⟩ hx6)
 clear hF hf hc
 rintro ⟨i_1,x⟩ st6 a w KB6 ⟨p_1,c_1,hf,hc⟩ hF hfin6 hK6
 unfold notes_web_order_b6 at hF
 refine wp_seq_k fun K8 h8 => zS fun K h => sp 3 hf rfl fun a hf => zP hf rfl (pFA fa_165_0 rfl) fun a hf => zP hf rfl (pFA fa_163_0 rfl) fun a hf => zL hf hc sc_89 m2 rfl fun a w hf hc => zP hf rfl (pLenS Tryz.underlying89 rfl) fun a hf => sp 1 hf rfl fun a hf => zT h ?_
 refine zI hf rfl hF ?_ ?_ <;> clear hF <;> intro hF
 ·refine wp_skip ?_
  refine h8 _ _ ?_
  refine wp_seq_k fun K10 h10 => ?_
  have hj10 : ∀ (i_2 : Int) (x_1 : List Int) (p_2 : Option Addr) (c_2 : Nat) a w,Has 39 a [(0,pq b_),(3,pq b_1),(4,.func (.func 134) #[] #[pq b_1]),(5,i6 i_2)] → Ctx G (.row p_2 c_2 (x_1.map encI_i64) 3 1::.box b_1 [.slice p_2 x_1.length c_2] 35::.box b_ [.slice w__list_works_p w_.list.works.length w__list_works_c] 165::Lf) w → notes_web_order_j10 N i_2 x_1 = some st6 → K10 a w := by
   repeat (clear hF)
   repeat (clear hc)
   repeat (clear hf)
   intro i_2 x_1 p_2 c_2 a w hf hc hF
   unfold notes_web_order_j10 at hF
   refine h10 _ _ ?_
   refine cReg ?_
   refine sp 3 hf rfl fun a hf => cNil ?_
   exact hK6 (W (i_2 + 1),x_1) _ _ (sj hF).symm ⟨p_2,c_2,hf.kp rfl,hc⟩
  refine wp_block ?_
  refine zS fun K h => sp 2 hf rfl fun a hf => ?_
  obtain ⟨r,hr,hF⟩ := bnd_some hF
  refine zQ (v := .bool r) hf hc en_134 rfl (fun w hc => by obtain ⟨G1,hle1,hrd1,hc,hth1⟩ := lend hc k0; exact (notes_web_order_1_ok i_1 x hrd1 (hc.pick k0) hr).mono fun e w h => ⟨h.1,((hth1 _ _ (h.2.unpick k0)).unpick k0)⟩) fun a w hf hc => sp 2 hf rfl fun a hf => ?_
  obtain ⟨t_1,ht_1,hF⟩ := bnd_some hF
  refine stCc 12 (fun a => Has 39 a [(0,pq b_),(3,pq b_1),(4,.func (.func 134) #[] #[pq b_1]),(5,i6 i_1),(17,.func (.func 134) #[] #[pq b_1]),(18,i6 i_1),(19,.bool r),(20,.bool (!r)),(21,.bool (!r)),(33,.bool t_1)]) hc ?_ ?_
  ·cases hb : (!r)
   ·rw [hb] at hf
    have hF := condF hb ht_1
    obtain rfl := sj hF
    refine stS hf rfl rfl rfl fun a hf => stS hf rfl rfl rfl fun a hf => stS hf rfl rfl rfl fun a hf => stS hf rfl rfl rfl fun a hf => stS hf rfl rfl rfl fun a hf => stS hf rfl rfl rfl fun a hf => stS hf rfl rfl rfl fun a hf => stS hf rfl rfl rfl fun a hf => stS hf rfl rfl rfl fun a hf => stS hf rfl rfl rfl fun a hf => stS hf rfl rfl rfl fun a hf => sp 1 hf rfl fun a hf => cNil ⟨hf.kp rfl,hc⟩
   ·rw [hb] at hf
    have hF := condT hb ht_1
    refine sp 3 hf rfl fun a hf => zP hf rfl (pFA fa_165_0 rfl) fun a hf => zP hf rfl (pFA fa_163_0 rfl) fun a hf => zL hf hc sc_89 m2 rfl fun a w hf hc => sp 1 hf rfl fun a hf => ?_
    obtain ⟨e_1,he_1,hF⟩ := bnd_some hF
    obtain ⟨b_2,o,hd,qa,qp,qr⟩ := h_w__list_works.atm he_1
    refine zP hf rfl (pIA Tryz.underlying89 sz_110 rfl rfl qa) fun a hf => zP hf rfl (pFA fa_110_0 rfl) fun a hf => zE hf hc rfl (eLd1 sc_35 rfl (cell_pc (j := 0) qp rfl)) fun a w hf hc => ?_
    obtain ⟨r_1,hr_1,hF⟩ := bnd_some hF
    refine zQ (v := .bool r_1) hf hc en_109 rfl (fun w hc => by obtain ⟨G1,hle1,hrd1,hc,hth1⟩ := lend hc k0; exact (notes_every_int_s2_ok x e_1.Of hrd1 (qr.mono hle1) (hc.pick k0) hr_1).mono fun e w h => ⟨h.1,((hth1 _ _ (h.2.unpick k0)).unpick k0)⟩) fun a w hf hc => sp 1 hf rfl fun a hf => ?_
    obtain rfl := sj hF
    exact cNil ⟨hf.kp rfl,hc⟩
  intro a w ⟨hf,hc⟩
  refine zT h ?_
  refine zI hf rfl hF ?_ ?_ <;> clear hF <;> intro hF
  ·refine zS fun K h => zL hf hc sc_35 m1 rfl fun a w hf hc => sp 1 hf rfl fun a hf => stBS (rows := ([i_1] : List Int).map encI_i64) (vs := [(0,i6 i_1)]) hf hc rfl rfl sl_35 rfl ⟨rfl,rfl,rfl,trivial⟩ rfl rfl fun b_3 a w hf hc => ?_
   obtain ⟨un,hun,hF⟩ := bnd_some hF
   refine stApm (xs := x) (ys := ([i_1] : List Int)) hf hc rfl rfl sl_35 rfl rfl rfl rfl rfl one_encI_i64 (src_row hc m0) (fun _ _ => u1) (by simpa using room_spec hun) fun p_3 c_3 a w hf hc => zW hf hc sz_35 u2 rfl fun w hc => zT h ?_
   refine cReg ?_
   refine sp 1 hf rfl fun a hf => cNil ?_
   replace hc := hc.drop k0
   exact hj10 (-1) (x ++ [i_1]) p_3 c_3 _ _  (hf.kp rfl) hc hF
  ·refine wp_skip ?_
   exact hj10 i_1 x p_1 c_1 _ _  (hf.kp rfl) hc hF
 ·refine wp_exit ?_
  refine xThen ?_
  refine xThen ?_
  have he := sj hF
  rw [← he] at hfin6
  refine cHit ?_
  exact hr6 _ _ _ hfin6 ⟨p_1,c_1,hf.kp rfl,hc⟩

def notes_opened (N : Nat) (w_ : List notes_Work) : Option (((List Int) × Int) ⊕ ((List Int) × Int)) :=
 Option.bind (notes_right N w_) fun r =>
 cond (r != 0)
 (some (.inl (([] : List Int),r)))
 (Option.bind (notes_web_order N (⟨(⟨w_⟩ : notes_list)⟩ : notes_web)) fun r_1 =>
 cond (decide (((r_1.length : Nat) : Int) < ((w_.length : Nat) : Int)))
 (some (.inl (([] : List Int),9)))
 (some (.inr (r_1,0))))
theorem notes_opened_ok {N : Nat} {G : Pers} {Lf : List Ent} {w : World} (w_ : List notes_Work) {w__p : Option Addr} {w__c : Nat} (h_w_ : RdT kd_110 G 3 w__p w__c w_) (hc : Ctx G (Lf) w) {res : ((List Int) × Int) ⊕ ((List Int) × Int)} (hF : notes_opened N w_ = some res) : Calls Tryz.prog 81 #[.slice w__p w_.length w__c] w (fun e w => sumK (fun rr => ∃ (p'1 : Option Addr) (c'1 : Nat),e = .returned (.tuple #[.pointer none,.slice p'1 rr.1.length c'1,i6 rr.2]) ∧ Ctx G (.row p'1 c'1 (rr.1.map encI_i64) 3 1::Lf) w) (fun rr => ∃ (b'1 : Nat) (p'1 : Option Addr) (c'1 : Nat),e = .returned (.tuple #[pq b'1,.slice p'1 rr.1.length c'1,i6 rr.2]) ∧ Ctx G (.box b'1 [.slice w__p w_.length w__c] 165::.row p'1 c'1 (rr.1.map encI_i64) 3 1::Lf) w) res) := by
 unfold notes_opened at hF
 refine fnIn Tryz.func81 rfl Tryz.ntmps81 rfl fun a hf => zS fun K h => sp 3 hf rfl fun a hf => zT h ?_
 refine wp_seq_k fun K2 h2 => zS fun K h => sp 1 hf rfl fun a hf => ?_
 obtain ⟨r,hr,hF⟩ := bnd_some hF
 refine zQ (v := i6 r) hf hc en_107 rfl (fun w hc => notes_right_ok w_ h_w_ hc hr) fun a w hf hc => sp 1 hf rfl fun a hf => zT h ?_
 refine zS fun K h => sp 2 hf rfl fun a hf => zT h ?_
 refine zI hf rfl hF ?_ ?_ <;> clear hF <;> intro hF
 ·refine zS fun K h => sp 4 hf rfl fun a hf => zT h ?_
  refine wp_ret ?_
  refine xThenR ?_
  obtain rfl := sj hF
  replace hc := hc.nilRow 3 1
  exact zO3 Tryz.results81 hf rfl rfl rfl ⟨none,0,rfl,hc⟩
 ·refine wp_skip ?_
  refine h2 _ _ ?_
  refine zS fun K h => sp 1 hf rfl fun a hf => zP hf rfl (pBuildS (cells := [.slice w__p w_.length w__c]) bt_163 rfl rfl) fun a hf => zP hf rfl (pBuildS (cells := [.slice w__p w_.length w__c]) bt_165 rfl rfl) fun a hf => zB hf hc rfl fun b_1 a w hf hc => sp 1 hf rfl fun a hf => zT h ?_
  refine zS fun K h => sp 1 hf rfl fun a hf => ?_
  obtain ⟨r_1,hr_1,hF⟩ := bnd_some hF
  refine zC hf en_108 rfl (notes_web_order_ok (⟨(⟨w_⟩ : notes_list)⟩ : notes_web) h_w_ (hc.pick k0) hr_1) ?_
  rintro _ w ⟨p_1,c_1,rfl,hc⟩
  refine ⟨_,rfl,fun a hf => ?_⟩
  refine sp 1 hf rfl fun a hf => zT h ?_
  refine wp_seq_k fun K8 h8 => zS fun K h => sp 1 hf rfl fun a hf => zP hf rfl (pLenS Tryz.underlying35 rfl) fun a hf => sp 1 hf rfl fun a hf => zP hf rfl (pLenS Tryz.underlying89 rfl) fun a hf => sp 1 hf rfl fun a hf => zT h ?_
  refine zI hf rfl hF ?_ ?_ <;> clear hF <;> intro hF
  ·refine zS fun K h => sp 3 hf rfl fun a hf => zT h ?_
   refine wp_ret ?_
   refine xThenR ?_
   obtain rfl := sj hF
   replace hc := hc.nilRow 3 1
   replace hc := (hc.drop k2).drop k1
   exact zO3 Tryz.results81 hf rfl rfl rfl ⟨none,0,rfl,hc⟩
  ·refine wp_skip ?_
   refine h8 _ _ ?_
   refine zS fun K h => sp 5 hf rfl fun a hf => zT h ?_
   refine wp_ret ?_
   obtain rfl := sj hF
   replace hc := (hc.pick k0).pick k1
   exact zO3 Tryz.results81 hf rfl rfl rfl ⟨b_1,p_1,c_1,rfl,hc⟩

def notes_listed_1 (i_ : Int) (x : List notes_Work) : Bool :=
 (notes_in i_ 0 (W (((x.length : Nat) : Int) - 1)))
theorem notes_listed_1_ok {G : Pers} {Lf : List Ent} {w : World} (i_ : Int) (x : List notes_Work) {b_ : Nat} {x_p : Option Addr} {x_c : Nat} (h_x : RdT kd_110 G 3 x_p x_c x) (hc : Ctx G (.box b_ [.slice x_p x.length x_c] 89::Lf) w) {res : Bool} (hF : notes_listed_1 i_ x = res) : Calls Tryz.prog 110 #[i6 i_,pq b_] w (fun e w => e = .returned (.bool res) ∧ Ctx G (.box b_ [.slice x_p x.length x_c] 89::Lf) w) := by
 unfold notes_listed_1 at hF
 refine fnIn Tryz.func110 rfl Tryz.ntmps110 rfl fun a hf => zS fun K h => sp 1 hf rfl fun a hf => zT h ?_
 refine zS fun K h => sp 1 hf rfl fun a hf => zL hf hc sc_89 m0 rfl fun a w hf hc => zP hf rfl (pLenS Tryz.underlying89 rfl) fun a hf => sp 1 hf rfl fun a hf => zQ (v := .bool (notes_in i_ 0 (W (((x.length : Nat) : Int) - 1)))) hf hc en_111 rfl (fun w hc => notes_in_ok i_ 0 (W (((x.length : Nat) : Int) - 1)) hc rfl) fun a w hf hc => sp 1 hf rfl fun a hf => zT h ?_
 refine wp_ret ?_
 obtain rfl := hF
 exact zO1 Tryz.results110 hf rfl ⟨rfl,hc⟩

def notes_every_int_1_s3 (x : Int) (x_1 : List notes_Work) : Bool :=
 (!(notes_listed_1 x x_1))
theorem notes_every_int_1_s3_ok {G : Pers} {Lf : List Ent} {w : World} (x : Int) (x_1 : List notes_Work) {b_ : Nat} {b__1 : Nat} {x_1_p : Option Addr} {x_1_c : Nat} (h_x_1 : RdT kd_110 G 3 x_1_p x_1_c x_1) (hc : Ctx G (.box b_ [.func (.func 110) #[] #[pq b__1]] 72::.box b__1 [.slice x_1_p x_1.length x_1_c] 89::Lf) w) {res : Bool} (hF : notes_every_int_1_s3 x x_1 = res) : Calls Tryz.prog 135 #[i6 x,pq b_] w (fun e w => e = .returned (.bool res) ∧ Ctx G (.box b_ [.func (.func 110) #[] #[pq b__1]] 72::.box b__1 [.slice x_1_p x_1.length x_1_c] 89::Lf) w) := by
 unfold notes_every_int_1_s3 at hF
 refine fnIn Tryz.func135 rfl Tryz.ntmps135 rfl fun a hf => zS fun K h => sp 1 hf rfl fun a hf => zT h ?_
 refine zS fun K h => zL hf hc sc_72 m0 rfl fun a w hf hc => sp 1 hf rfl fun a hf => zQ (v := .bool (notes_listed_1 x x_1)) hf hc en_110 rfl (fun w hc => (notes_listed_1_ok x x_1 h_x_1 (hc.pick k1) rfl).mono fun e w h => ⟨h.1,(h.2.unpick k1)⟩) fun a w hf hc => sp 2 hf rfl fun a hf => zT h ?_
 refine wp_ret ?_
 obtain rfl := hF
 exact zO1 Tryz.results135 hf rfl ⟨rfl,hc⟩

def slices_IndexFunc_Lint_int_s6_b4 (N : Nat) (s_ : List Int) (f_ : List notes_Work) (x : Int) : Option (Step (Int) (Int)) :=
 cond (decide (x < ((s_.length : Nat) : Int)))
 (Option.bind (getI s_ x) fun e_1 =>
 cond (notes_every_int_1_s3 e_1 f_)
 (some (.ret x))
 (some (.cont (W (x + 1)))))
 (some (.brk x))
def slices_IndexFunc_Lint_int_s6 (N : Nat) (s_ : List Int) (f_ : List notes_Work) : Option (Int) :=
 Option.bind (loopO (fun s4 => slices_IndexFunc_Lint_int_s6_b4 N s_ f_ s4) N 0) fun x4 =>
 exK x4 (fun s4 => some (-1)) some
theorem slices_IndexFunc_Lint_int_s6_ok {N : Nat} {G : Pers} {Lf : List Ent} {w : World} (s_ : List Int) (f_ : List notes_Work) {s__p : Option Addr} {s__c : Nat} {b_ : Nat} {b__1 : Nat} {f__p : Option Addr} {f__c : Nat} (h_s_ : Rd G 1 s__p s__c (s_.map encI_i64)) (h_f_ : RdT kd_110 G 3 f__p f__c f_) (hc : Ctx G (.box b_ [.func (.func 110) #[] #[pq b__1]] 72::.box b__1 [.slice f__p f_.length f__c] 89::Lf) w) {res : Int} (hF : slices_IndexFunc_Lint_int_s6 N s_ f_ = some res) : Calls Tryz.prog 38 #[.slice s__p s_.length s__c,.func (.func 135) #[] #[pq b_]] w (fun e w => e = .returned (i6 res) ∧ Ctx G (.box b_ [.func (.func 110) #[] #[pq b__1]] 72::.box b__1 [.slice f__p f_.length f__c] 89::Lf) w) := by
 unfold slices_IndexFunc_Lint_int_s6 at hF
 refine fnIn Tryz.func38 rfl Tryz.ntmps38 rfl fun a hf => zS fun K h => sp 1 hf rfl fun a hf => zT h ?_
 refine wp_seq_k fun K2 h2 => zS fun K h => sp 1 hf rfl fun a hf => zP hf rfl (pLenS Tryz.underlying35 rfl) fun a hf => sp 1 hf rfl fun a hf => zT h ?_
 refine wp_block ?_
 obtain ⟨x4,hx4,hF⟩ := bnd_some hF
 let S4 : Int → Act → World → Prop := (fun (zz : Int) a w => Has 19 a [(0,.slice s__p s_.length s__c),(1,.func (.func 135) #[] #[pq b_]),(7,i6 ((s_.length : Nat) : Int)),(8,i6 zz)] ∧ Ctx G (.box b_ [.func (.func 110) #[] #[pq b__1]] 72::.box b__1 [.slice f__p f_.length f__c] 89::Lf) w)
 have hr4 : ∀ (zz : Int) a w,x4 = .go zz → S4 zz a w → K2 a w := by
  rintro x a w rfl ⟨hf,hc⟩
  replace hF := exK_go hF
  refine h2 _ _ ?_
  refine zS fun K h => sp 1 hf rfl fun a hf => zT h ?_
  refine wp_ret ?_
  obtain rfl := sj hF
  exact zO1 Tryz.results38 hf rfl ⟨rfl,hc⟩
 have ho4 : ∀ r,x4 = .out r → r = res := by
  rintro r rfl
  exact sj hF
 refine cLoop N (loopW (S := S4) (x := x4) ?_ N 0 _ _ ⟨hf.kp rfl,hc⟩ hx4)
 clear hF hf hc
 rintro x st4 a w KB4 ⟨hf,hc⟩ hF hfin4 hK4
 unfold slices_IndexFunc_Lint_int_s6_b4 at hF
 refine zS fun K h => sp 1 hf rfl fun a hf => zT h ?_
 refine wp_seq_k fun K7 h7 => zI hf rfl hF ?_ ?_ <;> clear hF <;> intro hF
 ·refine wp_skip ?_
  refine h7 _ _ ?_
  refine wp_seq_k fun K8 h8 => wp_block ?_
  refine zS fun K h => sp 2 hf rfl fun a hf => zT h ?_
  refine zS fun K h => sp 3 hf rfl fun a hf => ?_
  obtain ⟨e_1,he_1,hF⟩ := bnd_some hF
  obtain ⟨b_1,o,qa,qp⟩ := h_s_.atm he_1
  refine zP hf rfl (pIA Tryz.underlying35 sz_3 rfl rfl qa) fun a hf => zE hf hc rfl (eLd1 sc_3 rfl (cell_pc (j := 0) qp rfl)) fun a w hf hc => zQ (v := .bool (notes_every_int_1_s3 e_1 f_)) hf hc en_135 rfl (fun w hc => (notes_every_int_1_s3_ok e_1 f_ h_f_ ((hc.pick k1).pick k1) rfl).mono fun e w h => ⟨h.1,((h.2.unpick k1).unpick k1)⟩) fun a w hf hc => zT h ?_
  refine zI hf rfl hF ?_ ?_ <;> clear hF <;> intro hF
  ·refine zS fun K h => sp 2 hf rfl fun a hf => zT h ?_
   refine wp_ret ?_
   refine xBlkR ?_
   refine xThenR ?_
   refine xThenR ?_
   have he := sj hF
   rw [← he] at hfin4
   replace hF := ho4 _ hfin4
   refine xBlkR ?_
   refine xThenR ?_
   obtain rfl := hF
   exact zO1 Tryz.results38 hf rfl ⟨rfl,hc⟩
  ·refine wp_skip ?_
   refine h8 _ _ ?_
   refine cReg ?_
   refine sp 2 hf rfl fun a hf => cNil ?_
   exact hK4 (W (x + 1)) _ _ (sj hF).symm ⟨hf.kp rfl,hc⟩
 ·refine wp_exit ?_
  refine xThen ?_
  refine xThen ?_
  have he := sj hF
  rw [← he] at hfin4
  refine cHit ?_
  exact hr4 _ _ _ hfin4 ⟨hf.kp rfl,hc⟩

def slices_ContainsFunc_Lint_int_s4 (N : Nat) (s_ : List Int) (f_ : List notes_Work) : Option (Bool) :=
 Option.bind (slices_IndexFunc_Lint_int_s6 N s_ f_) fun r =>
 some (decide (0 ≤ r))
theorem slices_ContainsFunc_Lint_int_s4_ok {N : Nat} {G : Pers} {Lf : List Ent} {w : World} (s_ : List Int) (f_ : List notes_Work) {s__p : Option Addr} {s__c : Nat} {b_ : Nat} {b__1 : Nat} {f__p : Option Addr} {f__c : Nat} (h_s_ : Rd G 1 s__p s__c (s_.map encI_i64)) (h_f_ : RdT kd_110 G 3 f__p f__c f_) (hc : Ctx G (.box b_ [.func (.func 110) #[] #[pq b__1]] 72::.box b__1 [.slice f__p f_.length f__c] 89::Lf) w) {res : Bool} (hF : slices_ContainsFunc_Lint_int_s4 N s_ f_ = some res) : Calls Tryz.prog 54 #[.slice s__p s_.length s__c,.func (.func 135) #[] #[pq b_]] w (fun e w => e = .returned (.bool res) ∧ Ctx G (.box b_ [.func (.func 110) #[] #[pq b__1]] 72::.box b__1 [.slice f__p f_.length f__c] 89::Lf) w) := by
 unfold slices_ContainsFunc_Lint_int_s4 at hF
 refine fnIn Tryz.func54 rfl Tryz.ntmps54 rfl fun a hf => zS fun K h => sp 1 hf rfl fun a hf => zT h ?_
 refine zS fun K h => sp 2 hf rfl fun a hf => ?_
 obtain ⟨r,hr,hF⟩ := bnd_some hF
 refine zQ (v := i6 r) hf hc en_38 rfl (fun w hc => (slices_IndexFunc_Lint_int_s6_ok s_ f_ h_s_ h_f_ ((hc.pick k1).pick k1) hr).mono fun e w h => ⟨h.1,((h.2.unpick k1).unpick k1)⟩) fun a w hf hc => sp 2 hf rfl fun a hf => zT h ?_
 refine wp_ret ?_
 obtain rfl := sj hF
 exact zO1 Tryz.results54 hf rfl ⟨rfl,hc⟩

def notes_every_int_s3 (N : Nat) (so : List notes_Work) (l : List Int) : Option (Bool) :=
 Option.bind (slices_ContainsFunc_Lint_int_s4 N l so) fun r =>
 some (!r)
theorem notes_every_int_s3_ok {N : Nat} {G : Pers} {Lf : List Ent} {w : World} (so : List notes_Work) (l : List Int) {b_ : Nat} {so_p : Option Addr} {so_c : Nat} {l_p : Option Addr} {l_c : Nat} (h_so : RdT kd_110 G 3 so_p so_c so) (h_l : Rd G 1 l_p l_c (l.map encI_i64)) (hc : Ctx G (.box b_ [.slice so_p so.length so_c] 89::Lf) w) {res : Bool} (hF : notes_every_int_s3 N so l = some res) : Calls Tryz.prog 109 #[.func (.func 110) #[] #[pq b_],.slice l_p l.length l_c] w (fun e w => e = .returned (.bool res) ∧ Ctx G (.box b_ [.slice so_p so.length so_c] 89::Lf) w) := by
 unfold notes_every_int_s3 at hF
 refine fnIn Tryz.func109 rfl Tryz.ntmps109 rfl fun a hf => zS fun K h => zB hf hc rfl fun b_1 a w hf hc => sp 1 hf rfl fun a hf => zT h ?_
 refine zS fun K h => sp 1 hf rfl fun a hf => zP hf rfl (pMF (us := [pq b_1]) rfl rfl) fun a hf => ?_
 obtain ⟨r,hr,hF⟩ := bnd_some hF
 refine zQ (v := .bool r) hf hc en_54 rfl (fun w hc => (slices_ContainsFunc_Lint_int_s4_ok l so h_l h_so ((hc.pick k1).pick k1) hr).mono fun e w h => ⟨h.1,((h.2.unpick k1).unpick k1)⟩) fun a w hf hc => sp 2 hf rfl fun a hf => zT h ?_
 refine wp_ret ?_
 obtain rfl := sj hF
 replace hc := hc.drop k0
 exact zO1 Tryz.results109 hf rfl ⟨rfl,hc⟩

def notes_listed_b7 (N : Nat) (l : List Int) (i_1 : Int) : Option (Step (Int) (Int)) :=
 cond (decide (i_1 < ((l.length : Nat) : Int)))
 (Option.bind (getI l i_1) fun e_1 =>
 Option.bind (getI l (W (i_1 - 1))) fun e_2 =>
 cond (decide (e_1 ≤ e_2))
 (some (.ret 9))
 (some (.cont (W (i_1 + 1)))))
 (some (.brk i_1))
def notes_listed (N : Nat) (w_ : List notes_Work) (l : List Int) : Option (Int) :=
 Option.bind (notes_every_int_s3 N w_ l) fun r =>
 cond (!r)
 (some 2)
 (Option.bind (loopO (fun s7 => notes_listed_b7 N l s7) N 1) fun x7 =>
 exK x7 (fun s7 => some 0) some)
theorem notes_listed_ok {N : Nat} {G : Pers} {Lf : List Ent} {w : World} (w_ : List notes_Work) (l : List Int) {w__p : Option Addr} {w__c : Nat} {l_p : Option Addr} {l_c : Nat} (h_w_ : RdT kd_110 G 3 w__p w__c w_) (h_l : Rd G 1 l_p l_c (l.map encI_i64)) (hc : Ctx G (Lf) w) {res : Int} (hF : notes_listed N w_ l = some res) : Calls Tryz.prog 82 #[.slice w__p w_.length w__c,.slice l_p l.length l_c] w (fun e w => e = .returned (i6 res) ∧ Ctx G (Lf) w) := by
 unfold notes_listed at hF
 refine fnIn Tryz.func82 rfl Tryz.ntmps82 rfl fun a hf => zS fun K h => zB hf hc rfl fun b_1 a w hf hc => sp 1 hf rfl fun a hf => zT h ?_
 refine wp_seq_k fun K2 h2 => zS fun K h => zP hf rfl (pMF (us := [pq b_1]) rfl rfl) fun a hf => sp 1 hf rfl fun a hf => ?_
 obtain ⟨r,hr,hF⟩ := bnd_some hF
 refine zQ (v := .bool r) hf hc en_109 rfl (fun w hc => (notes_every_int_s3_ok w_ l h_w_ h_l (hc.pick k0) hr).mono fun e w h => ⟨h.1,(h.2.unpick k0)⟩) fun a w hf hc => sp 1 hf rfl fun a hf => zT h ?_
 refine zI hf rfl hF ?_ ?_ <;> clear hF <;> intro hF
 ·refine zS fun K h => sp 1 hf rfl fun a hf => zT h ?_
  refine wp_ret ?_
  refine xThenR ?_
  obtain rfl := sj hF
  replace hc := hc.drop k0
  exact zO1 Tryz.results82 hf rfl ⟨rfl,hc⟩
 ·refine wp_skip ?_
  refine h2 _ _ ?_
  refine wp_seq_k fun K5 h5 => zS fun K h => sp 1 hf rfl fun a hf => zT h ?_
  refine wp_block ?_
  obtain ⟨x7,hx7,hF⟩ := bnd_some hF
  let S7 : Int → Act → World → Prop := (fun (zz : Int) a w => Has 26 a [(1,.slice l_p l.length l_c),(5,i6 zz)] ∧ Ctx G (Lf) w)
  have hr7 : ∀ (zz : Int) a w,x7 = .go zz → S7 zz a w → K5 a w := by
   rintro i_1 a w rfl ⟨hf,hc⟩
   replace hF := exK_go hF
   refine h5 _ _ ?_
   refine zS fun K h => sp 1 hf rfl fun a hf => zT h ?_
   refine wp_ret ?_
   obtain rfl := sj hF
   exact zO1 Tryz.results82 hf rfl ⟨rfl,hc⟩
  have ho7 : ∀ r,x7 = .out r → r = res := by
   rintro r rfl
   exact sj hF
  replace hc := hc.drop k0
  refine cLoop N (loopW (S := S7) (x := x7) ?_ N 1 _ _ ⟨hf.kp rfl,hc⟩ hx7)
  clear hF hf hc
  rintro i_1 st7 a w KB7 ⟨hf,hc⟩ hF hfin7 hK7
  unfold notes_listed_b7 at hF
  refine wp_seq_k fun K9 h9 => zS fun K h => sp 2 hf rfl fun a hf => zP hf rfl (pLenS Tryz.underlying35 rfl) fun a hf => sp 1 hf rfl fun a hf => zT h ?_
  refine zI hf rfl hF ?_ ?_ <;> clear hF <;> intro hF
  ·refine wp_skip ?_
   refine h9 _ _ ?_
   refine wp_seq_k fun K11 h11 => wp_block ?_
   refine wp_seq_k fun K12 h12 => ?_
   obtain ⟨e_1,he_1,hF⟩ := bnd_some hF
   obtain ⟨b_2,o,qa,qp⟩ := h_l.atm he_1
   obtain ⟨e_2,he_2,hF⟩ := bnd_some hF
   obtain ⟨b_3,o_1,qa_1,qp_1⟩ := h_l.atm he_2
   refine cQ hc follows_mx (by kernel_rfl) ?_
   refine qE hf rfl rfl rfl (Pu.ev (pM rfl)) fun a hf => qE hf rfl rfl rfl (Pu.ev (pM rfl)) fun a hf => qE hf rfl rfl rfl (Pu.ev (pIA Tryz.underlying35 sz_3 rfl rfl qa)) fun a hf => qE hf rfl rfl rfl (eLd1 sc_3 rfl (cell_pc (j := 0) qp rfl)) fun a hf => qE hf rfl rfl rfl (Pu.ev (pM rfl)) fun a hf => qE hf rfl rfl rfl (Pu.ev (pM rfl)) fun a hf => qE hf rfl rfl rfl (Pu.ev (pSub rfl rfl)) fun a hf => qE hf rfl rfl rfl (Pu.ev (pIA Tryz.underlying35 sz_3 rfl rfl qa_1)) fun a hf => qE hf rfl rfl rfl (eLd1 sc_3 rfl (cell_pc (j := 0) qp_1 rfl)) fun a hf => qE hf rfl rfl rfl (Pu.ev (pLe rfl rfl)) fun a hf => ?_
   intro w hc
   refine h12 _ _ ?_
   refine zI hf rfl hF ?_ ?_ <;> clear hF <;> intro hF
   ·refine zS fun K h => sp 1 hf rfl fun a hf => zT h ?_
    refine wp_ret ?_
    refine xBlkR ?_
    refine xThenR ?_
    refine xThenR ?_
    have he := sj hF
    rw [← he] at hfin7
    replace hF := ho7 _ hfin7
    refine xBlkR ?_
    refine xThenR ?_
    obtain rfl := hF
    exact zO1 Tryz.results82 hf rfl ⟨rfl,hc⟩
   ·refine wp_skip ?_
    refine h11 _ _ ?_
    refine cReg ?_
    refine sp 3 hf rfl fun a hf => cNil ?_
    exact hK7 (W (i_1 + 1)) _ _ (sj hF).symm ⟨hf.kp rfl,hc⟩
  ·refine wp_exit ?_
   refine xThen ?_
   refine xThen ?_
   have he := sj hF
   rw [← he] at hfin7
   refine cHit ?_
   exact hr7 _ _ _ hfin7 ⟨hf.kp rfl,hc⟩

def notes_asked_1 (N : Nat) (k : Int) (x : Nat → Bool) : Option (Bool) :=
 Option.bind (inR k 30) fun un =>
 some (x k.toNat)
theorem notes_asked_1_ok {N : Nat} {G : Pers} {Lf : List Ent} {w : World} (k : Int) (x : Nat → Bool) {b_ : Nat}  (hc : Ctx G (.box b_ (catc [] 30 encB x []) 106::Lf) w) {res : Bool} (hF : notes_asked_1 N k x = some res) : Calls Tryz.prog 84 #[i6 k,pq b_] w (fun e w => e = .returned (.bool res) ∧ Ctx G (.box b_ (catc [] 30 encB x []) 106::Lf) w) := by
 unfold notes_asked_1 at hF
 refine fnIn Tryz.func84 rfl Tryz.ntmps84 rfl fun a hf => zS fun K h => sp 1 hf rfl fun a hf => zT h ?_
 refine zS fun K h => sp 1 hf rfl fun a hf => ?_
 obtain ⟨un,hun,hF⟩ := bnd_some hF
 refine zP hf rfl (pIAA Tryz.underlying106 sz_4 rfl rfl (inR_spec hun).1 (inR_spec hun).2) fun a hf => zE hf hc rfl (eLd1 sc_4 rfl (cell_arr (j := 0) m0 (fun x => (one_encB x).1) rfl hun rfl)) fun a w hf hc => sp 1 hf rfl fun a hf => zT h ?_
 refine wp_ret ?_
 obtain rfl := sj hF
 exact zO1 Tryz.results84 hf rfl ⟨rfl,hc⟩

def slices_IndexFunc_Lint_int_s7_b4 (N : Nat) (s_ : List Int) (f_ : Nat → Bool) (x : Int) : Option (Step (Int) (Int)) :=
 cond (decide (x < ((s_.length : Nat) : Int)))
 (Option.bind (getI s_ x) fun e_1 =>
 Option.bind (notes_asked_1 N e_1 f_) fun r =>
 cond r
 (some (.ret x))
 (some (.cont (W (x + 1)))))
 (some (.brk x))
def slices_IndexFunc_Lint_int_s7 (N : Nat) (s_ : List Int) (f_ : Nat → Bool) : Option (Int) :=
 Option.bind (loopO (fun s4 => slices_IndexFunc_Lint_int_s7_b4 N s_ f_ s4) N 0) fun x4 =>
 exK x4 (fun s4 => some (-1)) some
theorem slices_IndexFunc_Lint_int_s7_ok {N : Nat} {G : Pers} {Lf : List Ent} {w : World} (s_ : List Int) (f_ : Nat → Bool) {s__p : Option Addr} {s__c : Nat} {b_ : Nat} (h_s_ : Rd G 1 s__p s__c (s_.map encI_i64)) (hc : Ctx G (.box b_ (catc [] 30 encB f_ []) 106::Lf) w) {res : Int} (hF : slices_IndexFunc_Lint_int_s7 N s_ f_ = some res) : Calls Tryz.prog 38 #[.slice s__p s_.length s__c,.func (.func 84) #[] #[pq b_]] w (fun e w => e = .returned (i6 res) ∧ Ctx G (.box b_ (catc [] 30 encB f_ []) 106::Lf) w) := by
 unfold slices_IndexFunc_Lint_int_s7 at hF
 refine fnIn Tryz.func38 rfl Tryz.ntmps38 rfl fun a hf => zS fun K h => sp 1 hf rfl fun a hf => zT h ?_
 refine wp_seq_k fun K2 h2 => zS fun K h => sp 1 hf rfl fun a hf => zP hf rfl (pLenS Tryz.underlying35 rfl) fun a hf => sp 1 hf rfl fun a hf => zT h ?_
 refine wp_block ?_
 obtain ⟨x4,hx4,hF⟩ := bnd_some hF
 let S4 : Int → Act → World → Prop := (fun (zz : Int) a w => Has 19 a [(0,.slice s__p s_.length s__c),(1,.func (.func 84) #[] #[pq b_]),(7,i6 ((s_.length : Nat) : Int)),(8,i6 zz)] ∧ Ctx G (.box b_ (catc [] 30 encB f_ []) 106::Lf) w)
 have hr4 : ∀ (zz : Int) a w,x4 = .go zz → S4 zz a w → K2 a w := by
  rintro x a w rfl ⟨hf,hc⟩
  replace hF := exK_go hF
  refine h2 _ _ ?_
  refine zS fun K h => sp 1 hf rfl fun a hf => zT h ?_
  refine wp_ret ?_
  obtain rfl := sj hF
  exact zO1 Tryz.results38 hf rfl ⟨rfl,hc⟩
 have ho4 : ∀ r,x4 = .out r → r = res := by
  rintro r rfl
  exact sj hF
 refine cLoop N (loopW (S := S4) (x := x4) ?_ N 0 _ _ ⟨hf.kp rfl,hc⟩ hx4)
 clear hF hf hc
 rintro x st4 a w KB4 ⟨hf,hc⟩ hF hfin4 hK4
 unfold slices_IndexFunc_Lint_int_s7_b4 at hF
 refine zS fun K h => sp 1 hf rfl fun a hf => zT h ?_
 refine wp_seq_k fun K7 h7 => zI hf rfl hF ?_ ?_ <;> clear hF <;> intro hF
 ·refine wp_skip ?_
  refine h7 _ _ ?_
  refine wp_seq_k fun K8 h8 => wp_block ?_
  refine zS fun K h => sp 2 hf rfl fun a hf => zT h ?_
  refine zS fun K h => sp 3 hf rfl fun a hf => ?_
  obtain ⟨e_1,he_1,hF⟩ := bnd_some hF
  obtain ⟨b_1,o,qa,qp⟩ := h_s_.atm he_1
  refine zP hf rfl (pIA Tryz.underlying35 sz_3 rfl rfl qa) fun a hf => zE hf hc rfl (eLd1 sc_3 rfl (cell_pc (j := 0) qp rfl)) fun a w hf hc => ?_
  obtain ⟨r,hr,hF⟩ := bnd_some hF
  refine zQ (v := .bool r) hf hc en_84 rfl (fun w hc => (notes_asked_1_ok e_1 f_ (hc.pick k0) hr).mono fun e w h => ⟨h.1,(h.2.unpick k0)⟩) fun a w hf hc => zT h ?_
  refine zI hf rfl hF ?_ ?_ <;> clear hF <;> intro hF
  ·refine zS fun K h => sp 2 hf rfl fun a hf => zT h ?_
   refine wp_ret ?_
   refine xBlkR ?_
   refine xThenR ?_
   refine xThenR ?_
   have he := sj hF
   rw [← he] at hfin4
   replace hF := ho4 _ hfin4
   refine xBlkR ?_
   refine xThenR ?_
   obtain rfl := hF
   exact zO1 Tryz.results38 hf rfl ⟨rfl,hc⟩
  ·refine wp_skip ?_
   refine h8 _ _ ?_
   refine cReg ?_
   refine sp 2 hf rfl fun a hf => cNil ?_
   exact hK4 (W (x + 1)) _ _ (sj hF).symm ⟨hf.kp rfl,hc⟩
 ·refine wp_exit ?_
  refine xThen ?_
  refine xThen ?_
  have he := sj hF
  rw [← he] at hfin4
  refine cHit ?_
  exact hr4 _ _ _ hfin4 ⟨hf.kp rfl,hc⟩

def slices_ContainsFunc_Lint_int_s5 (N : Nat) (s_ : List Int) (f_ : Nat → Bool) : Option (Bool) :=
 Option.bind (slices_IndexFunc_Lint_int_s7 N s_ f_) fun r =>
 some (decide (0 ≤ r))
theorem slices_ContainsFunc_Lint_int_s5_ok {N : Nat} {G : Pers} {Lf : List Ent} {w : World} (s_ : List Int) (f_ : Nat → Bool) {s__p : Option Addr} {s__c : Nat} {b_ : Nat} (h_s_ : Rd G 1 s__p s__c (s_.map encI_i64)) (hc : Ctx G (.box b_ (catc [] 30 encB f_ []) 106::Lf) w) {res : Bool} (hF : slices_ContainsFunc_Lint_int_s5 N s_ f_ = some res) : Calls Tryz.prog 54 #[.slice s__p s_.length s__c,.func (.func 84) #[] #[pq b_]] w (fun e w => e = .returned (.bool res) ∧ Ctx G (.box b_ (catc [] 30 encB f_ []) 106::Lf) w) := by
 unfold slices_ContainsFunc_Lint_int_s5 at hF
 refine fnIn Tryz.func54 rfl Tryz.ntmps54 rfl fun a hf => zS fun K h => sp 1 hf rfl fun a hf => zT h ?_
 refine zS fun K h => sp 2 hf rfl fun a hf => ?_
 obtain ⟨r,hr,hF⟩ := bnd_some hF
 refine zQ (v := i6 r) hf hc en_38 rfl (fun w hc => (slices_IndexFunc_Lint_int_s7_ok s_ f_ h_s_ (hc.pick k0) hr).mono fun e w h => ⟨h.1,(h.2.unpick k0)⟩) fun a w hf hc => sp 2 hf rfl fun a hf => zT h ?_
 refine wp_ret ?_
 obtain rfl := sj hF
 exact zO1 Tryz.results54 hf rfl ⟨rfl,hc⟩

def notes_asked_b10 (N : Nat) (w_ : List notes_Work) (revised : List Int) (r : (List Int) × Int) (x : Int) (x_1 : Nat → Bool) : Option (Step (Int × (Nat → Bool)) (((List Int) × (Nat → Bool) × Int) ⊕ ((List Int) × (Nat → Bool) × Int))) :=
 cond (decide (x < ((r.1.length : Nat) : Int)))
 (Option.bind (getI r.1 x) fun e_2 =>
 Option.bind (slices_Contains_Lint_int N revised e_2) fun r_1 =>
 Option.bind (cond r_1 (some true) (Option.bind (getI w_ e_2) fun e_3 =>
 Option.bind (slices_ContainsFunc_Lint_int_s5 N e_3.Of x_1) fun r_2 =>
 some r_2)) fun t_1 =>
 Option.bind (inR e_2 30) fun un =>
 some (.cont (W (x + 1),(setF x_1 e_2.toNat t_1))))
 (some (.brk (x,x_1)))
def notes_asked_j4 (N : Nat) (w_ : List notes_Work) (revised : List Int) (r : (List Int) × Int) (e_1 : Int) : Option (((List Int) × (Nat → Bool) × Int) ⊕ ((List Int) × (Nat → Bool) × Int)) :=
 cond (e_1 != 0)
 (some (.inl (([] : List Int),(fun _ => false),e_1)))
 (Option.bind (loopO (fun s10 => notes_asked_b10 N w_ revised r s10.1 s10.2) N (0,(fun _ => false))) fun x10 =>
 exK x10 (fun s10 => some (.inl (r.1,s10.2,0))) some)
def notes_asked_b23 (N : Nat) (w_ : List notes_Work) (revised : List Int) (r_4 : (List Int) × Int) (x_2 : Int) (x_3 : Nat → Bool) : Option (Step (Int × (Nat → Bool)) (((List Int) × (Nat → Bool) × Int) ⊕ ((List Int) × (Nat → Bool) × Int))) :=
 cond (decide (x_2 < ((r_4.1.length : Nat) : Int)))
 (Option.bind (getI r_4.1 x_2) fun e_5 =>
 Option.bind (slices_Contains_Lint_int N revised e_5) fun r_5 =>
 Option.bind (cond r_5 (some true) (Option.bind (getI w_ e_5) fun e_6 =>
 Option.bind (slices_ContainsFunc_Lint_int_s5 N e_6.Of x_3) fun r_6 =>
 some r_6)) fun t_2 =>
 Option.bind (inR e_5 30) fun un_1 =>
 some (.cont (W (x_2 + 1),(setF x_3 e_5.toNat t_2))))
 (some (.brk (x_2,x_3)))
def notes_asked_j17 (N : Nat) (w_ : List notes_Work) (revised : List Int) (r_4 : (List Int) × Int) (e_4 : Int) : Option (((List Int) × (Nat → Bool) × Int) ⊕ ((List Int) × (Nat → Bool) × Int)) :=
 cond (e_4 != 0)
 (some (.inl (([] : List Int),(fun _ => false),e_4)))
 (Option.bind (loopO (fun s23 => notes_asked_b23 N w_ revised r_4 s23.1 s23.2) N (0,(fun _ => false))) fun x23 =>
 exK x23 (fun s23 => some (.inr (r_4.1,s23.2,0))) some)
def notes_asked (N : Nat) (w_ : List notes_Work) (revised : List Int) : Option (((List Int) × (Nat → Bool) × Int) ⊕ ((List Int) × (Nat → Bool) × Int)) :=
 Option.bind (notes_opened N w_) (sumK (fun r => cond (r.2 == 0)
 (Option.bind (notes_listed N w_ revised) fun r_3 =>
 notes_asked_j4 N w_ revised r r_3)
 (notes_asked_j4 N w_ revised r r.2))
 (fun r_4 => cond (r_4.2 == 0)
 (Option.bind (notes_listed N w_ revised) fun r_7 =>
 notes_asked_j17 N w_ revised r_4 r_7)
 (notes_asked_j17 N w_ revised r_4 r_4.2)))
theorem notes_asked_ok {N : Nat} {G : Pers} {Lf : List Ent} {w : World} (w_ : List notes_Work) (revised : List Int) {w__p : Option Addr} {w__c : Nat} {revised_p : Option Addr} {revised_c : Nat} (h_w_ : RdT kd_110 G 3 w__p w__c w_) (h_revised : Rd G 1 revised_p revised_c (revised.map encI_i64)) (hc : Ctx G (Lf) w) {res : ((List Int) × (Nat → Bool) × Int) ⊕ ((List Int) × (Nat → Bool) × Int)} (hF : notes_asked N w_ revised = some res) : Calls Tryz.prog 66 #[.slice w__p w_.length w__c,.slice revised_p revised.length revised_c] w (fun e w => sumK (fun rr => ∃ (p'1 : Option Addr) (c'1 : Nat),e = .returned (.tuple #[.pointer none,.slice p'1 rr.1.length c'1,.agg (catc [] 30 encB rr.2.1 []).toArray,i6 rr.2.2]) ∧ Ctx G (.row p'1 c'1 (rr.1.map encI_i64) 3 1::Lf) w) (fun rr => ∃ (b'1 : Nat) (p'1 : Option Addr) (c'1 : Nat),e = .returned (.tuple #[pq b'1,.slice p'1 rr.1.length c'1,.agg (catc [] 30 encB rr.2.1 []).toArray,i6 rr.2.2]) ∧ Ctx G (.box b'1 [.slice w__p w_.length w__c] 165::.row p'1 c'1 (rr.1.map encI_i64) 3 1::Lf) w) res) := by
 unfold notes_asked at hF
 refine fnIn Tryz.func66 rfl Tryz.ntmps66 rfl fun a hf => zS fun K h => sp 2 hf rfl fun a hf => stAl (cs := (catc [] 30 encB (fun _ => false) [])) hf hc rfl rfl zr_106 rfl fun b_1 a w hf hc => sp 1 hf rfl fun a hf => zT h ?_
 refine zS fun K h => stAl (cs := (catc [] 30 encB (fun _ => false) [])) hf hc rfl rfl zr_106 rfl fun b_2 a w hf hc => zT h ?_
 refine zS fun K h => sp 1 hf rfl fun a hf => ?_
 obtain ⟨r,hr,hF⟩ := bnd_some hF
 cases r with
 | inl r =>
  replace hF := sumKl hF
  refine zC hf en_81 rfl (notes_opened_ok w_ h_w_ hc hr) ?_
  rintro _ w ⟨p_1,c_1,rfl,hc⟩
  refine ⟨_,rfl,fun a hf => ?_⟩
  refine sp 7 hf rfl fun a hf => zT h ?_
  refine wp_seq_k fun K4 h4 => ?_
  have hj4 : ∀ (e_1 : Int) a w,Has 53 a [(0,.slice w__p w_.length w__c),(1,.slice revised_p revised.length revised_c),(6,pq b_1),(8,pq b_2),(9,.pointer none),(10,.slice p_1 r.1.length c_1),(11,i6 e_1)] → Ctx G (.row p_1 c_1 (r.1.map encI_i64) 3 1::.box b_2 (catc [] 30 encB (fun _ => false) []) 106::.box b_1 (catc [] 30 encB (fun _ => false) []) 106::Lf) w → notes_asked_j4 N w_ revised r e_1 = some res → K4 a w := by
   repeat (clear hF)
   repeat (clear hc)
   repeat (clear hf)
   intro e_1 a w hf hc hF
   unfold notes_asked_j4 at hF
   refine h4 _ _ ?_
   refine wp_seq_k fun K5 h5 => zS fun K h => sp 2 hf rfl fun a hf => zT h ?_
   refine zI hf rfl hF ?_ ?_ <;> clear hF <;> intro hF
   ·refine wp_seq_k fun K7 h7 => regionE (fun θ => [⟨none,none,6,pq b_1⟩,⟨none,none,8,pq b_2⟩,⟨none,none,11,i6 e_1⟩,⟨some 0,none,27,.agg (catc [] 30 encB (fun _ => false) []).toArray⟩,⟨some 1,none,28,i6 e_1⟩,⟨some 2,none,4,.pointer none⟩,⟨some 3,none,5,.slice none 0 0⟩,⟨some 5,none,7,i6 e_1⟩]) (fun E θ => .row p_1 c_1 (r.1.map encI_i64) 3 1::.box b_2 (catc [] 30 encB (fun _ => false) []) 106::.box b_1 (catc [] 30 encB (fun _ => false) []) 106::Lf) [] (fun a w => Has 53 a [(6,pq b_1),(4,.pointer none),(5,.slice none 0 0),(7,i6 e_1)] ∧ Ctx G (.row p_1 c_1 (r.1.map encI_i64) 3 1::.box b_2 (catc [] 30 encB (fun _ => false) []) 106::.box b_1 (catc [] 30 encB (fun _ => false) []) 106::Lf) w) follows_mx (by kernel_rfl) (by kernel_rfl) (HasE.of hf ⟨rfl,rfl,rfl,trivial,trivial,trivial,trivial,trivial,trivial⟩) hc ⟨?_,?_,?_,?_,?_,?_,trivial⟩ ?_ ?_
    ·intro E θ a w hD hi hp he hc
     have hf := he.h0.mT he 1 rfl
     refine zE hf hc rfl (eLdN (vs := (catc [] 30 encB (fun _ => false) [])) ag_106 rfl (one_encA_106 _).1 (cells_box (n := 30) m1 (takeW (one_encA_106 _).1))) fun a w hf hc => zD θ he hi hf 3 rfl rfl rfl hc
    ·intro E θ a w hD hi hp he hc
     have hf := he.h0.mT he 2 rfl
     refine sp 1 hf rfl fun a hf => zD θ he hi hf 4 rfl rfl rfl hc
    ·intro E θ a w hD hi hp he hc
     have hf := he.h0
     refine sp 1 hf rfl fun a hf => zD θ he hi hf 5 rfl rfl rfl hc
    ·intro E θ a w hD hi hp he hc
     have hf := he.h0
     refine sp 1 hf rfl fun a hf => zD θ he hi hf 6 rfl rfl rfl hc
    ·intro E θ a w hD hi hp he hc
     have e0 := hp.o 0 rfl
     have hf := (he.h0.mT he 0 rfl).mP he 3 rfl e0
     refine stStA (enc := encA_106) (f := (fun _ => false)) (z := (fun _ => false)) hf hc rfl rfl rfl one_encA_106 sz_106 u2 fun w hc => zG θ he hi hf rfl hc
    ·intro E θ a w hD hi hp he hc
     have e1 := hp.o 1 rfl
     have hf := he.h0.mP he 4 rfl e1
     refine sp 1 hf rfl fun a hf => zD θ he hi hf 7 rfl rfl rfl hc
    ·intro E θ a w hall he hc
     have hf := he.h0
     have e2 := hall 2 rfl
     have e3 := hall 3 rfl
     have e5 := hall 5 rfl
     replace hf := hf.more he 7 rfl (onP e5)
     replace hf := hf.more he 6 rfl (onP e3)
     replace hf := hf.more he 5 rfl (onP e2)
     replace hf := hf.more he 0 rfl (onT)
     exact ⟨hf.kp rfl,hc⟩
    rintro a w ⟨hf,hc⟩
    refine h7 _ _ ?_
    refine wp_ret ?_
    refine xThenR ?_
    obtain rfl := sj hF
    replace hc := hc.nilRow 3 1
    replace hc := (hc.drop k2).drop k1
    exact fnOut4 (by simp) rfl Tryz.results66 hf hc (show look _ 4 = _ from rfl) (show look _ 5 = _ from rfl) (rv_cellN (vs := (catc [] 30 encB (fun _ => false) [])) ag_106 rfl (one_encA_106 _).1 (cells_box (n := 30) m1 (takeW (one_encA_106 _).1))) (show look _ 7 = _ from rfl) ⟨none,0,rfl,(hc.drop k1)⟩
   ·refine wp_skip ?_
    refine h5 _ _ ?_
    refine wp_seq_k fun K8 h8 => zS fun K h => sp 1 hf rfl fun a hf => zP hf rfl (pLenS Tryz.underlying35 rfl) fun a hf => sp 1 hf rfl fun a hf => zT h ?_
    refine wp_block ?_
    obtain ⟨x10,hx10,hF⟩ := bnd_some hF
    let S10 : (Int × (Nat → Bool)) → Act → World → Prop := (fun (zz : Int × (Nat → Bool)) a w => ∃ (p_2 : Option Addr) (c_2 : Nat),Has 53 a [(0,.slice w__p w_.length w__c),(1,.slice revised_p revised.length revised_c),(6,pq b_1),(8,pq b_2),(9,.pointer none),(10,.slice p_2 r.1.length c_2),(29,.slice p_2 r.1.length c_2),(30,i6 ((r.1.length : Nat) : Int)),(31,i6 zz.1)] ∧ Ctx G (.row p_2 c_2 (r.1.map encI_i64) 3 1::.box b_2 (catc [] 30 encB zz.2 []) 106::.box b_1 (catc [] 30 encB (fun _ => false) []) 106::Lf) w)
    have hr10 : ∀ (zz : Int × (Nat → Bool)) a w,x10 = .go zz → S10 zz a w → K8 a w := by
     rintro ⟨x,x_1⟩ a w rfl ⟨p_2,c_2,hf,hc⟩
     replace hF := exK_go hF
     refine h8 _ _ ?_
     refine wp_seq_k fun K11 h11 => regionE (fun θ => [⟨none,none,6,pq b_1⟩,⟨none,none,8,pq b_2⟩,⟨none,none,9,.pointer none⟩,⟨none,none,10,.slice p_2 r.1.length c_2⟩,⟨some 0,none,50,.pointer none⟩,⟨some 1,none,51,.slice p_2 r.1.length c_2⟩,⟨some 2,none,52,.agg (catc [] 30 encB x_1 []).toArray⟩,⟨some 3,none,4,.pointer none⟩,⟨some 4,none,5,.slice p_2 r.1.length c_2⟩,⟨some 6,none,7,i6 0⟩]) (fun E θ => .row p_2 c_2 (r.1.map encI_i64) 3 1::.box b_2 (catc [] 30 encB x_1 []) 106::(bif E 5 then .box b_1 (catc [] 30 encB x_1 []) 106 else .box b_1 (catc [] 30 encB (fun _ => false) []) 106)::Lf) [] (fun a w => Has 53 a [(6,pq b_1),(4,.pointer none),(5,.slice p_2 r.1.length c_2),(7,i6 0)] ∧ Ctx G (.row p_2 c_2 (r.1.map encI_i64) 3 1::.box b_2 (catc [] 30 encB x_1 []) 106::.box b_1 (catc [] 30 encB x_1 []) 106::Lf) w) follows_mx (by kernel_rfl) (by kernel_rfl) (HasE.of hf ⟨rfl,rfl,rfl,rfl,trivial,trivial,trivial,trivial,trivial,trivial,trivial⟩) hc ⟨?_,?_,?_,?_,?_,?_,?_,trivial⟩ ?_ ?_
     ·intro E θ a w hD hi hp he hc
      have hf := he.h0.mT he 2 rfl
      refine sp 1 hf rfl fun a hf => zD θ he hi hf 4 rfl rfl rfl hc
     ·intro E θ a w hD hi hp he hc
      have hf := he.h0.mT he 3 rfl
      refine sp 1 hf rfl fun a hf => zD θ he hi hf 5 rfl rfl rfl hc
     ·intro E θ a w hD hi hp he hc
      have hf := he.h0.mT he 1 rfl
      refine zE hf hc rfl (eLdN (vs := (catc [] 30 encB x_1 [])) ag_106 rfl (one_encA_106 _).1 (cells_box (n := 30) m1 (takeW (one_encA_106 _).1))) fun a w hf hc => zD θ he hi hf 6 rfl rfl rfl hc
     ·intro E θ a w hD hi hp he hc
      have e0 := hp.o 0 rfl
      have hf := he.h0.mP he 4 rfl e0
      refine sp 1 hf rfl fun a hf => zD θ he hi hf 7 rfl rfl rfl hc
     ·intro E θ a w hD hi hp he hc
      have e1 := hp.o 1 rfl
      have hf := he.h0.mP he 5 rfl e1
      refine sp 1 hf rfl fun a hf => zD θ he hi hf 8 rfl rfl rfl hc
     ·intro E θ a w hD hi hp he hc
      have e2 := hp.o 2 rfl
      try dsimp only at hc
      rw [hi] at hc
      have hf := (he.h0.mT he 0 rfl).mP he 6 rfl e2
      refine stStA (enc := encA_106) (f := (fun _ => false)) (z := x_1) hf hc rfl rfl rfl one_encA_106 sz_106 u2 fun w hc => zG θ he hi hf rfl ?_
      try dsimp only
      rw [updE_self E 5]
      exact hc
     ·intro E θ a w hD hi hp he hc
      have hf := he.h0
      refine sp 1 hf rfl fun a hf => zD θ he hi hf 9 rfl rfl rfl hc
     ·intro E θ a w hall he hc
      have hf := he.h0
      have e3 := hall 3 rfl
      have e4 := hall 4 rfl
      have e5 := hall 5 rfl
      have e6 := hall 6 rfl
      replace hf := hf.more he 9 rfl (onP e6)
      replace hf := hf.more he 8 rfl (onP e4)
      replace hf := hf.more he 7 rfl (onP e3)
      replace hf := hf.more he 0 rfl (onT)
      try dsimp only at hc
      rw [e5] at hc
      exact ⟨hf.kp rfl,hc⟩
     rintro a w ⟨hf,hc⟩
     refine h11 _ _ ?_
     refine wp_ret ?_
     obtain rfl := sj hF
     replace hc := hc.drop k1
     exact fnOut4 (by simp) rfl Tryz.results66 hf hc (show look _ 4 = _ from rfl) (show look _ 5 = _ from rfl) (rv_cellN (vs := (catc [] 30 encB x_1 [])) ag_106 rfl (one_encA_106 _).1 (cells_box (n := 30) m1 (takeW (one_encA_106 _).1))) (show look _ 7 = _ from rfl) ⟨p_2,c_2,rfl,(hc.drop k1)⟩
    have ho10 : ∀ r,x10 = .out r → r = res := by
     rintro r rfl
     exact sj hF
    refine cLoop N (loopW (S := S10) (x := x10) ?_ N (0,(fun _ => false)) _ _ ⟨p_1,c_1,hf.kp rfl,hc⟩ hx10)
    clear hF hf hc
    rintro ⟨x,x_1⟩ st10 a w KB10 ⟨p_2,c_2,hf,hc⟩ hF hfin10 hK10
    unfold notes_asked_b10 at hF
    refine zS fun K h => sp 1 hf rfl fun a hf => zT h ?_
    refine wp_seq_k fun K13 h13 => zI hf rfl hF ?_ ?_ <;> clear hF <;> intro hF
    ·refine wp_skip ?_
     refine h13 _ _ ?_
     refine wp_seq_k fun K14 h14 => wp_block ?_
     refine zS fun K h => ?_
     obtain ⟨e_2,he_2,hF⟩ := bnd_some hF
     obtain ⟨g,rfl,qa,qr⟩ := row_atm hc m0 he_2
     refine zP hf rfl (pIA Tryz.underlying35 sz_3 rfl rfl qa) fun a hf => zE hf hc rfl (eLd1 sc_3 rfl (cell_row (sz := 1) (i := x.toNat) (j := 0) m0 qr rfl)) fun a w hf hc => sp 1 hf rfl fun a hf => zT h ?_
     refine cReg ?_
     refine sp 3 hf rfl fun a hf => ?_
     obtain ⟨r_1,hr_1,hF⟩ := bnd_some hF
     refine zQ (v := .bool r_1) hf hc en_83 rfl (fun w hc => slices_Contains_Lint_int_ok revised e_2 h_revised hc hr_1) fun a w hf hc => sp 1 hf rfl fun a hf => ?_
     obtain ⟨t_1,ht_1,hF⟩ := bnd_some hF
     refine stCc 8 (fun a => Has 53 a [(0,.slice w__p w_.length w__c),(1,.slice revised_p revised.length revised_c),(6,pq b_1),(8,pq b_2),(9,.pointer none),(10,.slice (some ⟨g,0,none⟩) r.1.length c_2),(29,.slice (some ⟨g,0,none⟩) r.1.length c_2),(30,i6 ((r.1.length : Nat) : Int)),(31,i6 x),(13,i6 e_2),(35,i6 e_2),(36,.slice revised_p revised.length revised_c),(37,i6 e_2),(38,.bool r_1),(39,.bool r_1),(47,.bool t_1)]) hc ?_ ?_
     ·cases hb : r_1
      ·rw [hb] at hf
       try rw [hb] at hc
       have hF := condF hb ht_1
       refine sp 2 hf rfl fun a hf => ?_
       obtain ⟨e_3,he_3,hF⟩ := bnd_some hF
       obtain ⟨b_3,o,hd,qa_1,qp,qr_1⟩ := h_w_.atm he_3
       refine zP hf rfl (pIA Tryz.underlying89 sz_110 rfl rfl qa_1) fun a hf => zP hf rfl (pFA fa_110_0 rfl) fun a hf => zE hf hc rfl (eLd1 sc_35 rfl (cell_pc (j := 0) qp rfl)) fun a w hf hc => zP hf rfl (pMF (us := [pq b_2]) rfl rfl) fun a hf => ?_
       obtain ⟨r_2,hr_2,hF⟩ := bnd_some hF
       refine zQ (v := .bool r_2) hf hc en_54 rfl (fun w hc => (slices_ContainsFunc_Lint_int_s5_ok e_3.Of x_1 qr_1 (hc.pick k1) hr_2).mono fun e w h => ⟨h.1,(h.2.unpick k1)⟩) fun a w hf hc => sp 1 hf rfl fun a hf => ?_
       obtain rfl := sj hF
       exact cNil ⟨hf.kp rfl,hc⟩
      ·rw [hb] at hf
       try rw [hb] at hc
       have hF := condT hb ht_1
       obtain rfl := sj hF
       refine stS hf rfl rfl rfl fun a hf => stS hf rfl rfl rfl fun a hf => stS hf rfl rfl rfl fun a hf => stS hf rfl rfl rfl fun a hf => stS hf rfl rfl rfl fun a hf => stS hf rfl rfl rfl fun a hf => stS hf rfl rfl rfl fun a hf => sp 1 hf rfl fun a hf => cNil ⟨hf.kp rfl,hc⟩
     intro a w ⟨hf,hc⟩
     obtain ⟨un,hun,hF⟩ := bnd_some hF
     refine zP hf rfl (pIAA Tryz.underlying106 sz_4 rfl rfl (inR_spec hun).1 (inR_spec hun).2) fun a hf => stAr (vs := [.bool t_1]) (o' := 0) (z := t_1) hf hc rfl rfl rfl rfl sz_4 rfl (fun x => (one_encB x).1) rfl hun rfl rfl u1 fun w hc => cNil ?_
     refine h14 _ _ ?_
     refine cReg ?_
     refine sp 2 hf rfl fun a hf => cNil ?_
     exact hK10 (W (x + 1),(setF x_1 e_2.toNat t_1)) _ _ (sj hF).symm ⟨(some ⟨g,0,none⟩),c_2,hf.kp rfl,hc⟩
    ·refine wp_exit ?_
     refine xThen ?_
     refine xThen ?_
     have he := sj hF
     rw [← he] at hfin10
     refine cHit ?_
     exact hr10 _ _ _ hfin10 ⟨p_2,c_2,hf.kp rfl,hc⟩
  refine zS fun K h => sp 2 hf rfl fun a hf => zT h ?_
  refine zI hf rfl hF ?_ ?_ <;> clear hF <;> intro hF
  ·refine cReg ?_
   refine sp 2 hf rfl fun a hf => ?_
   obtain ⟨r_3,hr_3,hF⟩ := bnd_some hF
   refine zQ (v := i6 r_3) hf hc en_82 rfl (fun w hc => notes_listed_ok w_ revised h_w_ h_revised hc hr_3) fun a w hf hc => sp 1 hf rfl fun a hf => cNil ?_
   exact hj4 r_3 _ _  (hf.kp rfl) hc hF
  ·refine wp_skip ?_
   exact hj4 r.2 _ _  (hf.kp rfl) hc hF
 | inr r_4 =>
  replace hF := sumKr hF
  have hr_4 := hr
  refine zC hf en_81 rfl (notes_opened_ok w_ h_w_ hc hr_4) ?_
  rintro _ w ⟨b_4,p_3,c_3,rfl,hc⟩
  refine ⟨_,rfl,fun a hf => ?_⟩
  refine sp 7 hf rfl fun a hf => zT h ?_
  refine wp_seq_k fun K17 h17 => ?_
  have hj17 : ∀ (e_4 : Int) a w,Has 53 a [(0,.slice w__p w_.length w__c),(1,.slice revised_p revised.length revised_c),(6,pq b_1),(8,pq b_2),(9,pq b_4),(10,.slice p_3 r_4.1.length c_3),(11,i6 e_4)] → Ctx G (.box b_4 [.slice w__p w_.length w__c] 165::.row p_3 c_3 (r_4.1.map encI_i64) 3 1::.box b_2 (catc [] 30 encB (fun _ => false) []) 106::.box b_1 (catc [] 30 encB (fun _ => false) []) 106::Lf) w → notes_asked_j17 N w_ revised r_4 e_4 = some res → K17 a w := by
   repeat (clear hF)
   repeat (clear hc)
   repeat (clear hf)
   intro e_4 a w hf hc hF
   unfold notes_asked_j17 at hF
   refine h17 _ _ ?_
   refine wp_seq_k fun K18 h18 => zS fun K h => sp 2 hf rfl fun a hf => zT h ?_
   refine zI hf rfl hF ?_ ?_ <;> clear hF <;> intro hF
   ·refine wp_seq_k fun K20 h20 => regionE (fun θ => [⟨none,none,6,pq b_1⟩,⟨none,none,8,pq b_2⟩,⟨none,none,11,i6 e_4⟩,⟨some 0,none,27,.agg (catc [] 30 encB (fun _ => false) []).toArray⟩,⟨some 1,none,28,i6 e_4⟩,⟨some 2,none,4,.pointer none⟩,⟨some 3,none,5,.slice none 0 0⟩,⟨some 5,none,7,i6 e_4⟩]) (fun E θ => .box b_4 [.slice w__p w_.length w__c] 165::.row p_3 c_3 (r_4.1.map encI_i64) 3 1::.box b_2 (catc [] 30 encB (fun _ => false) []) 106::.box b_1 (catc [] 30 encB (fun _ => false) []) 106::Lf) [] (fun a w => Has 53 a [(6,pq b_1),(4,.pointer none),(5,.slice none 0 0),(7,i6 e_4)] ∧ Ctx G (.box b_4 [.slice w__p w_.length w__c] 165::.row p_3 c_3 (r_4.1.map encI_i64) 3 1::.box b_2 (catc [] 30 encB (fun _ => false) []) 106::.box b_1 (catc [] 30 encB (fun _ => false) []) 106::Lf) w) follows_mx (by kernel_rfl) (by kernel_rfl) (HasE.of hf ⟨rfl,rfl,rfl,trivial,trivial,trivial,trivial,trivial,trivial⟩) hc ⟨?_,?_,?_,?_,?_,?_,trivial⟩ ?_ ?_
    ·intro E θ a w hD hi hp he hc
     have hf := he.h0.mT he 1 rfl
     refine zE hf hc rfl (eLdN (vs := (catc [] 30 encB (fun _ => false) [])) ag_106 rfl (one_encA_106 _).1 (cells_box (n := 30) m2 (takeW (one_encA_106 _).1))) fun a w hf hc => zD θ he hi hf 3 rfl rfl rfl hc
    ·intro E θ a w hD hi hp he hc
     have hf := he.h0.mT he 2 rfl
     refine sp 1 hf rfl fun a hf => zD θ he hi hf 4 rfl rfl rfl hc
    ·intro E θ a w hD hi hp he hc
     have hf := he.h0
     refine sp 1 hf rfl fun a hf => zD θ he hi hf 5 rfl rfl rfl hc
    ·intro E θ a w hD hi hp he hc
     have hf := he.h0
     refine sp 1 hf rfl fun a hf => zD θ he hi hf 6 rfl rfl rfl hc
    ·intro E θ a w hD hi hp he hc
     have e0 := hp.o 0 rfl
     have hf := (he.h0.mT he 0 rfl).mP he 3 rfl e0
     refine stStA (enc := encA_106) (f := (fun _ => false)) (z := (fun _ => false)) hf hc rfl rfl rfl one_encA_106 sz_106 u3 fun w hc => zG θ he hi hf rfl hc
    ·intro E θ a w hD hi hp he hc
     have e1 := hp.o 1 rfl
     have hf := he.h0.mP he 4 rfl e1
     refine sp 1 hf rfl fun a hf => zD θ he hi hf 7 rfl rfl rfl hc
    ·intro E θ a w hall he hc
     have hf := he.h0
     have e2 := hall 2 rfl
     have e3 := hall 3 rfl
     have e5 := hall 5 rfl
     replace hf := hf.more he 7 rfl (onP e5)
     replace hf := hf.more he 6 rfl (onP e3)
     replace hf := hf.more he 5 rfl (onP e2)
     replace hf := hf.more he 0 rfl (onT)
     exact ⟨hf.kp rfl,hc⟩
    rintro a w ⟨hf,hc⟩
    refine h20 _ _ ?_
    refine wp_ret ?_
    refine xThenR ?_
    obtain rfl := sj hF
    replace hc := hc.nilRow 3 1
    replace hc := ((hc.drop k3).drop k2).drop k1
    exact fnOut4 (by simp) rfl Tryz.results66 hf hc (show look _ 4 = _ from rfl) (show look _ 5 = _ from rfl) (rv_cellN (vs := (catc [] 30 encB (fun _ => false) [])) ag_106 rfl (one_encA_106 _).1 (cells_box (n := 30) m1 (takeW (one_encA_106 _).1))) (show look _ 7 = _ from rfl) ⟨none,0,rfl,(hc.drop k1)⟩
   ·refine wp_skip ?_
    refine h18 _ _ ?_
    refine wp_seq_k fun K21 h21 => zS fun K h => sp 1 hf rfl fun a hf => zP hf rfl (pLenS Tryz.underlying35 rfl) fun a hf => sp 1 hf rfl fun a hf => zT h ?_
    refine wp_block ?_
    obtain ⟨x23,hx23,hF⟩ := bnd_some hF
    let S23 : (Int × (Nat → Bool)) → Act → World → Prop := (fun (zz : Int × (Nat → Bool)) a w => ∃ (p_4 : Option Addr) (c_4 : Nat),Has 53 a [(0,.slice w__p w_.length w__c),(1,.slice revised_p revised.length revised_c),(6,pq b_1),(8,pq b_2),(9,pq b_4),(10,.slice p_4 r_4.1.length c_4),(29,.slice p_4 r_4.1.length c_4),(30,i6 ((r_4.1.length : Nat) : Int)),(31,i6 zz.1)] ∧ Ctx G (.box b_4 [.slice w__p w_.length w__c] 165::.row p_4 c_4 (r_4.1.map encI_i64) 3 1::.box b_2 (catc [] 30 encB zz.2 []) 106::.box b_1 (catc [] 30 encB (fun _ => false) []) 106::Lf) w)
    have hr23 : ∀ (zz : Int × (Nat → Bool)) a w,x23 = .go zz → S23 zz a w → K21 a w := by
     rintro ⟨x_2,x_3⟩ a w rfl ⟨p_4,c_4,hf,hc⟩
     replace hF := exK_go hF
     refine h21 _ _ ?_
     refine wp_seq_k fun K24 h24 => regionE (fun θ => [⟨none,none,6,pq b_1⟩,⟨none,none,8,pq b_2⟩,⟨none,none,9,pq b_4⟩,⟨none,none,10,.slice p_4 r_4.1.length c_4⟩,⟨some 0,none,50,pq b_4⟩,⟨some 1,none,51,.slice p_4 r_4.1.length c_4⟩,⟨some 2,none,52,.agg (catc [] 30 encB x_3 []).toArray⟩,⟨some 3,none,4,pq b_4⟩,⟨some 4,none,5,.slice p_4 r_4.1.length c_4⟩,⟨some 6,none,7,i6 0⟩]) (fun E θ => .box b_4 [.slice w__p w_.length w__c] 165::.row p_4 c_4 (r_4.1.map encI_i64) 3 1::.box b_2 (catc [] 30 encB x_3 []) 106::(bif E 5 then .box b_1 (catc [] 30 encB x_3 []) 106 else .box b_1 (catc [] 30 encB (fun _ => false) []) 106)::Lf) [] (fun a w => Has 53 a [(6,pq b_1),(4,pq b_4),(5,.slice p_4 r_4.1.length c_4),(7,i6 0)] ∧ Ctx G (.box b_4 [.slice w__p w_.length w__c] 165::.row p_4 c_4 (r_4.1.map encI_i64) 3 1::.box b_2 (catc [] 30 encB x_3 []) 106::.box b_1 (catc [] 30 encB x_3 []) 106::Lf) w) follows_mx (by kernel_rfl) (by kernel_rfl) (HasE.of hf ⟨rfl,rfl,rfl,rfl,trivial,trivial,trivial,trivial,trivial,trivial,trivial⟩) hc ⟨?_,?_,?_,?_,?_,?_,?_,trivial⟩ ?_ ?_
     ·intro E θ a w hD hi hp he hc
      have hf := he.h0.mT he 2 rfl
      refine sp 1 hf rfl fun a hf => zD θ he hi hf 4 rfl rfl rfl hc
     ·intro E θ a w hD hi hp he hc
      have hf := he.h0.mT he 3 rfl
      refine sp 1 hf rfl fun a hf => zD θ he hi hf 5 rfl rfl rfl hc
     ·intro E θ a w hD hi hp he hc
      have hf := he.h0.mT he 1 rfl
      refine zE hf hc rfl (eLdN (vs := (catc [] 30 encB x_3 [])) ag_106 rfl (one_encA_106 _).1 (cells_box (n := 30) m2 (takeW (one_encA_106 _).1))) fun a w hf hc => zD θ he hi hf 6 rfl rfl rfl hc
     ·intro E θ a w hD hi hp he hc
      have e0 := hp.o 0 rfl
      have hf := he.h0.mP he 4 rfl e0
      refine sp 1 hf rfl fun a hf => zD θ he hi hf 7 rfl rfl rfl hc
     ·intro E θ a w hD hi hp he hc
      have e1 := hp.o 1 rfl
      have hf := he.h0.mP he 5 rfl e1
      refine sp 1 hf rfl fun a hf => zD θ he hi hf 8 rfl rfl rfl hc
     ·intro E θ a w hD hi hp he hc
      have e2 := hp.o 2 rfl
      try dsimp only at hc
      rw [hi] at hc
      have hf := (he.h0.mT he 0 rfl).mP he 6 rfl e2
      refine stStA (enc := encA_106) (f := (fun _ => false)) (z := x_3) hf hc rfl rfl rfl one_encA_106 sz_106 u3 fun w hc => zG θ he hi hf rfl ?_
      try dsimp only
      rw [updE_self E 5]
      exact hc
     ·intro E θ a w hD hi hp he hc
      have hf := he.h0
      refine sp 1 hf rfl fun a hf => zD θ he hi hf 9 rfl rfl rfl hc
     ·intro E θ a w hall he hc
      have hf := he.h0
      have e3 := hall 3 rfl
      have e4 := hall 4 rfl
      have e5 := hall 5 rfl
      have e6 := hall 6 rfl
      replace hf := hf.more he 9 rfl (onP e6)
      replace hf := hf.more he 8 rfl (onP e4)
      replace hf := hf.more he 7 rfl (onP e3)
      replace hf := hf.more he 0 rfl (onT)
      try dsimp only at hc
      rw [e5] at hc
      exact ⟨hf.kp rfl,hc⟩
     rintro a w ⟨hf,hc⟩
     refine h24 _ _ ?_
     refine wp_ret ?_
     obtain rfl := sj hF
     replace hc := hc.drop k2
     exact fnOut4 (by simp) rfl Tryz.results66 hf hc (show look _ 4 = _ from rfl) (show look _ 5 = _ from rfl) (rv_cellN (vs := (catc [] 30 encB x_3 [])) ag_106 rfl (one_encA_106 _).1 (cells_box (n := 30) m2 (takeW (one_encA_106 _).1))) (show look _ 7 = _ from rfl) ⟨b_4,p_4,c_4,rfl,(hc.drop k2)⟩
    have ho23 : ∀ r,x23 = .out r → r = res := by
     rintro r rfl
     exact sj hF
    refine cLoop N (loopW (S := S23) (x := x23) ?_ N (0,(fun _ => false)) _ _ ⟨p_3,c_3,hf.kp rfl,hc⟩ hx23)
    clear hF hf hc
    rintro ⟨x_2,x_3⟩ st23 a w KB23 ⟨p_4,c_4,hf,hc⟩ hF hfin23 hK23
    unfold notes_asked_b23 at hF
    refine zS fun K h => sp 1 hf rfl fun a hf => zT h ?_
    refine wp_seq_k fun K26 h26 => zI hf rfl hF ?_ ?_ <;> clear hF <;> intro hF
    ·refine wp_skip ?_
     refine h26 _ _ ?_
     refine wp_seq_k fun K27 h27 => wp_block ?_
     refine zS fun K h => ?_
     obtain ⟨e_5,he_5,hF⟩ := bnd_some hF
     obtain ⟨g_1,rfl,qa_2,qr_2⟩ := row_atm hc m1 he_5
     refine zP hf rfl (pIA Tryz.underlying35 sz_3 rfl rfl qa_2) fun a hf => zE hf hc rfl (eLd1 sc_3 rfl (cell_row (sz := 1) (i := x_2.toNat) (j := 0) m1 qr_2 rfl)) fun a w hf hc => sp 1 hf rfl fun a hf => zT h ?_
     refine cReg ?_
     refine sp 3 hf rfl fun a hf => ?_
     obtain ⟨r_5,hr_5,hF⟩ := bnd_some hF
     refine zQ (v := .bool r_5) hf hc en_83 rfl (fun w hc => slices_Contains_Lint_int_ok revised e_5 h_revised hc hr_5) fun a w hf hc => sp 1 hf rfl fun a hf => ?_
     obtain ⟨t_2,ht_2,hF⟩ := bnd_some hF
     refine stCc 8 (fun a => Has 53 a [(0,.slice w__p w_.length w__c),(1,.slice revised_p revised.length revised_c),(6,pq b_1),(8,pq b_2),(9,pq b_4),(10,.slice (some ⟨g_1,0,none⟩) r_4.1.length c_4),(29,.slice (some ⟨g_1,0,none⟩) r_4.1.length c_4),(30,i6 ((r_4.1.length : Nat) : Int)),(31,i6 x_2),(13,i6 e_5),(35,i6 e_5),(36,.slice revised_p revised.length revised_c),(37,i6 e_5),(38,.bool r_5),(39,.bool r_5),(47,.bool t_2)]) hc ?_ ?_
     ·cases hb : r_5
      ·rw [hb] at hf
       try rw [hb] at hc
       have hF := condF hb ht_2
       refine sp 2 hf rfl fun a hf => ?_
       obtain ⟨e_6,he_6,hF⟩ := bnd_some hF
       obtain ⟨b_5,o_1,hd_1,qa_3,qp_1,qr_3⟩ := h_w_.atm he_6
       refine zP hf rfl (pIA Tryz.underlying89 sz_110 rfl rfl qa_3) fun a hf => zP hf rfl (pFA fa_110_0 rfl) fun a hf => zE hf hc rfl (eLd1 sc_35 rfl (cell_pc (j := 0) qp_1 rfl)) fun a w hf hc => zP hf rfl (pMF (us := [pq b_2]) rfl rfl) fun a hf => ?_
       obtain ⟨r_6,hr_6,hF⟩ := bnd_some hF
       refine zQ (v := .bool r_6) hf hc en_54 rfl (fun w hc => (slices_ContainsFunc_Lint_int_s5_ok e_6.Of x_3 qr_3 (hc.pick k2) hr_6).mono fun e w h => ⟨h.1,(h.2.unpick k2)⟩) fun a w hf hc => sp 1 hf rfl fun a hf => ?_
       obtain rfl := sj hF
       exact cNil ⟨hf.kp rfl,hc⟩
      ·rw [hb] at hf
       try rw [hb] at hc
       have hF := condT hb ht_2
       obtain rfl := sj hF
       refine stS hf rfl rfl rfl fun a hf => stS hf rfl rfl rfl fun a hf => stS hf rfl rfl rfl fun a hf => stS hf rfl rfl rfl fun a hf => stS hf rfl rfl rfl fun a hf => stS hf rfl rfl rfl fun a hf => stS hf rfl rfl rfl fun a hf => sp 1 hf rfl fun a hf => cNil ⟨hf.kp rfl,hc⟩
     intro a w ⟨hf,hc⟩
     obtain ⟨un_1,hun_1,hF⟩ := bnd_some hF
     refine zP hf rfl (pIAA Tryz.underlying106 sz_4 rfl rfl (inR_spec hun_1).1 (inR_spec hun_1).2) fun a hf => stAr (vs := [.bool t_2]) (o' := 0) (z := t_2) hf hc rfl rfl rfl rfl sz_4 rfl (fun x => (one_encB x).1) rfl hun_1 rfl rfl u2 fun w hc => cNil ?_
     refine h27 _ _ ?_
     refine cReg ?_
     refine sp 2 hf rfl fun a hf => cNil ?_
     exact hK23 (W (x_2 + 1),(setF x_3 e_5.toNat t_2)) _ _ (sj hF).symm ⟨(some ⟨g_1,0,none⟩),c_4,hf.kp rfl,hc⟩
    ·refine wp_exit ?_
     refine xThen ?_
     refine xThen ?_
     have he := sj hF
     rw [← he] at hfin23
     refine cHit ?_
     exact hr23 _ _ _ hfin23 ⟨p_4,c_4,hf.kp rfl,hc⟩
  refine zS fun K h => sp 2 hf rfl fun a hf => zT h ?_
  refine zI hf rfl hF ?_ ?_ <;> clear hF <;> intro hF
  ·refine cReg ?_
   refine sp 2 hf rfl fun a hf => ?_
   obtain ⟨r_7,hr_7,hF⟩ := bnd_some hF
   refine zQ (v := i6 r_7) hf hc en_82 rfl (fun w hc => notes_listed_ok w_ revised h_w_ h_revised hc hr_7) fun a w hf hc => sp 1 hf rfl fun a hf => cNil ?_
   exact hj17 r_7 _ _  (hf.kp rfl) hc hF
  ·refine wp_skip ?_
   exact hj17 r_4.2 _ _  (hf.kp rfl) hc hF

def notes_Stale_j10 (N : Nat) (x : Int) (out_1 : List Int) : Option (Step ((List Int) × Int) ((List Int) × Int)) :=
 some (.cont (out_1,W (x + 1)))
def notes_Stale_b6 (N : Nat) (w_ : List notes_Work) (r : (List Int) × (Nat → Bool) × Int) (out : List Int) (x : Int) : Option (Step ((List Int) × Int) ((List Int) × Int)) :=
 cond (decide (x < ((w_.length : Nat) : Int)))
 (Option.bind (cond (r.2.2 == 0) (Option.bind (inR x 30) fun un =>
 some (r.2.1 x.toNat)) (some false)) fun t_1 =>
 cond t_1
 (Option.bind (room ((out ++ [x])).length) fun un_1 =>
 notes_Stale_j10 N x (out ++ [x]))
 (notes_Stale_j10 N x out))
 (some (.brk (out,x)))
def notes_Stale_j20 (N : Nat) (x_1 : Int) (out_3 : List Int) : Option (Step ((List Int) × Int) ((List Int) × Int)) :=
 some (.cont (out_3,W (x_1 + 1)))
def notes_Stale_b16 (N : Nat) (w_ : List notes_Work) (r_1 : (List Int) × (Nat → Bool) × Int) (out_2 : List Int) (x_1 : Int) : Option (Step ((List Int) × Int) ((List Int) × Int)) :=
 cond (decide (x_1 < ((w_.length : Nat) : Int)))
 (Option.bind (cond (r_1.2.2 == 0) (Option.bind (inR x_1 30) fun un_2 =>
 some (r_1.2.1 x_1.toNat)) (some false)) fun t_2 =>
 cond t_2
 (Option.bind (room ((out_2 ++ [x_1])).length) fun un_3 =>
 notes_Stale_j20 N x_1 (out_2 ++ [x_1]))
 (notes_Stale_j20 N x_1 out_2))
 (some (.brk (out_2,x_1)))
def notes_Stale (N : Nat) (w_ : List notes_Work) (revised : List Int) : Option ((List Int) × Int) :=
 Option.bind (notes_asked N w_ revised) (sumK (fun r => Option.bind (loopO (fun s6 => notes_Stale_b6 N w_ r s6.1 s6.2) N (([] : List Int),0)) fun x6 =>
 exK x6 (fun s6 => some (s6.1,r.2.2)) some)
 (fun r_1 => Option.bind (loopO (fun s16 => notes_Stale_b16 N w_ r_1 s16.1 s16.2) N (([] : List Int),0)) fun x16 =>
 exK x16 (fun s16 => some (s16.1,r_1.2.2)) some))
theorem notes_Stale_ok {N : Nat} {G : Pers} {Lf : List Ent} {w : World} (w_ : List notes_Work) (revised : List Int) {w__p : Option Addr} {w__c : Nat} {revised_p : Option Addr} {revised_c : Nat} (h_w_ : RdT kd_110 G 3 w__p w__c w_) (h_revised : Rd G 1 revised_p revised_c (revised.map encI_i64)) (hc : Ctx G (Lf) w) {res : (List Int) × Int} (hF : notes_Stale N w_ revised = some res) : Calls Tryz.prog 43 #[.slice w__p w_.length w__c,.slice revised_p revised.length revised_c] w (fun e w => ∃ (p'1 : Option Addr) (c'1 : Nat),e = .returned (.tuple #[.slice p'1 res.1.length c'1,i6 res.2]) ∧ Ctx G (.row p'1 c'1 (res.1.map encI_i64) 3 1::Lf) w) := by
 unfold notes_Stale at hF
 refine fnIn Tryz.func43 rfl Tryz.ntmps43 rfl fun a hf => zS fun K h => sp 2 hf rfl fun a hf => zT h ?_
 refine zS fun K h => sp 2 hf rfl fun a hf => ?_
 obtain ⟨r,hr,hF⟩ := bnd_some hF
 cases r with
 | inl r =>
  replace hF := sumKl hF
  refine zC hf en_66 rfl (notes_asked_ok w_ revised h_w_ h_revised hc hr) ?_
  rintro _ w ⟨p_1,c_1,rfl,hc⟩
  refine ⟨_,rfl,fun a hf => ?_⟩
  refine sp 5 hf rfl fun a hf => stAl (cs := (catc [] 30 encB (fun _ => false) [])) hf hc rfl rfl zr_106 rfl fun b_1 a w hf hc => sp 2 hf rfl fun a hf => stStA (enc := encA_106) (f := (fun _ => false)) (z := r.2.1) hf hc rfl rfl rfl one_encA_106 sz_106 u0 fun w hc => sp 1 hf rfl fun a hf => zT h ?_
  refine zS fun K h => sp 1 hf rfl fun a hf => zT h ?_
  refine wp_seq_k fun K4 h4 => zS fun K h => sp 1 hf rfl fun a hf => zP hf rfl (pLenS Tryz.underlying89 rfl) fun a hf => sp 1 hf rfl fun a hf => zT h ?_
  refine wp_block ?_
  obtain ⟨x6,hx6,hF⟩ := bnd_some hF
  let S6 : ((List Int) × Int) → Act → World → Prop := (fun (zz : (List Int) × Int) a w => ∃ (p_2 : Option Addr) (c_2 : Nat),Has 39 a [(8,pq b_1),(9,i6 r.2.2),(10,.slice p_2 zz.1.length c_2),(21,i6 ((w_.length : Nat) : Int)),(22,i6 zz.2)] ∧ Ctx G (.row p_2 c_2 (zz.1.map encI_i64) 3 1::.box b_1 (catc [] 30 encB r.2.1 []) 106::Lf) w)
  have hr6 : ∀ (zz : (List Int) × Int) a w,x6 = .go zz → S6 zz a w → K4 a w := by
   rintro ⟨out,x⟩ a w rfl ⟨p_2,c_2,hf,hc⟩
   replace hF := exK_go hF
   refine h4 _ _ ?_
   refine zS fun K h => sp 4 hf rfl fun a hf => zT h ?_
   refine wp_ret ?_
   obtain rfl := sj hF
   replace hc := hc.drop k1
   exact zO2 Tryz.results43 hf rfl rfl ⟨p_2,c_2,rfl,hc⟩
  have ho6 : ∀ r,x6 = .out r → r = res := by
   rintro r rfl
   exact sj hF
  replace hc := hc.nilRow 3 1
  replace hc := hc.drop k2
  refine cLoop N (loopW (S := S6) (x := x6) ?_ N (([] : List Int),0) _ _ ⟨none,0,hf.kp rfl,hc⟩ hx6)
  clear hF hf hc
  rintro ⟨out,x⟩ st6 a w KB6 ⟨p_2,c_2,hf,hc⟩ hF hfin6 hK6
  unfold notes_Stale_b6 at hF
  refine zS fun K h => sp 1 hf rfl fun a hf => zT h ?_
  refine wp_seq_k fun K9 h9 => zI hf rfl hF ?_ ?_ <;> clear hF <;> intro hF
  ·refine wp_skip ?_
   refine h9 _ _ ?_
   refine wp_seq_k fun K10 h10 => ?_
   have hj10 : ∀ (out_1 : List Int) (p_3 : Option Addr) (c_3 : Nat) a w,Has 39 a [(8,pq b_1),(9,i6 r.2.2),(10,.slice p_3 out_1.length c_3),(21,i6 ((w_.length : Nat) : Int)),(22,i6 x)] → Ctx G (.row p_3 c_3 (out_1.map encI_i64) 3 1::.box b_1 (catc [] 30 encB r.2.1 []) 106::Lf) w → notes_Stale_j10 N x out_1 = some st6 → K10 a w := by
    repeat (clear hF)
    repeat (clear hc)
    repeat (clear hf)
    intro out_1 p_3 c_3 a w hf hc hF
    unfold notes_Stale_j10 at hF
    refine h10 _ _ ?_
    refine cReg ?_
    refine sp 2 hf rfl fun a hf => cNil ?_
    exact hK6 (out_1,W (x + 1)) _ _ (sj hF).symm ⟨p_3,c_3,hf.kp rfl,hc⟩
   refine wp_block ?_
   refine zS fun K h => sp 2 hf rfl fun a hf => zT h ?_
   refine zS fun K h => sp 3 hf rfl fun a hf => ?_
   obtain ⟨t_1,ht_1,hF⟩ := bnd_some hF
   refine stCc 4 (fun a => Has 39 a [(8,pq b_1),(9,i6 r.2.2),(10,.slice p_2 out.length c_2),(21,i6 ((w_.length : Nat) : Int)),(22,i6 x),(11,i6 x),(25,i6 r.2.2),(26,.bool (r.2.2 == 0)),(27,.bool (r.2.2 == 0)),(31,.bool t_1)]) hc ?_ ?_
   ·cases hb : (r.2.2 == 0)
    ·rw [hb] at hf
     have hF := condF hb ht_1
     obtain rfl := sj hF
     refine stS hf rfl rfl rfl fun a hf => stS hf rfl rfl rfl fun a hf => stS hf rfl rfl rfl fun a hf => sp 1 hf rfl fun a hf => cNil ⟨hf.kp rfl,hc⟩
    ·rw [hb] at hf
     have hF := condT hb ht_1
     refine sp 1 hf rfl fun a hf => ?_
     obtain ⟨un,hun,hF⟩ := bnd_some hF
     refine zP hf rfl (pIAA Tryz.underlying106 sz_4 rfl rfl (inR_spec hun).1 (inR_spec hun).2) fun a hf => zE hf hc rfl (eLd1 sc_4 rfl (cell_arr (j := 0) m1 (fun x => (one_encB x).1) rfl hun rfl)) fun a w hf hc => sp 1 hf rfl fun a hf => ?_
     obtain rfl := sj hF
     exact cNil ⟨hf.kp rfl,hc⟩
   intro a w ⟨hf,hc⟩
   refine zT h ?_
   refine zI hf rfl hF ?_ ?_ <;> clear hF <;> intro hF
   ·refine cReg ?_
    refine sp 2 hf rfl fun a hf => stBS (rows := ([x] : List Int).map encI_i64) (vs := [(0,i6 x)]) hf hc rfl rfl sl_35 rfl ⟨rfl,rfl,rfl,trivial⟩ rfl rfl fun b_2 a w hf hc => ?_
    obtain ⟨un_1,hun_1,hF⟩ := bnd_some hF
    refine stApm (xs := out) (ys := ([x] : List Int)) hf hc rfl rfl sl_35 rfl rfl rfl rfl rfl one_encI_i64 (src_row hc m0) (fun _ _ => u1) (by simpa using room_spec hun_1) fun p_4 c_4 a w hf hc => sp 1 hf rfl fun a hf => cNil ?_
    replace hc := hc.drop k0
    exact hj10 (out ++ [x]) p_4 c_4 _ _  (hf.kp rfl) hc hF
   ·refine wp_skip ?_
    exact hj10 out p_2 c_2 _ _  (hf.kp rfl) hc hF
  ·refine wp_exit ?_
   refine xThen ?_
   refine xThen ?_
   have he := sj hF
   rw [← he] at hfin6
   refine cHit ?_
   exact hr6 _ _ _ hfin6 ⟨p_2,c_2,hf.kp rfl,hc⟩
 | inr r_1 =>
  replace hF := sumKr hF
  have hr_1 := hr
  refine zC hf en_66 rfl (notes_asked_ok w_ revised h_w_ h_revised hc hr_1) ?_
  rintro _ w ⟨b_3,p_5,c_5,rfl,hc⟩
  refine ⟨_,rfl,fun a hf => ?_⟩
  refine sp 5 hf rfl fun a hf => stAl (cs := (catc [] 30 encB (fun _ => false) [])) hf hc rfl rfl zr_106 rfl fun b_4 a w hf hc => sp 2 hf rfl fun a hf => stStA (enc := encA_106) (f := (fun _ => false)) (z := r_1.2.1) hf hc rfl rfl rfl one_encA_106 sz_106 u0 fun w hc => sp 1 hf rfl fun a hf => zT h ?_
  refine zS fun K h => sp 1 hf rfl fun a hf => zT h ?_
  refine wp_seq_k fun K14 h14 => zS fun K h => sp 1 hf rfl fun a hf => zP hf rfl (pLenS Tryz.underlying89 rfl) fun a hf => sp 1 hf rfl fun a hf => zT h ?_
  refine wp_block ?_
  obtain ⟨x16,hx16,hF⟩ := bnd_some hF
  let S16 : ((List Int) × Int) → Act → World → Prop := (fun (zz : (List Int) × Int) a w => ∃ (p_6 : Option Addr) (c_6 : Nat),Has 39 a [(8,pq b_4),(9,i6 r_1.2.2),(10,.slice p_6 zz.1.length c_6),(21,i6 ((w_.length : Nat) : Int)),(22,i6 zz.2)] ∧ Ctx G (.row p_6 c_6 (zz.1.map encI_i64) 3 1::.box b_4 (catc [] 30 encB r_1.2.1 []) 106::Lf) w)
  have hr16 : ∀ (zz : (List Int) × Int) a w,x16 = .go zz → S16 zz a w → K14 a w := by
   rintro ⟨out_2,x_1⟩ a w rfl ⟨p_6,c_6,hf,hc⟩
   replace hF := exK_go hF
   refine h14 _ _ ?_
   refine zS fun K h => sp 4 hf rfl fun a hf => zT h ?_
   refine wp_ret ?_
   obtain rfl := sj hF
   replace hc := hc.drop k1
   exact zO2 Tryz.results43 hf rfl rfl ⟨p_6,c_6,rfl,hc⟩
  have ho16 : ∀ r,x16 = .out r → r = res := by
   rintro r rfl
   exact sj hF
  replace hc := hc.nilRow 3 1
  replace hc := (hc.drop k3).drop k2
  refine cLoop N (loopW (S := S16) (x := x16) ?_ N (([] : List Int),0) _ _ ⟨none,0,hf.kp rfl,hc⟩ hx16)
  clear hF hf hc
  rintro ⟨out_2,x_1⟩ st16 a w KB16 ⟨p_6,c_6,hf,hc⟩ hF hfin16 hK16
  unfold notes_Stale_b16 at hF
  refine zS fun K h => sp 1 hf rfl fun a hf => zT h ?_
  refine wp_seq_k fun K19 h19 => zI hf rfl hF ?_ ?_ <;> clear hF <;> intro hF
  ·refine wp_skip ?_
   refine h19 _ _ ?_
   refine wp_seq_k fun K20 h20 => ?_
   have hj20 : ∀ (out_3 : List Int) (p_7 : Option Addr) (c_7 : Nat) a w,Has 39 a [(8,pq b_4),(9,i6 r_1.2.2),(10,.slice p_7 out_3.length c_7),(21,i6 ((w_.length : Nat) : Int)),(22,i6 x_1)] → Ctx G (.row p_7 c_7 (out_3.map encI_i64) 3 1::.box b_4 (catc [] 30 encB r_1.2.1 []) 106::Lf) w → notes_Stale_j20 N x_1 out_3 = some st16 → K20 a w := by
    repeat (clear hF)
    repeat (clear hc)
    repeat (clear hf)
    intro out_3 p_7 c_7 a w hf hc hF
    unfold notes_Stale_j20 at hF
    refine h20 _ _ ?_
    refine cReg ?_
    refine sp 2 hf rfl fun a hf => cNil ?_
    exact hK16 (out_3,W (x_1 + 1)) _ _ (sj hF).symm ⟨p_7,c_7,hf.kp rfl,hc⟩
   refine wp_block ?_
   refine zS fun K h => sp 2 hf rfl fun a hf => zT h ?_
   refine zS fun K h => sp 3 hf rfl fun a hf => ?_
   obtain ⟨t_2,ht_2,hF⟩ := bnd_some hF
   refine stCc 4 (fun a => Has 39 a [(8,pq b_4),(9,i6 r_1.2.2),(10,.slice p_6 out_2.length c_6),(21,i6 ((w_.length : Nat) : Int)),(22,i6 x_1),(11,i6 x_1),(25,i6 r_1.2.2),(26,.bool (r_1.2.2 == 0)),(27,.bool (r_1.2.2 == 0)),(31,.bool t_2)]) hc ?_ ?_
   ·cases hb : (r_1.2.2 == 0)
    ·rw [hb] at hf
     have hF := condF hb ht_2
     obtain rfl := sj hF
     refine stS hf rfl rfl rfl fun a hf => stS hf rfl rfl rfl fun a hf => stS hf rfl rfl rfl fun a hf => sp 1 hf rfl fun a hf => cNil ⟨hf.kp rfl,hc⟩
    ·rw [hb] at hf
     have hF := condT hb ht_2
     refine sp 1 hf rfl fun a hf => ?_
     obtain ⟨un_2,hun_2,hF⟩ := bnd_some hF
     refine zP hf rfl (pIAA Tryz.underlying106 sz_4 rfl rfl (inR_spec hun_2).1 (inR_spec hun_2).2) fun a hf => zE hf hc rfl (eLd1 sc_4 rfl (cell_arr (j := 0) m1 (fun x => (one_encB x).1) rfl hun_2 rfl)) fun a w hf hc => sp 1 hf rfl fun a hf => ?_
     obtain rfl := sj hF
     exact cNil ⟨hf.kp rfl,hc⟩
   intro a w ⟨hf,hc⟩
   refine zT h ?_
   refine zI hf rfl hF ?_ ?_ <;> clear hF <;> intro hF
   ·refine cReg ?_
    refine sp 2 hf rfl fun a hf => stBS (rows := ([x_1] : List Int).map encI_i64) (vs := [(0,i6 x_1)]) hf hc rfl rfl sl_35 rfl ⟨rfl,rfl,rfl,trivial⟩ rfl rfl fun b_5 a w hf hc => ?_
    obtain ⟨un_3,hun_3,hF⟩ := bnd_some hF
    refine stApm (xs := out_2) (ys := ([x_1] : List Int)) hf hc rfl rfl sl_35 rfl rfl rfl rfl rfl one_encI_i64 (src_row hc m0) (fun _ _ => u1) (by simpa using room_spec hun_3) fun p_8 c_8 a w hf hc => sp 1 hf rfl fun a hf => cNil ?_
    replace hc := hc.drop k0
    exact hj20 (out_2 ++ [x_1]) p_8 c_8 _ _  (hf.kp rfl) hc hF
   ·refine wp_skip ?_
    exact hj20 out_2 p_6 c_6 _ _  (hf.kp rfl) hc hF
  ·refine wp_exit ?_
   refine xThen ?_
   refine xThen ?_
   have he := sj hF
   rw [← he] at hfin16
   refine cHit ?_
   exact hr16 _ _ _ hfin16 ⟨p_6,c_6,hf.kp rfl,hc⟩

def law11_Two (N : Nat)  : Option (crew_Roster) :=
 some (⟨([([0,1] : List Int),([0,1] : List Int)] : List (List Int)),([(⟨1,([1,0] : List Int)⟩ : crew_Station),(⟨1,([0,1] : List Int)⟩ : crew_Station)] : List crew_Station)⟩ : crew_Roster)
theorem law11_Two_ok {N : Nat} {G : Pers} {Lf : List Ent} {w : World}    (hc : Ctx G (Lf) w) {res : crew_Roster} (hF : law11_Two N = some res) : Calls Tryz.prog 46 #[] w (fun e w => ∃ (p'1 : Option Addr) (tcq'1 : TabH) (p'2 : Option Addr) (tcq'2 : TabH),e = .returned (.agg #[.slice p'1 res.People.length tcq'1.1,.slice p'2 res.Stations.length tcq'2.1]) ∧ Ctx G (.row p'1 tcq'1.1 ((tabR tcq'1.2 res.People).map (Kd.v kd_35)) 35 1::tabI kd_35 (tabR tcq'1.2 res.People)::.row p'2 tcq'2.1 ((tabR tcq'2.2 res.Stations).map (Kd.v kd_118)) 118 2::tabI kd_118 (tabR tcq'2.2 res.Stations)::Lf) w) := by
 unfold law11_Two at hF
 refine fnIn Tryz.func46 rfl Tryz.ntmps46 rfl fun a hf => zS fun K h => zA hf hc zr_95 rfl fun b_1 a w hf hc => zT h ?_
 refine wp_seq_k fun K2 h2 => cReg ?_
 refine stBS (rows := ([0,1] : List Int).map encI_i64) (vs := [(0,i6 0),(1,i6 1)]) hf hc rfl rfl sl_35 rfl ⟨rfl,rfl,rfl,rfl,rfl,rfl,trivial⟩ rfl rfl fun b_2 a w hf hc => stBS (rows := ([0,1] : List Int).map encI_i64) (vs := [(0,i6 0),(1,i6 1)]) hf hc rfl rfl sl_35 rfl ⟨rfl,rfl,rfl,rfl,rfl,rfl,trivial⟩ rfl rfl fun b_3 a w hf hc => stBS (rows := ([(((some ⟨b_2,0,none⟩),2),([0,1] : List Int)),(((some ⟨b_3,0,none⟩),2),([0,1] : List Int))] : List (H2 × (List Int))).map (Kd.v kd_35)) (vs := [(0,.slice (some ⟨b_2,0,none⟩) 2 2),(1,.slice (some ⟨b_3,0,none⟩) 2 2)]) hf hc rfl rfl sl_92 rfl ⟨rfl,rfl,rfl,rfl,rfl,rfl,trivial⟩ rfl rfl fun b_4 a w hf hc => stBS (rows := ([1,0] : List Int).map encI_i64) (vs := [(0,i6 1),(1,i6 0)]) hf hc rfl rfl sl_35 rfl ⟨rfl,rfl,rfl,rfl,rfl,rfl,trivial⟩ rfl rfl fun b_5 a w hf hc => zP hf rfl (pBuildS (cells := [i6 1,.slice (some ⟨b_5,0,none⟩) 2 2]) bt_118 rfl rfl) fun a hf => stBS (rows := ([0,1] : List Int).map encI_i64) (vs := [(0,i6 0),(1,i6 1)]) hf hc rfl rfl sl_35 rfl ⟨rfl,rfl,rfl,rfl,rfl,rfl,trivial⟩ rfl rfl fun b_6 a w hf hc => zP hf rfl (pBuildS (cells := [i6 1,.slice (some ⟨b_6,0,none⟩) 2 2]) bt_118 rfl rfl) fun a hf => stBS (rows := ([(((some ⟨b_5,0,none⟩),2),(⟨1,([1,0] : List Int)⟩ : crew_Station)),(((some ⟨b_6,0,none⟩),2),(⟨1,([0,1] : List Int)⟩ : crew_Station))] : List (H2 × crew_Station)).map (Kd.v kd_118)) (vs := [(0,.agg #[i6 1,.slice (some ⟨b_5,0,none⟩) 2 2]),(1,.agg #[i6 1,.slice (some ⟨b_6,0,none⟩) 2 2])]) hf hc rfl rfl sl_93 rfl ⟨rfl,rfl,rfl,rfl,rfl,rfl,trivial⟩ rfl rfl fun b_7 a w hf hc => zP hf rfl (pBuildS (cells := [.slice (some ⟨b_4,0,none⟩) 2 2,.slice (some ⟨b_7,0,none⟩) 2 2]) bt_95 rfl rfl) fun a hf => zW hf hc sz_95 u6 rfl fun w hc => cNil ?_
 replace hc := ((hc.pick k1).pick k2).pick k2
 obtain ⟨hsq,hc⟩ := tab_mk (K := kd_118) ([(((some ⟨b_5,0,none⟩),2),(⟨1,([1,0] : List Int)⟩ : crew_Station)),(((some ⟨b_6,0,none⟩),2),(⟨1,([0,1] : List Int)⟩ : crew_Station))] : List (H2 × crew_Station)) hc
 replace hc : Ctx G (.row (some ⟨b_7,0,none⟩) 2 ((tabR hsq ([(⟨1,([1,0] : List Int)⟩ : crew_Station),(⟨1,([0,1] : List Int)⟩ : crew_Station)] : List crew_Station)).map (Kd.v kd_118)) 118 2::tabI kd_118 (tabR hsq ([(⟨1,([1,0] : List Int)⟩ : crew_Station),(⟨1,([0,1] : List Int)⟩ : crew_Station)] : List crew_Station))::.row (some ⟨b_4,0,none⟩) 2 (([(((some ⟨b_2,0,none⟩),2),([0,1] : List Int)),(((some ⟨b_3,0,none⟩),2),([0,1] : List Int))] : List (H2 × (List Int))).map (Kd.v kd_35)) 35 1::.row (some ⟨b_3,0,none⟩) 2 (([0,1] : List Int).map encI_i64) 3 1::.row (some ⟨b_2,0,none⟩) 2 (([0,1] : List Int).map encI_i64) 3 1::.box b_1 [.slice (some ⟨b_4,0,none⟩) 2 2,.slice (some ⟨b_7,0,none⟩) 2 2] 95::Lf) w := hc
 replace hc := ((((hc.pick k1).pick k1).pick k3).pick k4).pick k4
 obtain ⟨hsq_1,hc⟩ := tab_mk (K := kd_35) ([(((some ⟨b_2,0,none⟩),2),([0,1] : List Int)),(((some ⟨b_3,0,none⟩),2),([0,1] : List Int))] : List (H2 × (List Int))) hc
 replace hc : Ctx G (.row (some ⟨b_4,0,none⟩) 2 ((tabR hsq_1 ([([0,1] : List Int),([0,1] : List Int)] : List (List Int))).map (Kd.v kd_35)) 35 1::tabI kd_35 (tabR hsq_1 ([([0,1] : List Int),([0,1] : List Int)] : List (List Int)))::.row (some ⟨b_7,0,none⟩) 2 ((tabR hsq ([(⟨1,([1,0] : List Int)⟩ : crew_Station),(⟨1,([0,1] : List Int)⟩ : crew_Station)] : List crew_Station)).map (Kd.v kd_118)) 118 2::tabI kd_118 (tabR hsq ([(⟨1,([1,0] : List Int)⟩ : crew_Station),(⟨1,([0,1] : List Int)⟩ : crew_Station)] : List crew_Station))::.box b_1 [.slice (some ⟨b_4,0,none⟩) 2 2,.slice (some ⟨b_7,0,none⟩) 2 2] 95::Lf) w := hc
 refine h2 _ _ ?_
 refine wp_ret ?_
 obtain rfl := sj hF
 exact fnOut1 (by simp) rfl Tryz.results46 hf hc (rv_cellN (vs := [.slice (some ⟨b_4,0,none⟩) 2 2,.slice (some ⟨b_7,0,none⟩) 2 2]) ag_95 rfl rfl (cells_box (n := 2) m4 rfl)) ⟨(some ⟨b_4,0,none⟩),(2,hsq_1),(some ⟨b_7,0,none⟩),(2,hsq),rfl,(hc.drop k4)⟩

def crew_Check_1_1 (s_ : Int) (x : crew_Roster) : Bool :=
 (crew_in s_ 0 (W (((x.Stations.length : Nat) : Int) - 1)))
theorem crew_Check_1_1_ok {G : Pers} {Lf : List Ent} {w : World} (s_ : Int) (x : crew_Roster) {b_ : Nat} {x_People_p : Option Addr} {x_People_c : Nat} {x_Stations_p : Option Addr} {x_Stations_c : Nat} (h_x_People : RdT kd_35 G 1 x_People_p x_People_c x.People) (h_x_Stations : RdT kd_118 G 2 x_Stations_p x_Stations_c x.Stations) (hc : Ctx G (.box b_ [.slice x_People_p x.People.length x_People_c,.slice x_Stations_p x.Stations.length x_Stations_c] 95::Lf) w) {res : Bool} (hF : crew_Check_1_1 s_ x = res) : Calls Tryz.prog 115 #[i6 s_,pq b_] w (fun e w => e = .returned (.bool res) ∧ Ctx G (.box b_ [.slice x_People_p x.People.length x_People_c,.slice x_Stations_p x.Stations.length x_Stations_c] 95::Lf) w) := by
 unfold crew_Check_1_1 at hF
 refine fnIn Tryz.func115 rfl Tryz.ntmps115 rfl fun a hf => zS fun K h => sp 1 hf rfl fun a hf => zT h ?_
 refine zS fun K h => sp 1 hf rfl fun a hf => zP hf rfl (pFA fa_95_1 rfl) fun a hf => zL hf hc sc_93 m0 rfl fun a w hf hc => zP hf rfl (pLenS Tryz.underlying93 rfl) fun a hf => sp 1 hf rfl fun a hf => zQ (v := .bool (crew_in s_ 0 (W (((x.Stations.length : Nat) : Int) - 1)))) hf hc en_56 rfl (fun w hc => crew_in_ok s_ 0 (W (((x.Stations.length : Nat) : Int) - 1)) hc rfl) fun a w hf hc => sp 1 hf rfl fun a hf => zT h ?_
 refine wp_ret ?_
 obtain rfl := hF
 exact zO1 Tryz.results115 hf rfl ⟨rfl,hc⟩

def crew_every_int_1 (x : Int) (x_1 : crew_Roster) : Bool :=
 (!(crew_Check_1_1 x x_1))
theorem crew_every_int_1_ok {G : Pers} {Lf : List Ent} {w : World} (x : Int) (x_1 : crew_Roster) {b_ : Nat} {b__1 : Nat} {x_1_People_p : Option Addr} {x_1_People_c : Nat} {x_1_Stations_p : Option Addr} {x_1_Stations_c : Nat} (h_x_1_People : RdT kd_35 G 1 x_1_People_p x_1_People_c x_1.People) (h_x_1_Stations : RdT kd_118 G 2 x_1_Stations_p x_1_Stations_c x_1.Stations) (hc : Ctx G (.box b_ [.func (.func 115) #[] #[pq b__1]] 72::.box b__1 [.slice x_1_People_p x_1.People.length x_1_People_c,.slice x_1_Stations_p x_1.Stations.length x_1_Stations_c] 95::Lf) w) {res : Bool} (hF : crew_every_int_1 x x_1 = res) : Calls Tryz.prog 138 #[i6 x,pq b_] w (fun e w => e = .returned (.bool res) ∧ Ctx G (.box b_ [.func (.func 115) #[] #[pq b__1]] 72::.box b__1 [.slice x_1_People_p x_1.People.length x_1_People_c,.slice x_1_Stations_p x_1.Stations.length x_1_Stations_c] 95::Lf) w) := by
 unfold crew_every_int_1 at hF
 refine fnIn Tryz.func138 rfl Tryz.ntmps138 rfl fun a hf => zS fun K h => sp 1 hf rfl fun a hf => zT h ?_
 refine zS fun K h => zL hf hc sc_72 m0 rfl fun a w hf hc => sp 1 hf rfl fun a hf => zQ (v := .bool (crew_Check_1_1 x x_1)) hf hc en_115 rfl (fun w hc => (crew_Check_1_1_ok x x_1 h_x_1_People h_x_1_Stations (hc.pick k1) rfl).mono fun e w h => ⟨h.1,(h.2.unpick k1)⟩) fun a w hf hc => sp 2 hf rfl fun a hf => zT h ?_
 refine wp_ret ?_
 obtain rfl := hF
 exact zO1 Tryz.results138 hf rfl ⟨rfl,hc⟩

def slices_IndexFunc_Lint_int_s8_b4 (N : Nat) (s_ : List Int) (f_ : crew_Roster) (x : Int) : Option (Step (Int) (Int)) :=
 cond (decide (x < ((s_.length : Nat) : Int)))
 (Option.bind (getI s_ x) fun e_1 =>
 cond (crew_every_int_1 e_1 f_)
 (some (.ret x))
 (some (.cont (W (x + 1)))))
 (some (.brk x))
def slices_IndexFunc_Lint_int_s8 (N : Nat) (s_ : List Int) (f_ : crew_Roster) : Option (Int) :=
 Option.bind (loopO (fun s4 => slices_IndexFunc_Lint_int_s8_b4 N s_ f_ s4) N 0) fun x4 =>
 exK x4 (fun s4 => some (-1)) some
theorem slices_IndexFunc_Lint_int_s8_ok {N : Nat} {G : Pers} {Lf : List Ent} {w : World} (s_ : List Int) (f_ : crew_Roster) {s__p : Option Addr} {s__c : Nat} {b_ : Nat} {b__1 : Nat} {f__People_p : Option Addr} {f__People_c : Nat} {f__Stations_p : Option Addr} {f__Stations_c : Nat} (h_s_ : Rd G 1 s__p s__c (s_.map encI_i64)) (h_f__People : RdT kd_35 G 1 f__People_p f__People_c f_.People) (h_f__Stations : RdT kd_118 G 2 f__Stations_p f__Stations_c f_.Stations) (hc : Ctx G (.box b_ [.func (.func 115) #[] #[pq b__1]] 72::.box b__1 [.slice f__People_p f_.People.length f__People_c,.slice f__Stations_p f_.Stations.length f__Stations_c] 95::Lf) w) {res : Int} (hF : slices_IndexFunc_Lint_int_s8 N s_ f_ = some res) : Calls Tryz.prog 38 #[.slice s__p s_.length s__c,.func (.func 138) #[] #[pq b_]] w (fun e w => e = .returned (i6 res) ∧ Ctx G (.box b_ [.func (.func 115) #[] #[pq b__1]] 72::.box b__1 [.slice f__People_p f_.People.length f__People_c,.slice f__Stations_p f_.Stations.length f__Stations_c] 95::Lf) w) := by
 unfold slices_IndexFunc_Lint_int_s8 at hF
 refine fnIn Tryz.func38 rfl Tryz.ntmps38 rfl fun a hf => zS fun K h => sp 1 hf rfl fun a hf => zT h ?_
 refine wp_seq_k fun K2 h2 => zS fun K h => sp 1 hf rfl fun a hf => zP hf rfl (pLenS Tryz.underlying35 rfl) fun a hf => sp 1 hf rfl fun a hf => zT h ?_
 refine wp_block ?_
 obtain ⟨x4,hx4,hF⟩ := bnd_some hF
 let S4 : Int → Act → World → Prop := (fun (zz : Int) a w => Has 19 a [(0,.slice s__p s_.length s__c),(1,.func (.func 138) #[] #[pq b_]),(7,i6 ((s_.length : Nat) : Int)),(8,i6 zz)] ∧ Ctx G (.box b_ [.func (.func 115) #[] #[pq b__1]] 72::.box b__1 [.slice f__People_p f_.People.length f__People_c,.slice f__Stations_p f_.Stations.length f__Stations_c] 95::Lf) w)
 have hr4 : ∀ (zz : Int) a w,x4 = .go zz → S4 zz a w → K2 a w := by
  rintro x a w rfl ⟨hf,hc⟩
  replace hF := exK_go hF
  refine h2 _ _ ?_
  refine zS fun K h => sp 1 hf rfl fun a hf => zT h ?_
  refine wp_ret ?_
  obtain rfl := sj hF
  exact zO1 Tryz.results38 hf rfl ⟨rfl,hc⟩
 have ho4 : ∀ r,x4 = .out r → r = res := by
  rintro r rfl
  exact sj hF
 refine cLoop N (loopW (S := S4) (x := x4) ?_ N 0 _ _ ⟨hf.kp rfl,hc⟩ hx4)
 clear hF hf hc
 rintro x st4 a w KB4 ⟨hf,hc⟩ hF hfin4 hK4
 unfold slices_IndexFunc_Lint_int_s8_b4 at hF
 refine zS fun K h => sp 1 hf rfl fun a hf => zT h ?_
 refine wp_seq_k fun K7 h7 => zI hf rfl hF ?_ ?_ <;> clear hF <;> intro hF
 ·refine wp_skip ?_
  refine h7 _ _ ?_
  refine wp_seq_k fun K8 h8 => wp_block ?_
  refine zS fun K h => sp 2 hf rfl fun a hf => zT h ?_
  refine zS fun K h => sp 3 hf rfl fun a hf => ?_
  obtain ⟨e_1,he_1,hF⟩ := bnd_some hF
  obtain ⟨b_1,o,qa,qp⟩ := h_s_.atm he_1
  refine zP hf rfl (pIA Tryz.underlying35 sz_3 rfl rfl qa) fun a hf => zE hf hc rfl (eLd1 sc_3 rfl (cell_pc (j := 0) qp rfl)) fun a w hf hc => zQ (v := .bool (crew_every_int_1 e_1 f_)) hf hc en_138 rfl (fun w hc => (crew_every_int_1_ok e_1 f_ h_f__People h_f__Stations ((hc.pick k1).pick k1) rfl).mono fun e w h => ⟨h.1,((h.2.unpick k1).unpick k1)⟩) fun a w hf hc => zT h ?_
  refine zI hf rfl hF ?_ ?_ <;> clear hF <;> intro hF
  ·refine zS fun K h => sp 2 hf rfl fun a hf => zT h ?_
   refine wp_ret ?_
   refine xBlkR ?_
   refine xThenR ?_
   refine xThenR ?_
   have he := sj hF
   rw [← he] at hfin4
   replace hF := ho4 _ hfin4
   refine xBlkR ?_
   refine xThenR ?_
   obtain rfl := hF
   exact zO1 Tryz.results38 hf rfl ⟨rfl,hc⟩
  ·refine wp_skip ?_
   refine h8 _ _ ?_
   refine cReg ?_
   refine sp 2 hf rfl fun a hf => cNil ?_
   exact hK4 (W (x + 1)) _ _ (sj hF).symm ⟨hf.kp rfl,hc⟩
 ·refine wp_exit ?_
  refine xThen ?_
  refine xThen ?_
  have he := sj hF
  rw [← he] at hfin4
  refine cHit ?_
  exact hr4 _ _ _ hfin4 ⟨hf.kp rfl,hc⟩

def slices_ContainsFunc_Lint_int_s6 (N : Nat) (s_ : List Int) (f_ : crew_Roster) : Option (Bool) :=
 Option.bind (slices_IndexFunc_Lint_int_s8 N s_ f_) fun r =>
 some (decide (0 ≤ r))
theorem slices_ContainsFunc_Lint_int_s6_ok {N : Nat} {G : Pers} {Lf : List Ent} {w : World} (s_ : List Int) (f_ : crew_Roster) {s__p : Option Addr} {s__c : Nat} {b_ : Nat} {b__1 : Nat} {f__People_p : Option Addr} {f__People_c : Nat} {f__Stations_p : Option Addr} {f__Stations_c : Nat} (h_s_ : Rd G 1 s__p s__c (s_.map encI_i64)) (h_f__People : RdT kd_35 G 1 f__People_p f__People_c f_.People) (h_f__Stations : RdT kd_118 G 2 f__Stations_p f__Stations_c f_.Stations) (hc : Ctx G (.box b_ [.func (.func 115) #[] #[pq b__1]] 72::.box b__1 [.slice f__People_p f_.People.length f__People_c,.slice f__Stations_p f_.Stations.length f__Stations_c] 95::Lf) w) {res : Bool} (hF : slices_ContainsFunc_Lint_int_s6 N s_ f_ = some res) : Calls Tryz.prog 54 #[.slice s__p s_.length s__c,.func (.func 138) #[] #[pq b_]] w (fun e w => e = .returned (.bool res) ∧ Ctx G (.box b_ [.func (.func 115) #[] #[pq b__1]] 72::.box b__1 [.slice f__People_p f_.People.length f__People_c,.slice f__Stations_p f_.Stations.length f__Stations_c] 95::Lf) w) := by
 unfold slices_ContainsFunc_Lint_int_s6 at hF
 refine fnIn Tryz.func54 rfl Tryz.ntmps54 rfl fun a hf => zS fun K h => sp 1 hf rfl fun a hf => zT h ?_
 refine zS fun K h => sp 2 hf rfl fun a hf => ?_
 obtain ⟨r,hr,hF⟩ := bnd_some hF
 refine zQ (v := i6 r) hf hc en_38 rfl (fun w hc => (slices_IndexFunc_Lint_int_s8_ok s_ f_ h_s_ h_f__People h_f__Stations ((hc.pick k1).pick k1) hr).mono fun e w h => ⟨h.1,((h.2.unpick k1).unpick k1)⟩) fun a w hf hc => sp 2 hf rfl fun a hf => zT h ?_
 refine wp_ret ?_
 obtain rfl := sj hF
 exact zO1 Tryz.results54 hf rfl ⟨rfl,hc⟩

def crew_every_int (N : Nat) (l : List Int) (so : crew_Roster) : Option (Bool) :=
 Option.bind (slices_ContainsFunc_Lint_int_s6 N l so) fun r =>
 some (!r)
theorem crew_every_int_ok {N : Nat} {G : Pers} {Lf : List Ent} {w : World} (l : List Int) (so : crew_Roster) {l_p : Option Addr} {l_c : Nat} {b_ : Nat} {so_People_p : Option Addr} {so_People_c : Nat} {so_Stations_p : Option Addr} {so_Stations_c : Nat} (h_l : Rd G 1 l_p l_c (l.map encI_i64)) (h_so_People : RdT kd_35 G 1 so_People_p so_People_c so.People) (h_so_Stations : RdT kd_118 G 2 so_Stations_p so_Stations_c so.Stations) (hc : Ctx G (.box b_ [.slice so_People_p so.People.length so_People_c,.slice so_Stations_p so.Stations.length so_Stations_c] 95::Lf) w) {res : Bool} (hF : crew_every_int N l so = some res) : Calls Tryz.prog 114 #[.slice l_p l.length l_c,.func (.func 115) #[] #[pq b_]] w (fun e w => e = .returned (.bool res) ∧ Ctx G (.box b_ [.slice so_People_p so.People.length so_People_c,.slice so_Stations_p so.Stations.length so_Stations_c] 95::Lf) w) := by
 unfold crew_every_int at hF
 refine fnIn Tryz.func114 rfl Tryz.ntmps114 rfl fun a hf => zS fun K h => zB hf hc rfl fun b_1 a w hf hc => sp 1 hf rfl fun a hf => zT h ?_
 refine zS fun K h => sp 1 hf rfl fun a hf => zP hf rfl (pMF (us := [pq b_1]) rfl rfl) fun a hf => ?_
 obtain ⟨r,hr,hF⟩ := bnd_some hF
 refine zQ (v := .bool r) hf hc en_54 rfl (fun w hc => (slices_ContainsFunc_Lint_int_s6_ok l so h_l h_so_People h_so_Stations ((hc.pick k1).pick k1) hr).mono fun e w h => ⟨h.1,((h.2.unpick k1).unpick k1)⟩) fun a w hf hc => sp 2 hf rfl fun a hf => zT h ?_
 refine wp_ret ?_
 obtain rfl := sj hF
 replace hc := hc.drop k0
 exact zO1 Tryz.results114 hf rfl ⟨rfl,hc⟩

def crew_Check_1 (N : Nat) (l : List Int) (x : crew_Roster) : Option (Bool) :=
 Option.bind (crew_every_int N l (⟨x.People,x.Stations⟩ : crew_Roster)) fun r =>
 some r
theorem crew_Check_1_ok {N : Nat} {G : Pers} {Lf : List Ent} {w : World} (l : List Int) (x : crew_Roster) {l_p : Option Addr} {l_c : Nat} {b_ : Nat} {x_People_p : Option Addr} {x_People_c : Nat} {x_Stations_p : Option Addr} {x_Stations_c : Nat} (h_l : Rd G 1 l_p l_c (l.map encI_i64)) (h_x_People : RdT kd_35 G 1 x_People_p x_People_c x.People) (h_x_Stations : RdT kd_118 G 2 x_Stations_p x_Stations_c x.Stations) (hc : Ctx G (.box b_ [.slice x_People_p x.People.length x_People_c,.slice x_Stations_p x.Stations.length x_Stations_c] 95::Lf) w) {res : Bool} (hF : crew_Check_1 N l x = some res) : Calls Tryz.prog 113 #[.slice l_p l.length l_c,pq b_] w (fun e w => e = .returned (.bool res) ∧ Ctx G (.box b_ [.slice x_People_p x.People.length x_People_c,.slice x_Stations_p x.Stations.length x_Stations_c] 95::Lf) w) := by
 unfold crew_Check_1 at hF
 refine fnIn Tryz.func113 rfl Tryz.ntmps113 rfl fun a hf => zS fun K h => sp 1 hf rfl fun a hf => zT h ?_
 refine zS fun K h => sp 1 hf rfl fun a hf => zP hf rfl (pMF (us := [pq b_]) rfl rfl) fun a hf => ?_
 obtain ⟨r,hr,hF⟩ := bnd_some hF
 refine zQ (v := .bool r) hf hc en_114 rfl (fun w hc => (crew_every_int_ok l (⟨x.People,x.Stations⟩ : crew_Roster) h_l h_x_People h_x_Stations (hc.pick k0) hr).mono fun e w h => ⟨h.1,(h.2.unpick k0)⟩) fun a w hf hc => sp 1 hf rfl fun a hf => zT h ?_
 refine wp_ret ?_
 obtain rfl := sj hF
 exact zO1 Tryz.results113 hf rfl ⟨rfl,hc⟩

def crew_every_Lint_1 (N : Nat) (x : List Int) (x_1 : crew_Roster) : Option (Bool) :=
 Option.bind (crew_Check_1 N x x_1) fun r =>
 some (!r)
theorem crew_every_Lint_1_ok {N : Nat} {G : Pers} {Lf : List Ent} {w : World} (x : List Int) (x_1 : crew_Roster) {x_p : Option Addr} {x_c : Nat} {b_ : Nat} {b__1 : Nat} {x_1_People_p : Option Addr} {x_1_People_c : Nat} {x_1_Stations_p : Option Addr} {x_1_Stations_c : Nat} (h_x : Rd G 1 x_p x_c (x.map encI_i64)) (h_x_1_People : RdT kd_35 G 1 x_1_People_p x_1_People_c x_1.People) (h_x_1_Stations : RdT kd_118 G 2 x_1_Stations_p x_1_Stations_c x_1.Stations) (hc : Ctx G (.box b_ [.func (.func 113) #[] #[pq b__1]] 168::.box b__1 [.slice x_1_People_p x_1.People.length x_1_People_c,.slice x_1_Stations_p x_1.Stations.length x_1_Stations_c] 95::Lf) w) {res : Bool} (hF : crew_every_Lint_1 N x x_1 = some res) : Calls Tryz.prog 137 #[.slice x_p x.length x_c,pq b_] w (fun e w => e = .returned (.bool res) ∧ Ctx G (.box b_ [.func (.func 113) #[] #[pq b__1]] 168::.box b__1 [.slice x_1_People_p x_1.People.length x_1_People_c,.slice x_1_Stations_p x_1.Stations.length x_1_Stations_c] 95::Lf) w) := by
 unfold crew_every_Lint_1 at hF
 refine fnIn Tryz.func137 rfl Tryz.ntmps137 rfl fun a hf => zS fun K h => sp 1 hf rfl fun a hf => zT h ?_
 refine zS fun K h => zL hf hc sc_168 m0 rfl fun a w hf hc => sp 1 hf rfl fun a hf => ?_
 obtain ⟨r,hr,hF⟩ := bnd_some hF
 refine zQ (v := .bool r) hf hc en_113 rfl (fun w hc => (crew_Check_1_ok x x_1 h_x h_x_1_People h_x_1_Stations (hc.pick k1) hr).mono fun e w h => ⟨h.1,(h.2.unpick k1)⟩) fun a w hf hc => sp 2 hf rfl fun a hf => zT h ?_
 refine wp_ret ?_
 obtain rfl := sj hF
 exact zO1 Tryz.results137 hf rfl ⟨rfl,hc⟩

def slices_IndexFunc_LLint_Lint_b4 (N : Nat) (s_ : List (List Int)) (f_ : crew_Roster) (x : Int) : Option (Step (Int) (Int)) :=
 cond (decide (x < ((s_.length : Nat) : Int)))
 (Option.bind (getI s_ x) fun e_1 =>
 Option.bind (crew_every_Lint_1 N e_1 f_) fun r =>
 cond r
 (some (.ret x))
 (some (.cont (W (x + 1)))))
 (some (.brk x))
def slices_IndexFunc_LLint_Lint (N : Nat) (s_ : List (List Int)) (f_ : crew_Roster) : Option (Int) :=
 Option.bind (loopO (fun s4 => slices_IndexFunc_LLint_Lint_b4 N s_ f_ s4) N 0) fun x4 =>
 exK x4 (fun s4 => some (-1)) some
theorem slices_IndexFunc_LLint_Lint_ok {N : Nat} {G : Pers} {Lf : List Ent} {w : World} (s_ : List (List Int)) (f_ : crew_Roster) {s__p : Option Addr} {s__c : Nat} {b_ : Nat} {b__1 : Nat} {f__People_p : Option Addr} {f__People_c : Nat} {f__Stations_p : Option Addr} {f__Stations_c : Nat} (h_s_ : RdT kd_35 G 1 s__p s__c s_) (h_f__People : RdT kd_35 G 1 f__People_p f__People_c f_.People) (h_f__Stations : RdT kd_118 G 2 f__Stations_p f__Stations_c f_.Stations) (hc : Ctx G (.box b_ [.func (.func 113) #[] #[pq b__1]] 168::.box b__1 [.slice f__People_p f_.People.length f__People_c,.slice f__Stations_p f_.Stations.length f__Stations_c] 95::Lf) w) {res : Int} (hF : slices_IndexFunc_LLint_Lint N s_ f_ = some res) : Calls Tryz.prog 146 #[.slice s__p s_.length s__c,.func (.func 137) #[] #[pq b_]] w (fun e w => e = .returned (i6 res) ∧ Ctx G (.box b_ [.func (.func 113) #[] #[pq b__1]] 168::.box b__1 [.slice f__People_p f_.People.length f__People_c,.slice f__Stations_p f_.Stations.length f__Stations_c] 95::Lf) w) := by
 unfold slices_IndexFunc_LLint_Lint at hF
 refine fnIn Tryz.func146 rfl Tryz.ntmps146 rfl fun a hf => zS fun K h => sp 1 hf rfl fun a hf => zT h ?_
 refine wp_seq_k fun K2 h2 => zS fun K h => sp 1 hf rfl fun a hf => zP hf rfl (pLenS Tryz.underlying92 rfl) fun a hf => sp 1 hf rfl fun a hf => zT h ?_
 refine wp_block ?_
 obtain ⟨x4,hx4,hF⟩ := bnd_some hF
 let S4 : Int → Act → World → Prop := (fun (zz : Int) a w => Has 19 a [(0,.slice s__p s_.length s__c),(1,.func (.func 137) #[] #[pq b_]),(7,i6 ((s_.length : Nat) : Int)),(8,i6 zz)] ∧ Ctx G (.box b_ [.func (.func 113) #[] #[pq b__1]] 168::.box b__1 [.slice f__People_p f_.People.length f__People_c,.slice f__Stations_p f_.Stations.length f__Stations_c] 95::Lf) w)
 have hr4 : ∀ (zz : Int) a w,x4 = .go zz → S4 zz a w → K2 a w := by
  rintro x a w rfl ⟨hf,hc⟩
  replace hF := exK_go hF
  refine h2 _ _ ?_
  refine zS fun K h => sp 1 hf rfl fun a hf => zT h ?_
  refine wp_ret ?_
  obtain rfl := sj hF
  exact zO1 Tryz.results146 hf rfl ⟨rfl,hc⟩
 have ho4 : ∀ r,x4 = .out r → r = res := by
  rintro r rfl
  exact sj hF
 refine cLoop N (loopW (S := S4) (x := x4) ?_ N 0 _ _ ⟨hf.kp rfl,hc⟩ hx4)
 clear hF hf hc
 rintro x st4 a w KB4 ⟨hf,hc⟩ hF hfin4 hK4
 unfold slices_IndexFunc_LLint_Lint_b4 at hF
 refine zS fun K h => sp 1 hf rfl fun a hf => zT h ?_
 refine wp_seq_k fun K7 h7 => zI hf rfl hF ?_ ?_ <;> clear hF <;> intro hF
 ·refine wp_skip ?_
  refine h7 _ _ ?_
  refine wp_seq_k fun K8 h8 => wp_block ?_
  refine zS fun K h => sp 2 hf rfl fun a hf => zT h ?_
  refine zS fun K h => sp 3 hf rfl fun a hf => ?_
  obtain ⟨e_1,he_1,hF⟩ := bnd_some hF
  obtain ⟨b_1,o,hd,qa,qp,qr⟩ := h_s_.atm he_1
  refine zP hf rfl (pIA Tryz.underlying92 sz_35 rfl rfl qa) fun a hf => zE hf hc rfl (eLd1 sc_35 rfl (cell_pc (j := 0) qp rfl)) fun a w hf hc => ?_
  obtain ⟨r,hr,hF⟩ := bnd_some hF
  refine zQ (v := .bool r) hf hc en_137 rfl (fun w hc => (crew_every_Lint_1_ok e_1 f_ qr h_f__People h_f__Stations ((hc.pick k1).pick k1) hr).mono fun e w h => ⟨h.1,((h.2.unpick k1).unpick k1)⟩) fun a w hf hc => zT h ?_
  refine zI hf rfl hF ?_ ?_ <;> clear hF <;> intro hF
  ·refine zS fun K h => sp 2 hf rfl fun a hf => zT h ?_
   refine wp_ret ?_
   refine xBlkR ?_
   refine xThenR ?_
   refine xThenR ?_
   have he := sj hF
   rw [← he] at hfin4
   replace hF := ho4 _ hfin4
   refine xBlkR ?_
   refine xThenR ?_
   obtain rfl := hF
   exact zO1 Tryz.results146 hf rfl ⟨rfl,hc⟩
  ·refine wp_skip ?_
   refine h8 _ _ ?_
   refine cReg ?_
   refine sp 2 hf rfl fun a hf => cNil ?_
   exact hK4 (W (x + 1)) _ _ (sj hF).symm ⟨hf.kp rfl,hc⟩
 ·refine wp_exit ?_
  refine xThen ?_
  refine xThen ?_
  have he := sj hF
  rw [← he] at hfin4
  refine cHit ?_
  exact hr4 _ _ _ hfin4 ⟨hf.kp rfl,hc⟩

def slices_ContainsFunc_LLint_Lint (N : Nat) (s_ : List (List Int)) (f_ : crew_Roster) : Option (Bool) :=
 Option.bind (slices_IndexFunc_LLint_Lint N s_ f_) fun r =>
 some (decide (0 ≤ r))
theorem slices_ContainsFunc_LLint_Lint_ok {N : Nat} {G : Pers} {Lf : List Ent} {w : World} (s_ : List (List Int)) (f_ : crew_Roster) {s__p : Option Addr} {s__c : Nat} {b_ : Nat} {b__1 : Nat} {f__People_p : Option Addr} {f__People_c : Nat} {f__Stations_p : Option Addr} {f__Stations_c : Nat} (h_s_ : RdT kd_35 G 1 s__p s__c s_) (h_f__People : RdT kd_35 G 1 f__People_p f__People_c f_.People) (h_f__Stations : RdT kd_118 G 2 f__Stations_p f__Stations_c f_.Stations) (hc : Ctx G (.box b_ [.func (.func 113) #[] #[pq b__1]] 168::.box b__1 [.slice f__People_p f_.People.length f__People_c,.slice f__Stations_p f_.Stations.length f__Stations_c] 95::Lf) w) {res : Bool} (hF : slices_ContainsFunc_LLint_Lint N s_ f_ = some res) : Calls Tryz.prog 136 #[.slice s__p s_.length s__c,.func (.func 137) #[] #[pq b_]] w (fun e w => e = .returned (.bool res) ∧ Ctx G (.box b_ [.func (.func 113) #[] #[pq b__1]] 168::.box b__1 [.slice f__People_p f_.People.length f__People_c,.slice f__Stations_p f_.Stations.length f__Stations_c] 95::Lf) w) := by
 unfold slices_ContainsFunc_LLint_Lint at hF
 refine fnIn Tryz.func136 rfl Tryz.ntmps136 rfl fun a hf => zS fun K h => sp 1 hf rfl fun a hf => zT h ?_
 refine zS fun K h => sp 2 hf rfl fun a hf => ?_
 obtain ⟨r,hr,hF⟩ := bnd_some hF
 refine zQ (v := i6 r) hf hc en_146 rfl (fun w hc => (slices_IndexFunc_LLint_Lint_ok s_ f_ h_s_ h_f__People h_f__Stations ((hc.pick k1).pick k1) hr).mono fun e w h => ⟨h.1,((h.2.unpick k1).unpick k1)⟩) fun a w hf hc => sp 2 hf rfl fun a hf => zT h ?_
 refine wp_ret ?_
 obtain rfl := sj hF
 exact zO1 Tryz.results136 hf rfl ⟨rfl,hc⟩

def crew_every_Lint (N : Nat) (l : List (List Int)) (so : crew_Roster) : Option (Bool) :=
 Option.bind (slices_ContainsFunc_LLint_Lint N l so) fun r =>
 some (!r)
theorem crew_every_Lint_ok {N : Nat} {G : Pers} {Lf : List Ent} {w : World} (l : List (List Int)) (so : crew_Roster) {l_p : Option Addr} {l_c : Nat} {b_ : Nat} {so_People_p : Option Addr} {so_People_c : Nat} {so_Stations_p : Option Addr} {so_Stations_c : Nat} (h_l : RdT kd_35 G 1 l_p l_c l) (h_so_People : RdT kd_35 G 1 so_People_p so_People_c so.People) (h_so_Stations : RdT kd_118 G 2 so_Stations_p so_Stations_c so.Stations) (hc : Ctx G (.box b_ [.slice so_People_p so.People.length so_People_c,.slice so_Stations_p so.Stations.length so_Stations_c] 95::Lf) w) {res : Bool} (hF : crew_every_Lint N l so = some res) : Calls Tryz.prog 112 #[.slice l_p l.length l_c,.func (.func 113) #[] #[pq b_]] w (fun e w => e = .returned (.bool res) ∧ Ctx G (.box b_ [.slice so_People_p so.People.length so_People_c,.slice so_Stations_p so.Stations.length so_Stations_c] 95::Lf) w) := by
 unfold crew_every_Lint at hF
 refine fnIn Tryz.func112 rfl Tryz.ntmps112 rfl fun a hf => zS fun K h => zB hf hc rfl fun b_1 a w hf hc => sp 1 hf rfl fun a hf => zT h ?_
 refine zS fun K h => sp 1 hf rfl fun a hf => zP hf rfl (pMF (us := [pq b_1]) rfl rfl) fun a hf => ?_
 obtain ⟨r,hr,hF⟩ := bnd_some hF
 refine zQ (v := .bool r) hf hc en_136 rfl (fun w hc => (slices_ContainsFunc_LLint_Lint_ok l so h_l h_so_People h_so_Stations ((hc.pick k1).pick k1) hr).mono fun e w h => ⟨h.1,((h.2.unpick k1).unpick k1)⟩) fun a w hf hc => sp 2 hf rfl fun a hf => zT h ?_
 refine wp_ret ?_
 obtain rfl := sj hF
 replace hc := hc.drop k0
 exact zO1 Tryz.results112 hf rfl ⟨rfl,hc⟩

def crew_Check_2_1 (p_ : Int) (x : crew_Roster) : Bool :=
 (crew_in p_ 0 (W (((x.People.length : Nat) : Int) - 1)))
theorem crew_Check_2_1_ok {G : Pers} {Lf : List Ent} {w : World} (p_ : Int) (x : crew_Roster) {b_ : Nat} {x_People_p : Option Addr} {x_People_c : Nat} {x_Stations_p : Option Addr} {x_Stations_c : Nat} (h_x_People : RdT kd_35 G 1 x_People_p x_People_c x.People) (h_x_Stations : RdT kd_118 G 2 x_Stations_p x_Stations_c x.Stations) (hc : Ctx G (.box b_ [.slice x_People_p x.People.length x_People_c,.slice x_Stations_p x.Stations.length x_Stations_c] 95::Lf) w) {res : Bool} (hF : crew_Check_2_1 p_ x = res) : Calls Tryz.prog 118 #[i6 p_,pq b_] w (fun e w => e = .returned (.bool res) ∧ Ctx G (.box b_ [.slice x_People_p x.People.length x_People_c,.slice x_Stations_p x.Stations.length x_Stations_c] 95::Lf) w) := by
 unfold crew_Check_2_1 at hF
 refine fnIn Tryz.func118 rfl Tryz.ntmps118 rfl fun a hf => zS fun K h => sp 1 hf rfl fun a hf => zT h ?_
 refine zS fun K h => sp 1 hf rfl fun a hf => zP hf rfl (pFA fa_95_0 rfl) fun a hf => zL hf hc sc_92 m0 rfl fun a w hf hc => zP hf rfl (pLenS Tryz.underlying92 rfl) fun a hf => sp 1 hf rfl fun a hf => zQ (v := .bool (crew_in p_ 0 (W (((x.People.length : Nat) : Int) - 1)))) hf hc en_56 rfl (fun w hc => crew_in_ok p_ 0 (W (((x.People.length : Nat) : Int) - 1)) hc rfl) fun a w hf hc => sp 1 hf rfl fun a hf => zT h ?_
 refine wp_ret ?_
 obtain rfl := hF
 exact zO1 Tryz.results118 hf rfl ⟨rfl,hc⟩

def crew_every_int_1_s2 (x : Int) (x_1 : crew_Roster) : Bool :=
 (!(crew_Check_2_1 x x_1))
theorem crew_every_int_1_s2_ok {G : Pers} {Lf : List Ent} {w : World} (x : Int) (x_1 : crew_Roster) {b_ : Nat} {b__1 : Nat} {x_1_People_p : Option Addr} {x_1_People_c : Nat} {x_1_Stations_p : Option Addr} {x_1_Stations_c : Nat} (h_x_1_People : RdT kd_35 G 1 x_1_People_p x_1_People_c x_1.People) (h_x_1_Stations : RdT kd_118 G 2 x_1_Stations_p x_1_Stations_c x_1.Stations) (hc : Ctx G (.box b_ [.func (.func 118) #[] #[pq b__1]] 72::.box b__1 [.slice x_1_People_p x_1.People.length x_1_People_c,.slice x_1_Stations_p x_1.Stations.length x_1_Stations_c] 95::Lf) w) {res : Bool} (hF : crew_every_int_1_s2 x x_1 = res) : Calls Tryz.prog 138 #[i6 x,pq b_] w (fun e w => e = .returned (.bool res) ∧ Ctx G (.box b_ [.func (.func 118) #[] #[pq b__1]] 72::.box b__1 [.slice x_1_People_p x_1.People.length x_1_People_c,.slice x_1_Stations_p x_1.Stations.length x_1_Stations_c] 95::Lf) w) := by
 unfold crew_every_int_1_s2 at hF
 refine fnIn Tryz.func138 rfl Tryz.ntmps138 rfl fun a hf => zS fun K h => sp 1 hf rfl fun a hf => zT h ?_
 refine zS fun K h => zL hf hc sc_72 m0 rfl fun a w hf hc => sp 1 hf rfl fun a hf => zQ (v := .bool (crew_Check_2_1 x x_1)) hf hc en_118 rfl (fun w hc => (crew_Check_2_1_ok x x_1 h_x_1_People h_x_1_Stations (hc.pick k1) rfl).mono fun e w h => ⟨h.1,(h.2.unpick k1)⟩) fun a w hf hc => sp 2 hf rfl fun a hf => zT h ?_
 refine wp_ret ?_
 obtain rfl := hF
 exact zO1 Tryz.results138 hf rfl ⟨rfl,hc⟩

def slices_IndexFunc_Lint_int_s9_b4 (N : Nat) (s_ : List Int) (f_ : crew_Roster) (x : Int) : Option (Step (Int) (Int)) :=
 cond (decide (x < ((s_.length : Nat) : Int)))
 (Option.bind (getI s_ x) fun e_1 =>
 cond (crew_every_int_1_s2 e_1 f_)
 (some (.ret x))
 (some (.cont (W (x + 1)))))
 (some (.brk x))
def slices_IndexFunc_Lint_int_s9 (N : Nat) (s_ : List Int) (f_ : crew_Roster) : Option (Int) :=
 Option.bind (loopO (fun s4 => slices_IndexFunc_Lint_int_s9_b4 N s_ f_ s4) N 0) fun x4 =>
 exK x4 (fun s4 => some (-1)) some
theorem slices_IndexFunc_Lint_int_s9_ok {N : Nat} {G : Pers} {Lf : List Ent} {w : World} (s_ : List Int) (f_ : crew_Roster) {s__p : Option Addr} {s__c : Nat} {b_ : Nat} {b__1 : Nat} {f__People_p : Option Addr} {f__People_c : Nat} {f__Stations_p : Option Addr} {f__Stations_c : Nat} (h_s_ : Rd G 1 s__p s__c (s_.map encI_i64)) (h_f__People : RdT kd_35 G 1 f__People_p f__People_c f_.People) (h_f__Stations : RdT kd_118 G 2 f__Stations_p f__Stations_c f_.Stations) (hc : Ctx G (.box b_ [.func (.func 118) #[] #[pq b__1]] 72::.box b__1 [.slice f__People_p f_.People.length f__People_c,.slice f__Stations_p f_.Stations.length f__Stations_c] 95::Lf) w) {res : Int} (hF : slices_IndexFunc_Lint_int_s9 N s_ f_ = some res) : Calls Tryz.prog 38 #[.slice s__p s_.length s__c,.func (.func 138) #[] #[pq b_]] w (fun e w => e = .returned (i6 res) ∧ Ctx G (.box b_ [.func (.func 118) #[] #[pq b__1]] 72::.box b__1 [.slice f__People_p f_.People.length f__People_c,.slice f__Stations_p f_.Stations.length f__Stations_c] 95::Lf) w) := by
 unfold slices_IndexFunc_Lint_int_s9 at hF
 refine fnIn Tryz.func38 rfl Tryz.ntmps38 rfl fun a hf => zS fun K h => sp 1 hf rfl fun a hf => zT h ?_
 refine wp_seq_k fun K2 h2 => zS fun K h => sp 1 hf rfl fun a hf => zP hf rfl (pLenS Tryz.underlying35 rfl) fun a hf => sp 1 hf rfl fun a hf => zT h ?_
 refine wp_block ?_
 obtain ⟨x4,hx4,hF⟩ := bnd_some hF
 let S4 : Int → Act → World → Prop := (fun (zz : Int) a w => Has 19 a [(0,.slice s__p s_.length s__c),(1,.func (.func 138) #[] #[pq b_]),(7,i6 ((s_.length : Nat) : Int)),(8,i6 zz)] ∧ Ctx G (.box b_ [.func (.func 118) #[] #[pq b__1]] 72::.box b__1 [.slice f__People_p f_.People.length f__People_c,.slice f__Stations_p f_.Stations.length f__Stations_c] 95::Lf) w)
 have hr4 : ∀ (zz : Int) a w,x4 = .go zz → S4 zz a w → K2 a w := by
  rintro x a w rfl ⟨hf,hc⟩
  replace hF := exK_go hF
  refine h2 _ _ ?_
  refine zS fun K h => sp 1 hf rfl fun a hf => zT h ?_
  refine wp_ret ?_
  obtain rfl := sj hF
  exact zO1 Tryz.results38 hf rfl ⟨rfl,hc⟩
 have ho4 : ∀ r,x4 = .out r → r = res := by
  rintro r rfl
  exact sj hF
 refine cLoop N (loopW (S := S4) (x := x4) ?_ N 0 _ _ ⟨hf.kp rfl,hc⟩ hx4)
 clear hF hf hc
 rintro x st4 a w KB4 ⟨hf,hc⟩ hF hfin4 hK4
 unfold slices_IndexFunc_Lint_int_s9_b4 at hF
 refine zS fun K h => sp 1 hf rfl fun a hf => zT h ?_
 refine wp_seq_k fun K7 h7 => zI hf rfl hF ?_ ?_ <;> clear hF <;> intro hF
 ·refine wp_skip ?_
  refine h7 _ _ ?_
  refine wp_seq_k fun K8 h8 => wp_block ?_
  refine zS fun K h => sp 2 hf rfl fun a hf => zT h ?_
  refine zS fun K h => sp 3 hf rfl fun a hf => ?_
  obtain ⟨e_1,he_1,hF⟩ := bnd_some hF
  obtain ⟨b_1,o,qa,qp⟩ := h_s_.atm he_1
  refine zP hf rfl (pIA Tryz.underlying35 sz_3 rfl rfl qa) fun a hf => zE hf hc rfl (eLd1 sc_3 rfl (cell_pc (j := 0) qp rfl)) fun a w hf hc => zQ (v := .bool (crew_every_int_1_s2 e_1 f_)) hf hc en_138 rfl (fun w hc => (crew_every_int_1_s2_ok e_1 f_ h_f__People h_f__Stations ((hc.pick k1).pick k1) rfl).mono fun e w h => ⟨h.1,((h.2.unpick k1).unpick k1)⟩) fun a w hf hc => zT h ?_
  refine zI hf rfl hF ?_ ?_ <;> clear hF <;> intro hF
  ·refine zS fun K h => sp 2 hf rfl fun a hf => zT h ?_
   refine wp_ret ?_
   refine xBlkR ?_
   refine xThenR ?_
   refine xThenR ?_
   have he := sj hF
   rw [← he] at hfin4
   replace hF := ho4 _ hfin4
   refine xBlkR ?_
   refine xThenR ?_
   obtain rfl := hF
   exact zO1 Tryz.results38 hf rfl ⟨rfl,hc⟩
  ·refine wp_skip ?_
   refine h8 _ _ ?_
   refine cReg ?_
   refine sp 2 hf rfl fun a hf => cNil ?_
   exact hK4 (W (x + 1)) _ _ (sj hF).symm ⟨hf.kp rfl,hc⟩
 ·refine wp_exit ?_
  refine xThen ?_
  refine xThen ?_
  have he := sj hF
  rw [← he] at hfin4
  refine cHit ?_
  exact hr4 _ _ _ hfin4 ⟨hf.kp rfl,hc⟩

def slices_ContainsFunc_Lint_int_s7 (N : Nat) (s_ : List Int) (f_ : crew_Roster) : Option (Bool) :=
 Option.bind (slices_IndexFunc_Lint_int_s9 N s_ f_) fun r =>
 some (decide (0 ≤ r))
theorem slices_ContainsFunc_Lint_int_s7_ok {N : Nat} {G : Pers} {Lf : List Ent} {w : World} (s_ : List Int) (f_ : crew_Roster) {s__p : Option Addr} {s__c : Nat} {b_ : Nat} {b__1 : Nat} {f__People_p : Option Addr} {f__People_c : Nat} {f__Stations_p : Option Addr} {f__Stations_c : Nat} (h_s_ : Rd G 1 s__p s__c (s_.map encI_i64)) (h_f__People : RdT kd_35 G 1 f__People_p f__People_c f_.People) (h_f__Stations : RdT kd_118 G 2 f__Stations_p f__Stations_c f_.Stations) (hc : Ctx G (.box b_ [.func (.func 118) #[] #[pq b__1]] 72::.box b__1 [.slice f__People_p f_.People.length f__People_c,.slice f__Stations_p f_.Stations.length f__Stations_c] 95::Lf) w) {res : Bool} (hF : slices_ContainsFunc_Lint_int_s7 N s_ f_ = some res) : Calls Tryz.prog 54 #[.slice s__p s_.length s__c,.func (.func 138) #[] #[pq b_]] w (fun e w => e = .returned (.bool res) ∧ Ctx G (.box b_ [.func (.func 118) #[] #[pq b__1]] 72::.box b__1 [.slice f__People_p f_.People.length f__People_c,.slice f__Stations_p f_.Stations.length f__Stations_c] 95::Lf) w) := by
 unfold slices_ContainsFunc_Lint_int_s7 at hF
 refine fnIn Tryz.func54 rfl Tryz.ntmps54 rfl fun a hf => zS fun K h => sp 1 hf rfl fun a hf => zT h ?_
 refine zS fun K h => sp 2 hf rfl fun a hf => ?_
 obtain ⟨r,hr,hF⟩ := bnd_some hF
 refine zQ (v := i6 r) hf hc en_38 rfl (fun w hc => (slices_IndexFunc_Lint_int_s9_ok s_ f_ h_s_ h_f__People h_f__Stations ((hc.pick k1).pick k1) hr).mono fun e w h => ⟨h.1,((h.2.unpick k1).unpick k1)⟩) fun a w hf hc => sp 2 hf rfl fun a hf => zT h ?_
 refine wp_ret ?_
 obtain rfl := sj hF
 exact zO1 Tryz.results54 hf rfl ⟨rfl,hc⟩

def crew_every_int_s2 (N : Nat) (l : List Int) (so : crew_Roster) : Option (Bool) :=
 Option.bind (slices_ContainsFunc_Lint_int_s7 N l so) fun r =>
 some (!r)
theorem crew_every_int_s2_ok {N : Nat} {G : Pers} {Lf : List Ent} {w : World} (l : List Int) (so : crew_Roster) {l_p : Option Addr} {l_c : Nat} {b_ : Nat} {so_People_p : Option Addr} {so_People_c : Nat} {so_Stations_p : Option Addr} {so_Stations_c : Nat} (h_l : Rd G 1 l_p l_c (l.map encI_i64)) (h_so_People : RdT kd_35 G 1 so_People_p so_People_c so.People) (h_so_Stations : RdT kd_118 G 2 so_Stations_p so_Stations_c so.Stations) (hc : Ctx G (.box b_ [.slice so_People_p so.People.length so_People_c,.slice so_Stations_p so.Stations.length so_Stations_c] 95::Lf) w) {res : Bool} (hF : crew_every_int_s2 N l so = some res) : Calls Tryz.prog 114 #[.slice l_p l.length l_c,.func (.func 118) #[] #[pq b_]] w (fun e w => e = .returned (.bool res) ∧ Ctx G (.box b_ [.slice so_People_p so.People.length so_People_c,.slice so_Stations_p so.Stations.length so_Stations_c] 95::Lf) w) := by
 unfold crew_every_int_s2 at hF
 refine fnIn Tryz.func114 rfl Tryz.ntmps114 rfl fun a hf => zS fun K h => zB hf hc rfl fun b_1 a w hf hc => sp 1 hf rfl fun a hf => zT h ?_
 refine zS fun K h => sp 1 hf rfl fun a hf => zP hf rfl (pMF (us := [pq b_1]) rfl rfl) fun a hf => ?_
 obtain ⟨r,hr,hF⟩ := bnd_some hF
 refine zQ (v := .bool r) hf hc en_54 rfl (fun w hc => (slices_ContainsFunc_Lint_int_s7_ok l so h_l h_so_People h_so_Stations ((hc.pick k1).pick k1) hr).mono fun e w h => ⟨h.1,((h.2.unpick k1).unpick k1)⟩) fun a w hf hc => sp 2 hf rfl fun a hf => zT h ?_
 refine wp_ret ?_
 obtain rfl := sj hF
 replace hc := hc.drop k0
 exact zO1 Tryz.results114 hf rfl ⟨rfl,hc⟩

def crew_Check_2 (N : Nat) (s_ : crew_Station) (x : crew_Roster) : Option (Bool) :=
 Option.bind (cond (crew_in s_.Places 1 12) (Option.bind (crew_every_int_s2 N s_.Order (⟨x.People,x.Stations⟩ : crew_Roster)) fun r =>
 some r) (some false)) fun t_1 =>
 some t_1
theorem crew_Check_2_ok {N : Nat} {G : Pers} {Lf : List Ent} {w : World} (s_ : crew_Station) (x : crew_Roster) {s__Order_p : Option Addr} {s__Order_c : Nat} {b_ : Nat} {x_People_p : Option Addr} {x_People_c : Nat} {x_Stations_p : Option Addr} {x_Stations_c : Nat} (h_s__Order : Rd G 1 s__Order_p s__Order_c (s_.Order.map encI_i64)) (h_x_People : RdT kd_35 G 1 x_People_p x_People_c x.People) (h_x_Stations : RdT kd_118 G 2 x_Stations_p x_Stations_c x.Stations) (hc : Ctx G (.box b_ [.slice x_People_p x.People.length x_People_c,.slice x_Stations_p x.Stations.length x_Stations_c] 95::Lf) w) {res : Bool} (hF : crew_Check_2 N s_ x = some res) : Calls Tryz.prog 117 #[.agg #[i6 s_.Places,.slice s__Order_p s_.Order.length s__Order_c],pq b_] w (fun e w => e = .returned (.bool res) ∧ Ctx G (.box b_ [.slice x_People_p x.People.length x_People_c,.slice x_Stations_p x.Stations.length x_Stations_c] 95::Lf) w) := by
 unfold crew_Check_2 at hF
 refine fnIn Tryz.func117 rfl Tryz.ntmps117 rfl fun a hf => zS fun K h => zB hf hc rfl fun b_1 a w hf hc => sp 1 hf rfl fun a hf => zT h ?_
 refine zS fun K h => zP hf rfl (pFA fa_118_0 rfl) fun a hf => zL hf hc sc_3 m0 rfl fun a w hf hc => zQ (v := .bool (crew_in s_.Places 1 12)) hf hc en_56 rfl (fun w hc => crew_in_ok s_.Places 1 12 hc rfl) fun a w hf hc => sp 1 hf rfl fun a hf => ?_
 obtain ⟨t_1,ht_1,hF⟩ := bnd_some hF
 refine stCc 5 (fun a => Has 13 a [(1,pq b_),(2,pq b_1),(3,.bool false),(4,pq b_1),(5,i6 s_.Places),(6,.bool (crew_in s_.Places 1 12)),(7,.bool (crew_in s_.Places 1 12)),(12,.bool t_1)]) hc ?_ ?_
 ·cases hb : (crew_in s_.Places 1 12)
  ·rw [hb] at hf
   have hF := condF hb ht_1
   obtain rfl := sj hF
   refine stS hf rfl rfl rfl fun a hf => stS hf rfl rfl rfl fun a hf => stS hf rfl rfl rfl fun a hf => stS hf rfl rfl rfl fun a hf => sp 1 hf rfl fun a hf => cNil ⟨hf.kp rfl,hc⟩
  ·rw [hb] at hf
   have hF := condT hb ht_1
   refine zP hf rfl (pFA fa_118_1 rfl) fun a hf => zL hf hc sc_35 m0 rfl fun a w hf hc => zP hf rfl (pMF (us := [pq b_]) rfl rfl) fun a hf => ?_
   obtain ⟨r,hr,hF⟩ := bnd_some hF
   refine zQ (v := .bool r) hf hc en_114 rfl (fun w hc => (crew_every_int_s2_ok s_.Order (⟨x.People,x.Stations⟩ : crew_Roster) h_s__Order h_x_People h_x_Stations (hc.pick k1) hr).mono fun e w h => ⟨h.1,(h.2.unpick k1)⟩) fun a w hf hc => sp 1 hf rfl fun a hf => ?_
   obtain rfl := sj hF
   exact cNil ⟨hf.kp rfl,hc⟩
 intro a w ⟨hf,hc⟩
 refine sp 1 hf rfl fun a hf => zT h ?_
 refine wp_ret ?_
 obtain rfl := sj hF
 replace hc := hc.drop k0
 exact zO1 Tryz.results117 hf rfl ⟨rfl,hc⟩

def crew_every_crew_Station_1 (N : Nat) (x : crew_Station) (x_1 : crew_Roster) : Option (Bool) :=
 Option.bind (crew_Check_2 N x x_1) fun r =>
 some (!r)
theorem crew_every_crew_Station_1_ok {N : Nat} {G : Pers} {Lf : List Ent} {w : World} (x : crew_Station) (x_1 : crew_Roster) {x_Order_p : Option Addr} {x_Order_c : Nat} {b_ : Nat} {b__1 : Nat} {x_1_People_p : Option Addr} {x_1_People_c : Nat} {x_1_Stations_p : Option Addr} {x_1_Stations_c : Nat} (h_x_Order : Rd G 1 x_Order_p x_Order_c (x.Order.map encI_i64)) (h_x_1_People : RdT kd_35 G 1 x_1_People_p x_1_People_c x_1.People) (h_x_1_Stations : RdT kd_118 G 2 x_1_Stations_p x_1_Stations_c x_1.Stations) (hc : Ctx G (.box b_ [.func (.func 117) #[] #[pq b__1]] 170::.box b__1 [.slice x_1_People_p x_1.People.length x_1_People_c,.slice x_1_Stations_p x_1.Stations.length x_1_Stations_c] 95::Lf) w) {res : Bool} (hF : crew_every_crew_Station_1 N x x_1 = some res) : Calls Tryz.prog 140 #[.agg #[i6 x.Places,.slice x_Order_p x.Order.length x_Order_c],pq b_] w (fun e w => e = .returned (.bool res) ∧ Ctx G (.box b_ [.func (.func 117) #[] #[pq b__1]] 170::.box b__1 [.slice x_1_People_p x_1.People.length x_1_People_c,.slice x_1_Stations_p x_1.Stations.length x_1_Stations_c] 95::Lf) w) := by
 unfold crew_every_crew_Station_1 at hF
 refine fnIn Tryz.func140 rfl Tryz.ntmps140 rfl fun a hf => zS fun K h => zB hf hc rfl fun b_1 a w hf hc => sp 1 hf rfl fun a hf => zT h ?_
 refine zS fun K h => zL hf hc sc_170 m1 rfl fun a w hf hc => zN hf hc ag_118 m0 rfl fun a w hf hc => ?_
 obtain ⟨r,hr,hF⟩ := bnd_some hF
 refine zQ (v := .bool r) hf hc en_117 rfl (fun w hc => (crew_Check_2_ok x x_1 h_x_Order h_x_1_People h_x_1_Stations (hc.pick k2) hr).mono fun e w h => ⟨h.1,(h.2.unpick k2)⟩) fun a w hf hc => sp 2 hf rfl fun a hf => zT h ?_
 refine wp_ret ?_
 obtain rfl := sj hF
 replace hc := hc.drop k0
 exact zO1 Tryz.results140 hf rfl ⟨rfl,hc⟩

def slices_IndexFunc_Lcrew_Station_crew_Station_b4 (N : Nat) (s_ : List crew_Station) (f_ : crew_Roster) (x : Int) : Option (Step (Int) (Int)) :=
 cond (decide (x < ((s_.length : Nat) : Int)))
 (Option.bind (getI s_ x) fun e_1 =>
 Option.bind (crew_every_crew_Station_1 N e_1 f_) fun r =>
 cond r
 (some (.ret x))
 (some (.cont (W (x + 1)))))
 (some (.brk x))
def slices_IndexFunc_Lcrew_Station_crew_Station (N : Nat) (s_ : List crew_Station) (f_ : crew_Roster) : Option (Int) :=
 Option.bind (loopO (fun s4 => slices_IndexFunc_Lcrew_Station_crew_Station_b4 N s_ f_ s4) N 0) fun x4 =>
 exK x4 (fun s4 => some (-1)) some
theorem slices_IndexFunc_Lcrew_Station_crew_Station_ok {N : Nat} {G : Pers} {Lf : List Ent} {w : World} (s_ : List crew_Station) (f_ : crew_Roster) {s__p : Option Addr} {s__c : Nat} {b_ : Nat} {b__1 : Nat} {f__People_p : Option Addr} {f__People_c : Nat} {f__Stations_p : Option Addr} {f__Stations_c : Nat} (h_s_ : RdT kd_118 G 2 s__p s__c s_) (h_f__People : RdT kd_35 G 1 f__People_p f__People_c f_.People) (h_f__Stations : RdT kd_118 G 2 f__Stations_p f__Stations_c f_.Stations) (hc : Ctx G (.box b_ [.func (.func 117) #[] #[pq b__1]] 170::.box b__1 [.slice f__People_p f_.People.length f__People_c,.slice f__Stations_p f_.Stations.length f__Stations_c] 95::Lf) w) {res : Int} (hF : slices_IndexFunc_Lcrew_Station_crew_Station N s_ f_ = some res) : Calls Tryz.prog 147 #[.slice s__p s_.length s__c,.func (.func 140) #[] #[pq b_]] w (fun e w => e = .returned (i6 res) ∧ Ctx G (.box b_ [.func (.func 117) #[] #[pq b__1]] 170::.box b__1 [.slice f__People_p f_.People.length f__People_c,.slice f__Stations_p f_.Stations.length f__Stations_c] 95::Lf) w) := by
 unfold slices_IndexFunc_Lcrew_Station_crew_Station at hF
 refine fnIn Tryz.func147 rfl Tryz.ntmps147 rfl fun a hf => zS fun K h => sp 1 hf rfl fun a hf => zT h ?_
 refine wp_seq_k fun K2 h2 => zS fun K h => sp 1 hf rfl fun a hf => zP hf rfl (pLenS Tryz.underlying93 rfl) fun a hf => sp 1 hf rfl fun a hf => zT h ?_
 refine wp_block ?_
 obtain ⟨x4,hx4,hF⟩ := bnd_some hF
 let S4 : Int → Act → World → Prop := (fun (zz : Int) a w => Has 19 a [(0,.slice s__p s_.length s__c),(1,.func (.func 140) #[] #[pq b_]),(7,i6 ((s_.length : Nat) : Int)),(8,i6 zz)] ∧ Ctx G (.box b_ [.func (.func 117) #[] #[pq b__1]] 170::.box b__1 [.slice f__People_p f_.People.length f__People_c,.slice f__Stations_p f_.Stations.length f__Stations_c] 95::Lf) w)
 have hr4 : ∀ (zz : Int) a w,x4 = .go zz → S4 zz a w → K2 a w := by
  rintro x a w rfl ⟨hf,hc⟩
  replace hF := exK_go hF
  refine h2 _ _ ?_
  refine zS fun K h => sp 1 hf rfl fun a hf => zT h ?_
  refine wp_ret ?_
  obtain rfl := sj hF
  exact zO1 Tryz.results147 hf rfl ⟨rfl,hc⟩
 have ho4 : ∀ r,x4 = .out r → r = res := by
  rintro r rfl
  exact sj hF
 refine cLoop N (loopW (S := S4) (x := x4) ?_ N 0 _ _ ⟨hf.kp rfl,hc⟩ hx4)
 clear hF hf hc
 rintro x st4 a w KB4 ⟨hf,hc⟩ hF hfin4 hK4
 unfold slices_IndexFunc_Lcrew_Station_crew_Station_b4 at hF
 refine zS fun K h => sp 1 hf rfl fun a hf => zT h ?_
 refine wp_seq_k fun K7 h7 => zI hf rfl hF ?_ ?_ <;> clear hF <;> intro hF
 ·refine wp_skip ?_
  refine h7 _ _ ?_
  refine wp_seq_k fun K8 h8 => wp_block ?_
  refine zS fun K h => sp 2 hf rfl fun a hf => zT h ?_
  refine zS fun K h => sp 3 hf rfl fun a hf => ?_
  obtain ⟨e_1,he_1,hF⟩ := bnd_some hF
  obtain ⟨b_1,o,hd,qa,qp,qr⟩ := h_s_.atm he_1
  refine zP hf rfl (pIA Tryz.underlying93 sz_118 rfl rfl qa) fun a hf => zE hf hc rfl (eLdN (vs := [i6 e_1.Places,.slice hd.1 e_1.Order.length hd.2]) ag_118 rfl rfl (cells_pc qp (n := 2) (o' := 0) rfl)) fun a w hf hc => ?_
  obtain ⟨r,hr,hF⟩ := bnd_some hF
  refine zQ (v := .bool r) hf hc en_140 rfl (fun w hc => (crew_every_crew_Station_1_ok e_1 f_ qr h_f__People h_f__Stations ((hc.pick k1).pick k1) hr).mono fun e w h => ⟨h.1,((h.2.unpick k1).unpick k1)⟩) fun a w hf hc => zT h ?_
  refine zI hf rfl hF ?_ ?_ <;> clear hF <;> intro hF
  ·refine zS fun K h => sp 2 hf rfl fun a hf => zT h ?_
   refine wp_ret ?_
   refine xBlkR ?_
   refine xThenR ?_
   refine xThenR ?_
   have he := sj hF
   rw [← he] at hfin4
   replace hF := ho4 _ hfin4
   refine xBlkR ?_
   refine xThenR ?_
   obtain rfl := hF
   exact zO1 Tryz.results147 hf rfl ⟨rfl,hc⟩
  ·refine wp_skip ?_
   refine h8 _ _ ?_
   refine cReg ?_
   refine sp 2 hf rfl fun a hf => cNil ?_
   exact hK4 (W (x + 1)) _ _ (sj hF).symm ⟨hf.kp rfl,hc⟩
 ·refine wp_exit ?_
  refine xThen ?_
  refine xThen ?_
  have he := sj hF
  rw [← he] at hfin4
  refine cHit ?_
  exact hr4 _ _ _ hfin4 ⟨hf.kp rfl,hc⟩

def slices_ContainsFunc_Lcrew_Station_crew_Station (N : Nat) (s_ : List crew_Station) (f_ : crew_Roster) : Option (Bool) :=
 Option.bind (slices_IndexFunc_Lcrew_Station_crew_Station N s_ f_) fun r =>
 some (decide (0 ≤ r))
theorem slices_ContainsFunc_Lcrew_Station_crew_Station_ok {N : Nat} {G : Pers} {Lf : List Ent} {w : World} (s_ : List crew_Station) (f_ : crew_Roster) {s__p : Option Addr} {s__c : Nat} {b_ : Nat} {b__1 : Nat} {f__People_p : Option Addr} {f__People_c : Nat} {f__Stations_p : Option Addr} {f__Stations_c : Nat} (h_s_ : RdT kd_118 G 2 s__p s__c s_) (h_f__People : RdT kd_35 G 1 f__People_p f__People_c f_.People) (h_f__Stations : RdT kd_118 G 2 f__Stations_p f__Stations_c f_.Stations) (hc : Ctx G (.box b_ [.func (.func 117) #[] #[pq b__1]] 170::.box b__1 [.slice f__People_p f_.People.length f__People_c,.slice f__Stations_p f_.Stations.length f__Stations_c] 95::Lf) w) {res : Bool} (hF : slices_ContainsFunc_Lcrew_Station_crew_Station N s_ f_ = some res) : Calls Tryz.prog 139 #[.slice s__p s_.length s__c,.func (.func 140) #[] #[pq b_]] w (fun e w => e = .returned (.bool res) ∧ Ctx G (.box b_ [.func (.func 117) #[] #[pq b__1]] 170::.box b__1 [.slice f__People_p f_.People.length f__People_c,.slice f__Stations_p f_.Stations.length f__Stations_c] 95::Lf) w) := by
 unfold slices_ContainsFunc_Lcrew_Station_crew_Station at hF
 refine fnIn Tryz.func139 rfl Tryz.ntmps139 rfl fun a hf => zS fun K h => sp 1 hf rfl fun a hf => zT h ?_
 refine zS fun K h => sp 2 hf rfl fun a hf => ?_
 obtain ⟨r,hr,hF⟩ := bnd_some hF
 refine zQ (v := i6 r) hf hc en_147 rfl (fun w hc => (slices_IndexFunc_Lcrew_Station_crew_Station_ok s_ f_ h_s_ h_f__People h_f__Stations ((hc.pick k1).pick k1) hr).mono fun e w h => ⟨h.1,((h.2.unpick k1).unpick k1)⟩) fun a w hf hc => sp 2 hf rfl fun a hf => zT h ?_
 refine wp_ret ?_
 obtain rfl := sj hF
 exact zO1 Tryz.results139 hf rfl ⟨rfl,hc⟩

def crew_every_crew_Station (N : Nat) (l : List crew_Station) (so : crew_Roster) : Option (Bool) :=
 Option.bind (slices_ContainsFunc_Lcrew_Station_crew_Station N l so) fun r =>
 some (!r)
theorem crew_every_crew_Station_ok {N : Nat} {G : Pers} {Lf : List Ent} {w : World} (l : List crew_Station) (so : crew_Roster) {l_p : Option Addr} {l_c : Nat} {b_ : Nat} {so_People_p : Option Addr} {so_People_c : Nat} {so_Stations_p : Option Addr} {so_Stations_c : Nat} (h_l : RdT kd_118 G 2 l_p l_c l) (h_so_People : RdT kd_35 G 1 so_People_p so_People_c so.People) (h_so_Stations : RdT kd_118 G 2 so_Stations_p so_Stations_c so.Stations) (hc : Ctx G (.box b_ [.slice so_People_p so.People.length so_People_c,.slice so_Stations_p so.Stations.length so_Stations_c] 95::Lf) w) {res : Bool} (hF : crew_every_crew_Station N l so = some res) : Calls Tryz.prog 116 #[.slice l_p l.length l_c,.func (.func 117) #[] #[pq b_]] w (fun e w => e = .returned (.bool res) ∧ Ctx G (.box b_ [.slice so_People_p so.People.length so_People_c,.slice so_Stations_p so.Stations.length so_Stations_c] 95::Lf) w) := by
 unfold crew_every_crew_Station at hF
 refine fnIn Tryz.func116 rfl Tryz.ntmps116 rfl fun a hf => zS fun K h => zB hf hc rfl fun b_1 a w hf hc => sp 1 hf rfl fun a hf => zT h ?_
 refine zS fun K h => sp 1 hf rfl fun a hf => zP hf rfl (pMF (us := [pq b_1]) rfl rfl) fun a hf => ?_
 obtain ⟨r,hr,hF⟩ := bnd_some hF
 refine zQ (v := .bool r) hf hc en_139 rfl (fun w hc => (slices_ContainsFunc_Lcrew_Station_crew_Station_ok l so h_l h_so_People h_so_Stations ((hc.pick k1).pick k1) hr).mono fun e w h => ⟨h.1,((h.2.unpick k1).unpick k1)⟩) fun a w hf hc => sp 2 hf rfl fun a hf => zT h ?_
 refine wp_ret ?_
 obtain rfl := sj hF
 replace hc := hc.drop k0
 exact zO1 Tryz.results116 hf rfl ⟨rfl,hc⟩

def crew_once_b4 (N : Nat) (l : List Int) (x : Int) : Option (Step (Int) (Bool)) :=
 cond (decide (x < ((l.length : Nat) : Int)))
 (Option.bind (getI l x) fun e_1 =>
 Option.bind (subO l 0 x) fun sub =>
 Option.bind (slices_Contains_Lint_int N sub e_1) fun r =>
 cond r
 (some (.ret false))
 (some (.cont (W (x + 1)))))
 (some (.brk x))
def crew_once (N : Nat) (l : List Int) : Option (Bool) :=
 Option.bind (loopO (fun s4 => crew_once_b4 N l s4) N 0) fun x4 =>
 exK x4 (fun s4 => some true) some
theorem crew_once_ok {N : Nat} {G : Pers} {Lf : List Ent} {w : World} (l : List Int) {l_p : Option Addr} {l_c : Nat} (h_l : Rd G 1 l_p l_c (l.map encI_i64)) (hc : Ctx G (Lf) w) {res : Bool} (hF : crew_once N l = some res) : Calls Tryz.prog 119 #[.slice l_p l.length l_c] w (fun e w => e = .returned (.bool res) ∧ Ctx G (Lf) w) := by
 unfold crew_once at hF
 refine fnIn Tryz.func119 rfl Tryz.ntmps119 rfl fun a hf => zS fun K h => sp 1 hf rfl fun a hf => zT h ?_
 refine wp_seq_k fun K2 h2 => zS fun K h => sp 1 hf rfl fun a hf => zP hf rfl (pLenS Tryz.underlying35 rfl) fun a hf => sp 1 hf rfl fun a hf => zT h ?_
 refine wp_block ?_
 obtain ⟨x4,hx4,hF⟩ := bnd_some hF
 let S4 : Int → Act → World → Prop := (fun (zz : Int) a w => Has 18 a [(0,.slice l_p l.length l_c),(5,.slice l_p l.length l_c),(6,i6 ((l.length : Nat) : Int)),(7,i6 zz)] ∧ Ctx G (Lf) w)
 have hr4 : ∀ (zz : Int) a w,x4 = .go zz → S4 zz a w → K2 a w := by
  rintro x a w rfl ⟨hf,hc⟩
  replace hF := exK_go hF
  refine h2 _ _ ?_
  refine zS fun K h => sp 1 hf rfl fun a hf => zT h ?_
  refine wp_ret ?_
  obtain rfl := sj hF
  exact zO1 Tryz.results119 hf rfl ⟨rfl,hc⟩
 have ho4 : ∀ r,x4 = .out r → r = res := by
  rintro r rfl
  exact sj hF
 refine cLoop N (loopW (S := S4) (x := x4) ?_ N 0 _ _ ⟨hf.kp rfl,hc⟩ hx4)
 clear hF hf hc
 rintro x st4 a w KB4 ⟨hf,hc⟩ hF hfin4 hK4
 unfold crew_once_b4 at hF
 refine zS fun K h => sp 1 hf rfl fun a hf => zT h ?_
 refine wp_seq_k fun K7 h7 => zI hf rfl hF ?_ ?_ <;> clear hF <;> intro hF
 ·refine wp_skip ?_
  refine h7 _ _ ?_
  refine wp_seq_k fun K8 h8 => wp_block ?_
  refine zS fun K h => sp 1 hf rfl fun a hf => ?_
  obtain ⟨e_1,he_1,hF⟩ := bnd_some hF
  obtain ⟨b_1,o,qa,qp⟩ := h_l.atm he_1
  refine zP hf rfl (pIA Tryz.underlying35 sz_3 rfl rfl qa) fun a hf => zE hf hc rfl (eLd1 sc_3 rfl (cell_pc (j := 0) qp rfl)) fun a w hf hc => sp 2 hf rfl fun a hf => zT h ?_
  refine zS fun K h => sp 2 hf rfl fun a hf => ?_
  obtain ⟨sub,hsub,hF⟩ := bnd_some hF
  have qs := Rd.sub h_l hsub
  refine zP hf rfl (pSl Tryz.underlying35 sz_3 rfl rfl (by simpa using h_l.1) rfl rfl hsub) fun a hf => sp 1 hf rfl fun a hf => ?_
  obtain ⟨r,hr,hF⟩ := bnd_some hF
  refine zQ (v := .bool r) hf hc en_83 rfl (fun w hc => slices_Contains_Lint_int_ok sub e_1 qs hc hr) fun a w hf hc => zT h ?_
  refine zI hf rfl hF ?_ ?_ <;> clear hF <;> intro hF
  ·refine zS fun K h => sp 1 hf rfl fun a hf => zT h ?_
   refine wp_ret ?_
   refine xBlkR ?_
   refine xThenR ?_
   refine xThenR ?_
   have he := sj hF
   rw [← he] at hfin4
   replace hF := ho4 _ hfin4
   refine xBlkR ?_
   refine xThenR ?_
   obtain rfl := hF
   exact zO1 Tryz.results119 hf rfl ⟨rfl,hc⟩
  ·refine wp_skip ?_
   refine h8 _ _ ?_
   refine cReg ?_
   refine sp 2 hf rfl fun a hf => cNil ?_
   exact hK4 (W (x + 1)) _ _ (sj hF).symm ⟨hf.kp rfl,hc⟩
 ·refine wp_exit ?_
  refine xThen ?_
  refine xThen ?_
  have he := sj hF
  rw [← he] at hfin4
  refine cHit ?_
  exact hr4 _ _ _ hfin4 ⟨hf.kp rfl,hc⟩

def crew_every_Lint_1_s2 (N : Nat) (x : List Int) : Option (Bool) :=
 Option.bind (crew_once N x) fun r =>
 some (!r)
theorem crew_every_Lint_1_s2_ok {N : Nat} {G : Pers} {Lf : List Ent} {w : World} (x : List Int) {x_p : Option Addr} {x_c : Nat} {b_ : Nat} (h_x : Rd G 1 x_p x_c (x.map encI_i64)) (hc : Ctx G (.box b_ [.func (.func 119) #[] #[]] 168::Lf) w) {res : Bool} (hF : crew_every_Lint_1_s2 N x = some res) : Calls Tryz.prog 137 #[.slice x_p x.length x_c,pq b_] w (fun e w => e = .returned (.bool res) ∧ Ctx G (.box b_ [.func (.func 119) #[] #[]] 168::Lf) w) := by
 unfold crew_every_Lint_1_s2 at hF
 refine fnIn Tryz.func137 rfl Tryz.ntmps137 rfl fun a hf => zS fun K h => sp 1 hf rfl fun a hf => zT h ?_
 refine zS fun K h => zL hf hc sc_168 m0 rfl fun a w hf hc => sp 1 hf rfl fun a hf => ?_
 obtain ⟨r,hr,hF⟩ := bnd_some hF
 refine zQ (v := .bool r) hf hc en_119 rfl (fun w hc => crew_once_ok x h_x hc hr) fun a w hf hc => sp 2 hf rfl fun a hf => zT h ?_
 refine wp_ret ?_
 obtain rfl := sj hF
 exact zO1 Tryz.results137 hf rfl ⟨rfl,hc⟩

def slices_IndexFunc_LLint_Lint_s2_b4 (N : Nat) (s_ : List (List Int)) (x : Int) : Option (Step (Int) (Int)) :=
 cond (decide (x < ((s_.length : Nat) : Int)))
 (Option.bind (getI s_ x) fun e_1 =>
 Option.bind (crew_every_Lint_1_s2 N e_1) fun r =>
 cond r
 (some (.ret x))
 (some (.cont (W (x + 1)))))
 (some (.brk x))
def slices_IndexFunc_LLint_Lint_s2 (N : Nat) (s_ : List (List Int)) : Option (Int) :=
 Option.bind (loopO (fun s4 => slices_IndexFunc_LLint_Lint_s2_b4 N s_ s4) N 0) fun x4 =>
 exK x4 (fun s4 => some (-1)) some
theorem slices_IndexFunc_LLint_Lint_s2_ok {N : Nat} {G : Pers} {Lf : List Ent} {w : World} (s_ : List (List Int)) {s__p : Option Addr} {s__c : Nat} {b_ : Nat} (h_s_ : RdT kd_35 G 1 s__p s__c s_) (hc : Ctx G (.box b_ [.func (.func 119) #[] #[]] 168::Lf) w) {res : Int} (hF : slices_IndexFunc_LLint_Lint_s2 N s_ = some res) : Calls Tryz.prog 146 #[.slice s__p s_.length s__c,.func (.func 137) #[] #[pq b_]] w (fun e w => e = .returned (i6 res) ∧ Ctx G (.box b_ [.func (.func 119) #[] #[]] 168::Lf) w) := by
 unfold slices_IndexFunc_LLint_Lint_s2 at hF
 refine fnIn Tryz.func146 rfl Tryz.ntmps146 rfl fun a hf => zS fun K h => sp 1 hf rfl fun a hf => zT h ?_
 refine wp_seq_k fun K2 h2 => zS fun K h => sp 1 hf rfl fun a hf => zP hf rfl (pLenS Tryz.underlying92 rfl) fun a hf => sp 1 hf rfl fun a hf => zT h ?_
 refine wp_block ?_
 obtain ⟨x4,hx4,hF⟩ := bnd_some hF
 let S4 : Int → Act → World → Prop := (fun (zz : Int) a w => Has 19 a [(0,.slice s__p s_.length s__c),(1,.func (.func 137) #[] #[pq b_]),(7,i6 ((s_.length : Nat) : Int)),(8,i6 zz)] ∧ Ctx G (.box b_ [.func (.func 119) #[] #[]] 168::Lf) w)
 have hr4 : ∀ (zz : Int) a w,x4 = .go zz → S4 zz a w → K2 a w := by
  rintro x a w rfl ⟨hf,hc⟩
  replace hF := exK_go hF
  refine h2 _ _ ?_
  refine zS fun K h => sp 1 hf rfl fun a hf => zT h ?_
  refine wp_ret ?_
  obtain rfl := sj hF
  exact zO1 Tryz.results146 hf rfl ⟨rfl,hc⟩
 have ho4 : ∀ r,x4 = .out r → r = res := by
  rintro r rfl
  exact sj hF
 refine cLoop N (loopW (S := S4) (x := x4) ?_ N 0 _ _ ⟨hf.kp rfl,hc⟩ hx4)
 clear hF hf hc
 rintro x st4 a w KB4 ⟨hf,hc⟩ hF hfin4 hK4
 unfold slices_IndexFunc_LLint_Lint_s2_b4 at hF
 refine zS fun K h => sp 1 hf rfl fun a hf => zT h ?_
 refine wp_seq_k fun K7 h7 => zI hf rfl hF ?_ ?_ <;> clear hF <;> intro hF
 ·refine wp_skip ?_
  refine h7 _ _ ?_
  refine wp_seq_k fun K8 h8 => wp_block ?_
  refine zS fun K h => sp 2 hf rfl fun a hf => zT h ?_
  refine zS fun K h => sp 3 hf rfl fun a hf => ?_
  obtain ⟨e_1,he_1,hF⟩ := bnd_some hF
  obtain ⟨b_1,o,hd,qa,qp,qr⟩ := h_s_.atm he_1
  refine zP hf rfl (pIA Tryz.underlying92 sz_35 rfl rfl qa) fun a hf => zE hf hc rfl (eLd1 sc_35 rfl (cell_pc (j := 0) qp rfl)) fun a w hf hc => ?_
  obtain ⟨r,hr,hF⟩ := bnd_some hF
  refine zQ (v := .bool r) hf hc en_137 rfl (fun w hc => (crew_every_Lint_1_s2_ok e_1 qr (hc.pick k0) hr).mono fun e w h => ⟨h.1,(h.2.unpick k0)⟩) fun a w hf hc => zT h ?_
  refine zI hf rfl hF ?_ ?_ <;> clear hF <;> intro hF
  ·refine zS fun K h => sp 2 hf rfl fun a hf => zT h ?_
   refine wp_ret ?_
   refine xBlkR ?_
   refine xThenR ?_
   refine xThenR ?_
   have he := sj hF
   rw [← he] at hfin4
   replace hF := ho4 _ hfin4
   refine xBlkR ?_
   refine xThenR ?_
   obtain rfl := hF
   exact zO1 Tryz.results146 hf rfl ⟨rfl,hc⟩
  ·refine wp_skip ?_
   refine h8 _ _ ?_
   refine cReg ?_
   refine sp 2 hf rfl fun a hf => cNil ?_
   exact hK4 (W (x + 1)) _ _ (sj hF).symm ⟨hf.kp rfl,hc⟩
 ·refine wp_exit ?_
  refine xThen ?_
  refine xThen ?_
  have he := sj hF
  rw [← he] at hfin4
  refine cHit ?_
  exact hr4 _ _ _ hfin4 ⟨hf.kp rfl,hc⟩

def slices_ContainsFunc_LLint_Lint_s2 (N : Nat) (s_ : List (List Int)) : Option (Bool) :=
 Option.bind (slices_IndexFunc_LLint_Lint_s2 N s_) fun r =>
 some (decide (0 ≤ r))
theorem slices_ContainsFunc_LLint_Lint_s2_ok {N : Nat} {G : Pers} {Lf : List Ent} {w : World} (s_ : List (List Int)) {s__p : Option Addr} {s__c : Nat} {b_ : Nat} (h_s_ : RdT kd_35 G 1 s__p s__c s_) (hc : Ctx G (.box b_ [.func (.func 119) #[] #[]] 168::Lf) w) {res : Bool} (hF : slices_ContainsFunc_LLint_Lint_s2 N s_ = some res) : Calls Tryz.prog 136 #[.slice s__p s_.length s__c,.func (.func 137) #[] #[pq b_]] w (fun e w => e = .returned (.bool res) ∧ Ctx G (.box b_ [.func (.func 119) #[] #[]] 168::Lf) w) := by
 unfold slices_ContainsFunc_LLint_Lint_s2 at hF
 refine fnIn Tryz.func136 rfl Tryz.ntmps136 rfl fun a hf => zS fun K h => sp 1 hf rfl fun a hf => zT h ?_
 refine zS fun K h => sp 2 hf rfl fun a hf => ?_
 obtain ⟨r,hr,hF⟩ := bnd_some hF
 refine zQ (v := i6 r) hf hc en_146 rfl (fun w hc => (slices_IndexFunc_LLint_Lint_s2_ok s_ h_s_ (hc.pick k0) hr).mono fun e w h => ⟨h.1,(h.2.unpick k0)⟩) fun a w hf hc => sp 2 hf rfl fun a hf => zT h ?_
 refine wp_ret ?_
 obtain rfl := sj hF
 exact zO1 Tryz.results136 hf rfl ⟨rfl,hc⟩

def crew_every_Lint_s2 (N : Nat) (l : List (List Int)) : Option (Bool) :=
 Option.bind (slices_ContainsFunc_LLint_Lint_s2 N l) fun r =>
 some (!r)
theorem crew_every_Lint_s2_ok {N : Nat} {G : Pers} {Lf : List Ent} {w : World} (l : List (List Int)) {l_p : Option Addr} {l_c : Nat} (h_l : RdT kd_35 G 1 l_p l_c l) (hc : Ctx G (Lf) w) {res : Bool} (hF : crew_every_Lint_s2 N l = some res) : Calls Tryz.prog 112 #[.slice l_p l.length l_c,.func (.func 119) #[] #[]] w (fun e w => e = .returned (.bool res) ∧ Ctx G (Lf) w) := by
 unfold crew_every_Lint_s2 at hF
 refine fnIn Tryz.func112 rfl Tryz.ntmps112 rfl fun a hf => zS fun K h => zB hf hc rfl fun b_1 a w hf hc => sp 1 hf rfl fun a hf => zT h ?_
 refine zS fun K h => sp 1 hf rfl fun a hf => zP hf rfl (pMF (us := [pq b_1]) rfl rfl) fun a hf => ?_
 obtain ⟨r,hr,hF⟩ := bnd_some hF
 refine zQ (v := .bool r) hf hc en_136 rfl (fun w hc => (slices_ContainsFunc_LLint_Lint_s2_ok l h_l (hc.pick k0) hr).mono fun e w h => ⟨h.1,(h.2.unpick k0)⟩) fun a w hf hc => sp 2 hf rfl fun a hf => zT h ?_
 refine wp_ret ?_
 obtain rfl := sj hF
 replace hc := hc.drop k0
 exact zO1 Tryz.results112 hf rfl ⟨rfl,hc⟩

def crew_Check_3 (N : Nat) (s_ : crew_Station) : Option (Bool) :=
 Option.bind (crew_once N s_.Order) fun r =>
 some r
theorem crew_Check_3_ok {N : Nat} {G : Pers} {Lf : List Ent} {w : World} (s_ : crew_Station) {s__Order_p : Option Addr} {s__Order_c : Nat} (h_s__Order : Rd G 1 s__Order_p s__Order_c (s_.Order.map encI_i64)) (hc : Ctx G (Lf) w) {res : Bool} (hF : crew_Check_3 N s_ = some res) : Calls Tryz.prog 120 #[.agg #[i6 s_.Places,.slice s__Order_p s_.Order.length s__Order_c]] w (fun e w => e = .returned (.bool res) ∧ Ctx G (Lf) w) := by
 unfold crew_Check_3 at hF
 refine fnIn Tryz.func120 rfl Tryz.ntmps120 rfl fun a hf => zS fun K h => zB hf hc rfl fun b_1 a w hf hc => sp 1 hf rfl fun a hf => zT h ?_
 refine zS fun K h => zP hf rfl (pFA fa_118_1 rfl) fun a hf => zL hf hc sc_35 m0 rfl fun a w hf hc => ?_
 obtain ⟨r,hr,hF⟩ := bnd_some hF
 refine zQ (v := .bool r) hf hc en_119 rfl (fun w hc => crew_once_ok s_.Order h_s__Order hc hr) fun a w hf hc => sp 1 hf rfl fun a hf => zT h ?_
 refine wp_ret ?_
 obtain rfl := sj hF
 replace hc := hc.drop k0
 exact zO1 Tryz.results120 hf rfl ⟨rfl,hc⟩

end Go.Nilo
