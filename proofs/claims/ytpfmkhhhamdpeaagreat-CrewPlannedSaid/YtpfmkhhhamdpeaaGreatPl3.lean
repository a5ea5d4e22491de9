/-
 What functions of the Go text compute, as plain functions, and that they do, part 3 of 4. Conditions: what each theorem names.
-/
import Derived.Test.YtpfmkhhhamdpeaaGreatPl2
import Derived.Test.YtpfmkhhhamdpeaaGreatProg
set_option linter.unusedVariables false
set_option linter.unusedSimpArgs false
set_option maxRecDepth 100000
set_option maxHeartbeats 4000000
namespace Go.Nilo
open Go.Proofs


def crew_work_better_s2 (N : Nat) (p_ : Int) (than : Int) : Option (Int × Int) :=
 some (p_,than)
theorem crew_work_better_s2_ok {N : Nat} {G : Pers} {Lf : List Ent} {w : World} (p_ : Int) (than : Int)   (hc : Ctx G (Lf) w) {res : Int × Int} (hF : crew_work_better_s2 N p_ than = some res) : Calls Tryz.prog 111 #[.pointer none,i6 p_,i6 than] w (fun e w => ∃ (b'1 : Nat) (b'2 : Nat) (b'3 : Nat),e = .returned (.func (.func 167) #[] #[pq b'1,pq b'2,pq b'3]) ∧ Ctx G (.box b'1 [.pointer none] 166::.box b'2 [i6 res.1] 3::.box b'3 [i6 res.2] 3::Lf) w) := by
 unfold crew_work_better_s2 at hF
 refine fnIn Tryz.func111 rfl Tryz.ntmps111 rfl fun a hf => zS fun K h => zB hf hc rfl fun b_1 a w hf hc => zB hf hc rfl fun b_2 a w hf hc => zB hf hc rfl fun b_3 a w hf hc => sp 1 hf rfl fun a hf => zT h ?_
 refine zS fun K h => zP hf rfl (pMF (us := [pq b_1,pq b_2,pq b_3]) rfl rfl) fun a hf => sp 1 hf rfl fun a hf => zT h ?_
 refine wp_ret ?_
 obtain rfl := sj hF
 replace hc := ((hc.pick k0).pick k1).pick k2
 exact zO1 Tryz.results111 hf rfl ⟨b_1,b_2,b_3,rfl,hc⟩

def crew_work_has_s2_j9 (N : Nat) (x : Int) (x_2 : List (List Int)) : Option (Step (Int × (List (List Int))) ((List (List Int)))) :=
 some (.cont (W (x + 1),x_2))
def crew_work_has_s2_b5 (N : Nat) (assignment : List Int) (x : Int) (x_1 : List (List Int)) : Option (Step (Int × (List (List Int))) ((List (List Int)))) :=
 cond (decide (x < ((assignment.length : Nat) : Int)))
 (Option.bind (getI assignment x) fun e_1 =>
 cond (e_1 != (-1))
 (Option.bind (inR e_1 12) fun un_1 =>
 Option.bind (getI x_1 e_1) fun e_2 =>
 Option.bind (room ((e_2 ++ [x])).length) fun un_2 =>
 Option.bind (inR e_1 12) fun un_3 =>
 Option.bind (getI x_1 e_1) fun e_3 =>
 crew_work_has_s2_j9 N x (x_1.set e_1.toNat (e_2 ++ [x])))
 (crew_work_has_s2_j9 N x x_1))
 (some (.brk (x,x_1)))
def crew_work_has_s2 (N : Nat) (w_ : crew_work) (assignment : List Int) : Option ((List (List Int))) :=
 Option.bind (loopO (fun s5 => crew_work_has_s2_b5 N assignment s5.1 s5.2) N (0,(List.replicate 12 ([] : List Int)))) fun x5 =>
 exK x5 (fun s5 => Option.bind (isLen 12 s5.2) fun un =>
 some s5.2) some
theorem crew_work_has_s2_ok {N : Nat} {G : Pers} {Lf : List Ent} {w : World} (w_ : crew_work) (assignment : List Int) {b_ : Nat} {w__Roster_People_p : Option Addr} {w__Roster_People_c : Nat} {w__Roster_Stations_p : Option Addr} {w__Roster_Stations_c : Nat} {assignment_p : Option Addr} {assignment_c : Nat} (h_w__Roster_People : RdT kd_25 G 1 w__Roster_People_p w__Roster_People_c w_.Roster.People) (h_w__Roster_Stations : RdT kd_101 G 2 w__Roster_Stations_p w__Roster_Stations_c w_.Roster.Stations) (h_w__pc : PC G b_ 0 (catc [.slice w__Roster_People_p w_.Roster.People.length w__Roster_People_c,.slice w__Roster_Stations_p w_.Roster.Stations.length w__Roster_Stations_c] 144 encI_i64 w_.rank [])) (h_assignment : Rd G 1 assignment_p assignment_c (assignment.map encI_i64)) (hc : Ctx G (Lf) w) {res : (List (List Int))} (hF : crew_work_has_s2 N w_ assignment = some res) : Calls Tryz.prog 109 #[pq b_,.slice assignment_p assignment.length assignment_c] w (fun e w => ∃ (hsq'1 : Hds),e = .returned (.agg ((tabR hsq'1 res).map (Kd.v kd_25)).flatten.toArray) ∧ Ctx G (tabI kd_25 (tabR hsq'1 res)::Lf) w) := by
 unfold crew_work_has_s2 at hF
 refine fnIn Tryz.func109 rfl Tryz.ntmps109 rfl fun a hf => zS fun K h => zA hf hc zr_172 rfl fun b_1 a w hf hc => zT h ?_
 refine zS fun K h => zA hf hc zr_172 rfl fun b_2 a w hf hc => ?_
 obtain ⟨hsq,hc⟩ := tab_arr (K := kd_25) (x := ([] : List Int)) (n := 12) (fun _ h => h.nilRow _ _) one_kd_25 rfl rfl hc
 replace hc : Ctx G (.row (some ⟨b_2,0,none⟩) 12 ((tabR hsq (List.replicate 12 ([] : List Int))).map (Kd.v kd_25)) 172 1::tabI kd_25 (tabR hsq (List.replicate 12 ([] : List Int)))::.box b_1 [.slice none 0 0,.slice none 0 0,.slice none 0 0,.slice none 0 0,.slice none 0 0,.slice none 0 0,.slice none 0 0,.slice none 0 0,.slice none 0 0,.slice none 0 0,.slice none 0 0,.slice none 0 0] 172::Lf) w := hc
 refine zT h ?_
 refine wp_seq_k fun K3 h3 => zS fun K h => sp 1 hf rfl fun a hf => zP hf rfl (pLenS Tryz.underlying25 rfl) fun a hf => sp 1 hf rfl fun a hf => zT h ?_
 refine wp_block ?_
 obtain ⟨x5,hx5,hF⟩ := bnd_some hF
 let S5 : (Int × (List (List Int))) → Act → World → Prop := (fun (zz : Int × (List (List Int))) a w => ∃ (tcq : TabH),Has 27 a [(4,pq b_1),(5,pq b_2),(8,.slice assignment_p assignment.length assignment_c),(9,i6 ((assignment.length : Nat) : Int)),(10,i6 zz.1)] ∧ Ctx G (.row (some ⟨b_2,0,none⟩) tcq.1 ((tabR tcq.2 zz.2).map (Kd.v kd_25)) 172 1::tabI kd_25 (tabR tcq.2 zz.2)::.box b_1 [.slice none 0 0,.slice none 0 0,.slice none 0 0,.slice none 0 0,.slice none 0 0,.slice none 0 0,.slice none 0 0,.slice none 0 0,.slice none 0 0,.slice none 0 0,.slice none 0 0,.slice none 0 0] 172::Lf) w)
 have hr5 : ∀ (zz : Int × (List (List Int))) a w,x5 = .go zz → S5 zz a w → K3 a w := by
  rintro ⟨x,x_1⟩ a w rfl ⟨tcq,hf,hc⟩
  replace hF := exK_go hF
  refine h3 _ _ ?_
  refine zS fun K h => ?_
  obtain ⟨un,hun,hF⟩ := bnd_some hF
  refine zE hf hc rfl (eLdN (vs := ((tabR tcq.2 x_1).map (Kd.v kd_25)).flatten) ag_172 rfl (tarr_len one_kd_25 hun) (cells_rowall m0)) fun a w hf hc => stStW (n := 12) (vs := ((tabR tcq.2 x_1).map (Kd.v kd_25)).flatten) hf hc rfl rfl rfl rfl sz_172 (tarr_len one_kd_25 hun) (tarr_one one_kd_25) rfl u2 fun w hc => zT h ?_
  refine wp_ret ?_
  obtain rfl := sj hF
  replace hc := hc.drop k0
  exact fnOut1 (by simp) rfl Tryz.results109 hf hc (rv_cellN (vs := ((tabR tcq.2 x_1).map (Kd.v kd_25)).flatten) ag_172 rfl (tarr_len one_kd_25 hun) (cells_box (n := 12) m1 (takeW (tarr_len one_kd_25 hun)))) ⟨tcq.2,rfl,(hc.drop k1)⟩
 have ho5 : ∀ r,x5 = .out r → r = res := by
  rintro r rfl
  exact sj hF
 refine cLoop N (loopW (S := S5) (x := x5) ?_ N (0,(List.replicate 12 ([] : List Int))) _ _ ⟨(12,hsq),hf.kp rfl,hc⟩ hx5)
 clear hF hf hc
 rintro ⟨x,x_1⟩ st5 a w KB5 ⟨tcq,hf,hc⟩ hF hfin5 hK5
 unfold crew_work_has_s2_b5 at hF
 refine zS fun K h => sp 1 hf rfl fun a hf => zT h ?_
 refine wp_seq_k fun K8 h8 => zI hf rfl hF ?_ ?_ <;> clear hF <;> intro hF
 ·refine wp_skip ?_
  refine h8 _ _ ?_
  refine wp_seq_k fun K9 h9 => ?_
  have hj9 : ∀ (x_2 : List (List Int)) (tcq_1 : TabH) a w,Has 27 a [(4,pq b_1),(5,pq b_2),(8,.slice assignment_p assignment.length assignment_c),(9,i6 ((assignment.length : Nat) : Int)),(10,i6 x)] → Ctx G (.row (some ⟨b_2,0,none⟩) tcq_1.1 ((tabR tcq_1.2 x_2).map (Kd.v kd_25)) 172 1::tabI kd_25 (tabR tcq_1.2 x_2)::.box b_1 [.slice none 0 0,.slice none 0 0,.slice none 0 0,.slice none 0 0,.slice none 0 0,.slice none 0 0,.slice none 0 0,.slice none 0 0,.slice none 0 0,.slice none 0 0,.slice none 0 0,.slice none 0 0] 172::Lf) w → crew_work_has_s2_j9 N x x_2 = some st5 → K9 a w := by
   repeat (clear hF)
   repeat (clear hc)
   repeat (clear hf)
   intro x_2 tcq_1 a w hf hc hF
   unfold crew_work_has_s2_j9 at hF
   refine h9 _ _ ?_
   refine cReg ?_
   refine sp 2 hf rfl fun a hf => cNil ?_
   exact hK5 (W (x + 1),x_2) _ _ (sj hF).symm ⟨tcq_1,hf.kp rfl,hc⟩
  refine wp_block ?_
  refine zS fun K h => sp 1 hf rfl fun a hf => ?_
  obtain ⟨e_1,he_1,hF⟩ := bnd_some hF
  obtain ⟨b_3,o,qa,qp⟩ := h_assignment.atm he_1
  refine zP hf rfl (pIA Tryz.underlying25 sz_3 rfl rfl qa) fun a hf => zE hf hc rfl (eLd1 sc_3 rfl (cell_pc (j := 0) qp rfl)) fun a w hf hc => sp 2 hf rfl fun a hf => zT h ?_
  refine zS fun K h => sp 2 hf rfl fun a hf => zT h ?_
  refine zI hf rfl hF ?_ ?_ <;> clear hF <;> intro hF
  ·refine cReg ?_
   refine sp 2 hf rfl fun a hf => ?_
   obtain ⟨un_1,hun_1,hF⟩ := bnd_some hF
   obtain ⟨e_2,he_2,hF⟩ := bnd_some hF
   obtain ⟨qa_1,qr⟩ := row_atk hc m0 (tabR_getI he_2)
   refine zP hf rfl (Pu.cast (pIAA Tryz.underlying172 sz_25 rfl rfl (inR_spec hun_1).1 (inR_spec hun_1).2) (congrArg (fun k => Value.pointer (some ⟨b_2,k,none⟩)) (Nat.zero_add _))) fun a hf => zE hf hc rfl (eLd1 sc_25 rfl (cell_row (sz := 1) (i := e_1.toNat) (j := 0) m0 qr rfl)) fun a w hf hc => sp 1 hf rfl fun a hf => stBS (rows := ([x] : List Int).map encI_i64) (vs := [(0,i6 x)]) hf hc rfl rfl sl_25 rfl ⟨rfl,rfl,rfl,trivial⟩ rfl rfl fun b_4 a w hf hc => ?_
   replace hc := tab_out (hc.pick k2) he_2
   replace hc : Ctx G (.row ((tcq.2 e_1.toNat).1) ((tcq.2 e_1.toNat).2) (e_2.map encI_i64) 3 1::tabI kd_25 ((tabR tcq.2 x_1).eraseIdx e_1.toNat)::.row (some ⟨b_4,0,none⟩) 1 (([x] : List Int).map encI_i64) 3 1::.row (some ⟨b_2,0,none⟩) tcq.1 ((tabR tcq.2 x_1).map (Kd.v kd_25)) 172 1::.box b_1 [.slice none 0 0,.slice none 0 0,.slice none 0 0,.slice none 0 0,.slice none 0 0,.slice none 0 0,.slice none 0 0,.slice none 0 0,.slice none 0 0,.slice none 0 0,.slice none 0 0,.slice none 0 0] 172::Lf) w := hc
   obtain ⟨un_2,hun_2,hF⟩ := bnd_some hF
   refine stApm (xs := e_2) (ys := ([x] : List Int)) hf hc rfl rfl sl_25 rfl rfl rfl rfl rfl one_encI_i64 (src_row hc m2) (fun _ _ => u0) (by simpa using room_spec hun_2) fun p_1 c_1 a w hf hc => ?_
   obtain ⟨un_3,hun_3,hF⟩ := bnd_some hF
   obtain ⟨e_3,he_3,hF⟩ := bnd_some hF
   obtain ⟨qa_2,qr_1⟩ := row_atk hc m3 (tabR_getI he_3)
   refine zP hf rfl (Pu.cast (pIAA Tryz.underlying172 sz_25 rfl rfl (inR_spec hun_3).1 (inR_spec hun_3).2) (congrArg (fun k => Value.pointer (some ⟨b_2,k,none⟩)) (Nat.zero_add _))) fun a hf => stRw (vs := [.slice p_1 ((e_2 ++ [x]).length) c_1]) (o' := 0) (z := ((p_1,c_1),(e_2 ++ [x]))) (xs := (tabR tcq.2 x_1)) hf hc rfl rfl rfl rfl sz_25 rfl (fun x => (one_kd_25 x).1) (getI_lt (tabR_getI he_3)) (fun e _ => splW (one_kd_25 e).1) rfl u3 fun w hc => ?_
   replace hc := (((hc.pick k2).pick k2).pick k3).pick k3
   obtain ⟨hsq_1,hc⟩ := tab_store (K := kd_25) (h' := (p_1,c_1)) (y := (e_2 ++ [x])) he_3 hc
   replace hc : Ctx G (.row (some ⟨b_2,0,none⟩) tcq.1 ((tabR hsq_1 (x_1.set e_1.toNat (e_2 ++ [x]))).map (Kd.v kd_25)) 172 1::tabI kd_25 (tabR hsq_1 (x_1.set e_1.toNat (e_2 ++ [x])))::.row (some ⟨b_4,0,none⟩) 1 (([x] : List Int).map encI_i64) 3 1::.box b_1 [.slice none 0 0,.slice none 0 0,.slice none 0 0,.slice none 0 0,.slice none 0 0,.slice none 0 0,.slice none 0 0,.slice none 0 0,.slice none 0 0,.slice none 0 0,.slice none 0 0,.slice none 0 0] 172::Lf) w := hc
   refine cNil ?_
   replace hc := hc.drop k2
   exact hj9 (x_1.set e_1.toNat (e_2 ++ [x])) (tcq.1,hsq_1) _ _  (hf.kp rfl) hc hF
  ·refine wp_skip ?_
   exact hj9 x_1 tcq _ _  (hf.kp rfl) hc hF
 ·refine wp_exit ?_
  refine xThen ?_
  refine xThen ?_
  have he := sj hF
  rw [← he] at hfin5
  refine cHit ?_
  exact hr5 _ _ _ hfin5 ⟨tcq,hf.kp rfl,hc⟩

def crew_Blocks_2 (N : Nat) (q : Int) (x : crew_work) (x_1 : Int) (x_2 : Int) : Option (Bool) :=
 Option.bind (inR x_1 12) fun un =>
 Option.bind (inR q 12) fun un_1 =>
 Option.bind (inR x_1 12) fun un_2 =>
 Option.bind (inR x_2 12) fun un_3 =>
 some (decide ((x.rank (x_1 * 12 + x_2).toNat) < (x.rank (x_1 * 12 + q).toNat)))
theorem crew_Blocks_2_ok {N : Nat} {G : Pers} {Lf : List Ent} {w : World} (q : Int) (x : crew_work) (x_1 : Int) (x_2 : Int) {b_ : Nat} {b__1 : Nat} {x_Roster_People_p : Option Addr} {x_Roster_People_c : Nat} {x_Roster_Stations_p : Option Addr} {x_Roster_Stations_c : Nat} {b__2 : Nat} {b__3 : Nat} (h_x_Roster_People : RdT kd_25 G 1 x_Roster_People_p x_Roster_People_c x.Roster.People) (h_x_Roster_Stations : RdT kd_101 G 2 x_Roster_Stations_p x_Roster_Stations_c x.Roster.Stations) (h_x_pc : PC G b__1 0 (catc [.slice x_Roster_People_p x.Roster.People.length x_Roster_People_c,.slice x_Roster_Stations_p x.Roster.Stations.length x_Roster_Stations_c] 144 encI_i64 x.rank [])) (hc : Ctx G (.box b_ [pq b__1] 166::.box b__2 [i6 x_1] 3::.box b__3 [i6 x_2] 3::Lf) w) {res : Bool} (hF : crew_Blocks_2 N q x x_1 x_2 = some res) : Calls Tryz.prog 112 #[i6 q,pq b_,pq b__2,pq b__3] w (fun e w => e = .returned (.bool res) ∧ Ctx G (.box b_ [pq b__1] 166::.box b__2 [i6 x_1] 3::.box b__3 [i6 x_2] 3::Lf) w) := by
 unfold crew_Blocks_2 at hF
 refine fnIn Tryz.func112 rfl Tryz.ntmps112 rfl fun a hf => zS fun K h => sp 1 hf rfl fun a hf => zT h ?_
 refine wp_seq_k fun K2 h2 => ?_
 obtain ⟨un,hun,hF⟩ := bnd_some hF
 obtain ⟨un_1,hun_1,hF⟩ := bnd_some hF
 obtain ⟨un_2,hun_2,hF⟩ := bnd_some hF
 obtain ⟨un_3,hun_3,hF⟩ := bnd_some hF
 refine cQ hc follows_mx (by kernel_rfl) ?_
 refine qE hf rfl rfl rfl (eLd1 sc_166 rfl (cell_box m0 rfl)) fun a hf => qE hf rfl rfl rfl (eLd1 sc_3 rfl (cell_box m1 rfl)) fun a hf => qE hf rfl rfl rfl (Pu.ev (pM rfl)) fun a hf => qE hf rfl rfl rfl (Pu.ev (pNC rfl)) fun a hf => qE hf rfl rfl rfl (Pu.ev (pFA fa_181_1 rfl)) fun a hf => qE hf rfl rfl rfl (Pu.ev (pIAA Tryz.underlying179 sz_178 rfl rfl (inR_spec hun).1 (inR_spec hun).2)) fun a hf => qE hf rfl rfl rfl (Pu.ev (Pu.cast (pIAA Tryz.underlying178 sz_3 rfl rfl (inR_spec hun_1).1 (inR_spec hun_1).2) (congrArg (fun k => Value.pointer (some ⟨b__1,k,none⟩)) (flat_off (M := 12) (0 + 2) hun hun_1 rfl)))) fun a hf => qE hf rfl rfl rfl (eLd1 sc_3 rfl (cell_pca (j := 0) h_x_pc (fun x => (one_encI_i64 x).1) rfl (inR2 hun hun_1 rfl) rfl)) fun a hf => qE hf rfl rfl rfl (eLd1 sc_166 rfl (cell_box m0 rfl)) fun a hf => qE hf rfl rfl rfl (eLd1 sc_3 rfl (cell_box m1 rfl)) fun a hf => qE hf rfl rfl rfl (eLd1 sc_3 rfl (cell_box m2 rfl)) fun a hf => qE hf rfl rfl rfl (Pu.ev (pNC rfl)) fun a hf => qE hf rfl rfl rfl (Pu.ev (pFA fa_181_1 rfl)) fun a hf => ?_
 refine qE hf rfl rfl rfl (Pu.ev (pIAA Tryz.underlying179 sz_178 rfl rfl (inR_spec hun_2).1 (inR_spec hun_2).2)) fun a hf => qE hf rfl rfl rfl (Pu.ev (Pu.cast (pIAA Tryz.underlying178 sz_3 rfl rfl (inR_spec hun_3).1 (inR_spec hun_3).2) (congrArg (fun k => Value.pointer (some ⟨b__1,k,none⟩)) (flat_off (M := 12) (0 + 2) hun_2 hun_3 rfl)))) fun a hf => qE hf rfl rfl rfl (eLd1 sc_3 rfl (cell_pca (j := 0) h_x_pc (fun x => (one_encI_i64 x).1) rfl (inR2 hun_2 hun_3 rfl) rfl)) fun a hf => qE hf rfl rfl rfl (Pu.ev (pGt rfl rfl)) fun a hf => qE hf rfl rfl rfl (Pu.ev (pA rfl)) fun a hf => ?_
 intro w hc
 refine h2 _ _ ?_
 refine wp_ret ?_
 obtain rfl := sj hF
 exact zO1 Tryz.results112 hf rfl ⟨rfl,hc⟩

def slices_IndexFunc_Lint_int_s5_b4 (N : Nat) (s_ : List Int) (f_ : crew_work) (f__1 : Int) (f__2 : Int) (x : Int) : Option (Step (Int) (Int)) :=
 cond (decide (x < ((s_.length : Nat) : Int)))
 (Option.bind (getI s_ x) fun e_1 =>
 Option.bind (crew_Blocks_2 N e_1 f_ f__1 f__2) fun r =>
 cond r
 (some (.ret x))
 (some (.cont (W (x + 1)))))
 (some (.brk x))
def slices_IndexFunc_Lint_int_s5 (N : Nat) (s_ : List Int) (f_ : crew_work) (f__1 : Int) (f__2 : Int) : Option (Int) :=
 Option.bind (loopO (fun s4 => slices_IndexFunc_Lint_int_s5_b4 N s_ f_ f__1 f__2 s4) N 0) fun x4 =>
 exK x4 (fun s4 => some (-1)) some
theorem slices_IndexFunc_Lint_int_s5_ok {N : Nat} {G : Pers} {Lf : List Ent} {w : World} (s_ : List Int) (f_ : crew_work) (f__1 : Int) (f__2 : Int) {s__p : Option Addr} {s__c : Nat} {b_ : Nat} {b__1 : Nat} {f__Roster_People_p : Option Addr} {f__Roster_People_c : Nat} {f__Roster_Stations_p : Option Addr} {f__Roster_Stations_c : Nat} {b__2 : Nat} {b__3 : Nat} (h_s_ : Rd G 1 s__p s__c (s_.map encI_i64)) (h_f__Roster_People : RdT kd_25 G 1 f__Roster_People_p f__Roster_People_c f_.Roster.People) (h_f__Roster_Stations : RdT kd_101 G 2 f__Roster_Stations_p f__Roster_Stations_c f_.Roster.Stations) (h_f__pc : PC G b__1 0 (catc [.slice f__Roster_People_p f_.Roster.People.length f__Roster_People_c,.slice f__Roster_Stations_p f_.Roster.Stations.length f__Roster_Stations_c] 144 encI_i64 f_.rank [])) (hc : Ctx G (.box b_ [pq b__1] 166::.box b__2 [i6 f__1] 3::.box b__3 [i6 f__2] 3::Lf) w) {res : Int} (hF : slices_IndexFunc_Lint_int_s5 N s_ f_ f__1 f__2 = some res) : Calls Tryz.prog 97 #[.slice s__p s_.length s__c,.func (.func 112) #[] #[pq b_,pq b__2,pq b__3]] w (fun e w => e = .returned (i6 res) ∧ Ctx G (.box b_ [pq b__1] 166::.box b__2 [i6 f__1] 3::.box b__3 [i6 f__2] 3::Lf) w) := by
 unfold slices_IndexFunc_Lint_int_s5 at hF
 refine fnIn Tryz.func97 rfl Tryz.ntmps97 rfl fun a hf => zS fun K h => sp 1 hf rfl fun a hf => zT h ?_
 refine wp_seq_k fun K2 h2 => zS fun K h => sp 1 hf rfl fun a hf => zP hf rfl (pLenS Tryz.underlying25 rfl) fun a hf => sp 1 hf rfl fun a hf => zT h ?_
 refine wp_block ?_
 obtain ⟨x4,hx4,hF⟩ := bnd_some hF
 let S4 : Int → Act → World → Prop := (fun (zz : Int) a w => Has 19 a [(0,.slice s__p s_.length s__c),(1,.func (.func 112) #[] #[pq b_,pq b__2,pq b__3]),(7,i6 ((s_.length : Nat) : Int)),(8,i6 zz)] ∧ Ctx G (.box b_ [pq b__1] 166::.box b__2 [i6 f__1] 3::.box b__3 [i6 f__2] 3::Lf) w)
 have hr4 : ∀ (zz : Int) a w,x4 = .go zz → S4 zz a w → K2 a w := by
  rintro x a w rfl ⟨hf,hc⟩
  replace hF := exK_go hF
  refine h2 _ _ ?_
  refine zS fun K h => sp 1 hf rfl fun a hf => zT h ?_
  refine wp_ret ?_
  obtain rfl := sj hF
  exact zO1 Tryz.results97 hf rfl ⟨rfl,hc⟩
 have ho4 : ∀ r,x4 = .out r → r = res := by
  rintro r rfl
  exact sj hF
 refine cLoop N (loopW (S := S4) (x := x4) ?_ N 0 _ _ ⟨hf.kp rfl,hc⟩ hx4)
 clear hF hf hc
 rintro x st4 a w KB4 ⟨hf,hc⟩ hF hfin4 hK4
 unfold slices_IndexFunc_Lint_int_s5_b4 at hF
 refine zS fun K h => sp 1 hf rfl fun a hf => zT h ?_
 refine wp_seq_k fun K7 h7 => zI hf rfl hF ?_ ?_ <;> clear hF <;> intro hF
 ·refine wp_skip ?_
  refine h7 _ _ ?_
  refine wp_seq_k fun K8 h8 => wp_block ?_
  refine zS fun K h => sp 2 hf rfl fun a hf => zT h ?_
  refine zS fun K h => sp 3 hf rfl fun a hf => ?_
  obtain ⟨e_1,he_1,hF⟩ := bnd_some hF
  obtain ⟨b_1,o,qa,qp⟩ := h_s_.atm he_1
  refine zP hf rfl (pIA Tryz.underlying25 sz_3 rfl rfl qa) fun a hf => zE hf hc rfl (eLd1 sc_3 rfl (cell_pc (j := 0) qp rfl)) fun a w hf hc => ?_
  obtain ⟨r,hr,hF⟩ := bnd_some hF
  refine zQ (v := .bool r) hf hc en_112 rfl (fun w hc => (crew_Blocks_2_ok e_1 f_ f__1 f__2 h_f__Roster_People h_f__Roster_Stations h_f__pc (((hc.pick k2).pick k2).pick k2) hr).mono fun e w h => ⟨h.1,(((h.2.unpick k2).unpick k2).unpick k2)⟩) fun a w hf hc => zT h ?_
  refine zI hf rfl hF ?_ ?_ <;> clear hF <;> intro hF
  ·refine zS fun K h => sp 2 hf rfl fun a hf => zT h ?_
   refine wp_ret ?_
   refine xBlkR ?_
   refine xThenR ?_
   refine xThenR ?_
   have he := sj hF
   rw [← he] at hfin4
   replace hF := ho4 _ hfin4
   refine xBlkR ?_
   refine xThenR ?_
   obtain rfl := hF
   exact zO1 Tryz.results97 hf rfl ⟨rfl,hc⟩
  ·refine wp_skip ?_
   refine h8 _ _ ?_
   refine cReg ?_
   refine sp 2 hf rfl fun a hf => cNil ?_
   exact hK4 (W (x + 1)) _ _ (sj hF).symm ⟨hf.kp rfl,hc⟩
 ·refine wp_exit ?_
  refine xThen ?_
  refine xThen ?_
  have he := sj hF
  rw [← he] at hfin4
  refine cHit ?_
  exact hr4 _ _ _ hfin4 ⟨hf.kp rfl,hc⟩

def slices_ContainsFunc_Lint_int_s5 (N : Nat) (s_ : List Int) (f_ : crew_work) (f__1 : Int) (f__2 : Int) : Option (Bool) :=
 Option.bind (slices_IndexFunc_Lint_int_s5 N s_ f_ f__1 f__2) fun r =>
 some (decide (0 ≤ r))
theorem slices_ContainsFunc_Lint_int_s5_ok {N : Nat} {G : Pers} {Lf : List Ent} {w : World} (s_ : List Int) (f_ : crew_work) (f__1 : Int) (f__2 : Int) {s__p : Option Addr} {s__c : Nat} {b_ : Nat} {b__1 : Nat} {f__Roster_People_p : Option Addr} {f__Roster_People_c : Nat} {f__Roster_Stations_p : Option Addr} {f__Roster_Stations_c : Nat} {b__2 : Nat} {b__3 : Nat} (h_s_ : Rd G 1 s__p s__c (s_.map encI_i64)) (h_f__Roster_People : RdT kd_25 G 1 f__Roster_People_p f__Roster_People_c f_.Roster.People) (h_f__Roster_Stations : RdT kd_101 G 2 f__Roster_Stations_p f__Roster_Stations_c f_.Roster.Stations) (h_f__pc : PC G b__1 0 (catc [.slice f__Roster_People_p f_.Roster.People.length f__Roster_People_c,.slice f__Roster_Stations_p f_.Roster.Stations.length f__Roster_Stations_c] 144 encI_i64 f_.rank [])) (hc : Ctx G (.box b_ [pq b__1] 166::.box b__2 [i6 f__1] 3::.box b__3 [i6 f__2] 3::Lf) w) {res : Bool} (hF : slices_ContainsFunc_Lint_int_s5 N s_ f_ f__1 f__2 = some res) : Calls Tryz.prog 113 #[.slice s__p s_.length s__c,.func (.func 112) #[] #[pq b_,pq b__2,pq b__3]] w (fun e w => e = .returned (.bool res) ∧ Ctx G (.box b_ [pq b__1] 166::.box b__2 [i6 f__1] 3::.box b__3 [i6 f__2] 3::Lf) w) := by
 unfold slices_ContainsFunc_Lint_int_s5 at hF
 refine fnIn Tryz.func113 rfl Tryz.ntmps113 rfl fun a hf => zS fun K h => sp 1 hf rfl fun a hf => zT h ?_
 refine zS fun K h => sp 2 hf rfl fun a hf => ?_
 obtain ⟨r,hr,hF⟩ := bnd_some hF
 refine zQ (v := i6 r) hf hc en_97 rfl (fun w hc => (slices_IndexFunc_Lint_int_s5_ok s_ f_ f__1 f__2 h_s_ h_f__Roster_People h_f__Roster_Stations h_f__pc (((hc.pick k2).pick k2).pick k2) hr).mono fun e w h => ⟨h.1,(((h.2.unpick k2).unpick k2).unpick k2)⟩) fun a w hf hc => sp 2 hf rfl fun a hf => zT h ?_
 refine wp_ret ?_
 obtain rfl := sj hF
 exact zO1 Tryz.results113 hf rfl ⟨rfl,hc⟩

def crew_Blocks_r42 (N : Nat) (r : crew_Roster) (r_4 : (Nat → Int) × Int) (r_6 : (List (List Int))) (x_1 : Int) (x_5 : Int) (x_6 : Int) (x_7 : Int) (xv : Int) : Option (Rs (Int × Int × Int)) :=
 Option.bind (Option.bind (inR xv 12) fun un_2 =>
 Option.bind (getI r_6 xv) fun e_3 =>
 Option.bind (getI r.Stations xv) fun e_4 =>
 cond (decide (((e_3.length : Nat) : Int) < e_4.Places))
 (some true)
 (Option.bind (slices_ContainsFunc_Lint_int_s5 N e_3 (⟨r,r_4.1⟩ : crew_work) xv x_1) fun r_8 =>
 some r_8)) fun rg =>
 cond rg
 (some (.ret (0,x_1,xv)))
 (some (.go (x_5,x_6,x_7)))
def crew_Blocks_b35 (N : Nat) (r : crew_Roster) (assignment : List Int) (r_4 : (Nat → Int) × Int) (r_6 : (List (List Int))) (x_1 : Int) (x_2 : Int) (x_3 : Int) (x_4 : Int) : Option (Step (Int × Int × Int × Int) (crew_Refusal × Int)) :=
 cond (decide (x_1 < ((assignment.length : Nat) : Int)))
 (Option.bind (getI assignment x_1) fun e_2 =>
 Option.bind (crew_work_better N (⟨r,r_4.1⟩ : crew_work) x_1 e_2) fun r_7 =>
 Option.bind (crew_work_better_1 N (⟨r,r_4.1⟩ : crew_work) r_7.1 r_7.2 (rY (fun (zz : Int × Int × Int) (ix_ : Int) => crew_Blocks_r42 N r r_4 r_6 x_1 zz.1 zz.2.1 zz.2.2 ix_)) (.go (x_2,x_3,x_4))) fun x42 =>
 rsK x42 (fun zz42 => some (.cont (W (x_1 + 1),zz42.1,zz42.2.1,zz42.2.2))) (fun zz42 => some (.brk (x_1,zz42.1,zz42.2.1,zz42.2.2))))
 (some (.brk (x_1,x_2,x_3,x_4)))
def crew_Blocks_b30 (N : Nat) (r : crew_Roster) (assignment : List Int) (r_4 : (Nat → Int) × Int) (r_6 : (List (List Int))) (x : Int) : Option (Step (Int) (crew_Refusal × Int)) :=
 cond (decide (x < ((assignment.length : Nat) : Int)))
 (Option.bind (getI assignment x) fun e_5 =>
 Option.bind (cond (e_5 != (-1)) (Option.bind (crew_work_possible N (⟨r,r_4.1⟩ : crew_work) x e_5) fun r_9 =>
 Option.bind (cond (!r_9) (some true) (Option.bind (inR e_5 12) fun un_3 =>
 Option.bind (getI r_6 e_5) fun e_6 =>
 Option.bind (getI r.Stations e_5) fun e_7 =>
 some (decide (e_7.Places < ((e_6.length : Nat) : Int))))) fun t_3 =>
 some t_3) (some false)) fun t_4 =>
 cond t_4
 (some (.ret ((⟨0,0⟩ : crew_Refusal),7)))
 (some (.cont (W (x + 1)))))
 (some (.brk x))
def crew_Blocks (N : Nat) (r : crew_Roster) (assignment : List Int) : Option (crew_Refusal × Int) :=
 Option.bind (crew_opened N r) (sumK (fun _ => none)
 (fun r_4 => cond (r_4.2 != 0)
 (some ((⟨0,0⟩ : crew_Refusal),r_4.2))
 (Option.bind (cond (((assignment.length : Nat) : Int) != ((r.People.length : Nat) : Int)) (some true) (Option.bind (crew_every_int_s3 N assignment r) fun r_5 =>
 some (!r_5))) fun t_2 =>
 cond t_2
 (some ((⟨0,0⟩ : crew_Refusal),2))
 (Option.bind (crew_work_has_s2 N (⟨r,r_4.1⟩ : crew_work) assignment) fun r_6 =>
 Option.bind (isLen 12 r_6) fun un_1 =>
 Option.bind (loopO (fun s30 => crew_Blocks_b30 N r assignment r_4 r_6 s30) N 0) fun x30 =>
 exK x30 (fun s30 => Option.bind (loopO (fun s35 => crew_Blocks_b35 N r assignment r_4 r_6 s35.1 s35.2.1 s35.2.2.1 s35.2.2.2) N (0,5,0,0)) fun x35 =>
 exK x35 (fun s35 => some ((⟨s35.2.2.1,s35.2.2.2⟩ : crew_Refusal),s35.2.1)) some) some))))
theorem crew_Blocks_ok {N : Nat} {G : Pers} {Lf : List Ent} {w : World} (r : crew_Roster) (assignment : List Int) {r_People_p : Option Addr} {r_People_c : Nat} {r_Stations_p : Option Addr} {r_Stations_c : Nat} {assignment_p : Option Addr} {assignment_c : Nat} (h_r_People : RdT kd_25 G 1 r_People_p r_People_c r.People) (h_r_Stations : RdT kd_101 G 2 r_Stations_p r_Stations_c r.Stations) (h_assignment : Rd G 1 assignment_p assignment_c (assignment.map encI_i64)) (hc : Ctx G (Lf) w) {res : crew_Refusal × Int} (hF : crew_Blocks N r assignment = some res) : Calls Tryz.prog 46 #[.agg #[.slice r_People_p r.People.length r_People_c,.slice r_Stations_p r.Stations.length r_Stations_c],.slice assignment_p assignment.length assignment_c] w (fun e w => e = .returned (.tuple #[.agg #[i6 res.1.Person,i6 res.1.Station],i6 res.2]) ∧ Ctx G (Lf) w) := by
 unfold crew_Blocks at hF
 refine fnInM Tryz.func46 rfl Tryz.ntmps46 rfl fun a hf => zS fun K h => zB hf hc rfl fun b_1 a w hf hc => zA hf hc zr_86 rfl fun b_2 a w hf hc => sp 1 hf rfl fun a hf => zT h ?_
 refine wp_scope_straight ?_
 refine wp_seq_k fun K2 h2 => cReg ?_
 refine zN hf hc ag_78 m1 rfl fun a w hf hc => ?_
 obtain ⟨r_4,hr_4,hF⟩ := bnd_some hF
 cases r_4 with
 | inl rr =>
  replace hF := sumKl hF
  have hrr := hr_4
  exact noneO hF
 | inr r_4 =>
  replace hF := sumKr hF
  refine zC hf en_105 rfl (crew_opened_ok r h_r_People h_r_Stations hc hr_4) ?_
  rintro _ w ⟨b_13,rfl,hc⟩
  refine ⟨_,rfl,fun a hf => ?_⟩
  refine sp 3 hf rfl fun a hf => zA hf hc zr_166 rfl fun b_14 a w hf hc => zA hf hc zr_34 rfl fun b_15 a w hf hc => zW hf hc sz_166 u1 rfl fun w hc => zW hf hc sz_34 u0 rfl fun w hc => cNil ?_
  obtain ⟨G,hle_fz_1,pc_fz_1,hc,-⟩ := lendB hc k2
  replace pc_fz_1 := pc_of pc_fz_1
  refine h2 _ _ ?_
  refine wp_seq_k fun K22 h22 => wp_block ?_
  refine zS fun K h => zL hf hc sc_34 m0 rfl fun a w hf hc => sp 2 hf rfl fun a hf => zT h ?_
  refine zI hf rfl hF ?_ ?_ <;> clear hF <;> intro hF
  ·refine wp_seq_k fun K24 h24 => regionE (fun θ => [⟨none,none,4,pq b_2⟩,⟨none,some 3,5,i6 0⟩,⟨none,none,7,pq b_15⟩,⟨some 0,none,25,.agg #[i6 0,i6 0]⟩,⟨some 1,none,26,i6 r_4.2⟩,⟨some 3,none,5,i6 r_4.2⟩]) (fun E θ => .box b_15 [i6 r_4.2] 34::.box b_14 [pq b_13] 166::.box b_2 [i6 0,i6 0] 86::.box b_1 [.slice r_People_p r.People.length r_People_c,.slice r_Stations_p r.Stations.length r_Stations_c] 78::Lf) [] (fun a w => Has 115 a [(4,pq b_2),(5,i6 r_4.2)] ∧ Ctx G (.box b_15 [i6 r_4.2] 34::.box b_14 [pq b_13] 166::.box b_2 [i6 0,i6 0] 86::.box b_1 [.slice r_People_p r.People.length r_People_c,.slice r_Stations_p r.Stations.length r_Stations_c] 78::Lf) w) follows_mx (by kernel_rfl) (by kernel_rfl) (HasE.of hf ⟨rfl,rfl,rfl,trivial,trivial,trivial,trivial⟩) hc ⟨?_,?_,?_,?_,trivial⟩ ?_ ?_
   ·intro E θ a w hD hi hp he hc
    have hf := he.h0
    refine zP hf rfl (pBuildS (cells := [i6 0,i6 0]) bt_86 rfl rfl) fun a hf => zD θ he hi hf 3 rfl rfl rfl hc
   ·intro E θ a w hD hi hp he hc
    have hf := he.h0.mT he 2 rfl
    refine zL hf hc sc_34 m0 rfl fun a w hf hc => zD θ he hi hf 4 rfl rfl rfl hc
   ·intro E θ a w hD hi hp he hc
    have e0 := hp.o 0 rfl
    have hf := (he.h0.mT he 0 rfl).mP he 3 rfl e0
    refine zW hf hc sz_86 u2 rfl fun w hc => zG θ he hi hf rfl hc
   ·intro E θ a w hD hi hp he hc
    have e1 := hp.o 1 rfl
    have hf := he.h0.mP he 4 rfl e1
    refine sp 1 hf rfl fun a hf => zD θ he hi hf 5 rfl rfl rfl hc
   ·intro E θ a w hall he hc
    have hf := he.h0
    have e3 := hall 3 rfl
    replace hf := hf.more he 5 rfl (onP e3)
    replace hf := hf.more he 0 rfl (onT)
    exact ⟨hf.kp rfl,hc⟩
   rintro a w ⟨hf,hc⟩
   refine h24 _ _ ?_
   refine wp_ret ?_
   refine xBlkR ?_
   refine xThenR ?_
   refine xScopeR ?_
   obtain rfl := sj hF
   replace hc := hc.down hle_fz_1
   replace hc := ((hc.drop k3).drop k1).drop k0
   refine outM hf ?_
   exact outM2 Tryz.results46 hf hc (rv_cellN (vs := [i6 0,i6 0]) ag_86 rfl rfl (cells_box (n := 2) m0 rfl)) (show look _ 5 = _ from rfl) ⟨rfl,(hc.drop k0)⟩
  ·refine zS fun K h => sp 1 hf rfl fun a hf => zP hf rfl (pLenS Tryz.underlying25 rfl) fun a hf => zP hf rfl (pFA fa_78_0 rfl) fun a hf => zL hf hc sc_75 m3 rfl fun a w hf hc => zP hf rfl (pLenS Tryz.underlying75 rfl) fun a hf => sp 2 hf rfl fun a hf => ?_
   obtain ⟨t_2,ht_2,hF⟩ := bnd_some hF
   refine stCc 5 (fun a => Has 115 a [(1,.slice assignment_p assignment.length assignment_c),(2,pq b_1),(4,pq b_2),(6,pq b_14),(7,pq b_15),(28,.slice assignment_p assignment.length assignment_c),(29,i6 ((assignment.length : Nat) : Int)),(30,pq b_1),(31,.slice r_People_p r.People.length r_People_c),(32,i6 ((r.People.length : Nat) : Int)),(33,.bool (((assignment.length : Nat) : Int) != ((r.People.length : Nat) : Int))),(34,.bool (((assignment.length : Nat) : Int) != ((r.People.length : Nat) : Int))),(39,.bool t_2)]) hc ?_ ?_
   ·cases hb : (((assignment.length : Nat) : Int) != ((r.People.length : Nat) : Int))
    ·rw [hb] at hf
     have hF := condF hb ht_2
     refine sp 1 hf rfl fun a hf => zP hf rfl (pMF (us := [pq b_1]) rfl rfl) fun a hf => ?_
     obtain ⟨r_5,hr_5,hF⟩ := bnd_some hF
     refine zQ (v := .bool r_5) hf hc en_87 rfl (fun w hc => (crew_every_int_s3_ok assignment r (h_assignment.mono hle_fz_1) (h_r_People.mono hle_fz_1) (h_r_Stations.mono hle_fz_1) (hc.pick k3) hr_5).mono fun e w h => ⟨h.1,(h.2.unpick k3)⟩) fun a w hf hc => sp 2 hf rfl fun a hf => ?_
     obtain rfl := sj hF
     exact cNil ⟨hf.kp rfl,hc⟩
    ·rw [hb] at hf
     have hF := condT hb ht_2
     obtain rfl := sj hF
     refine stS hf rfl rfl rfl fun a hf => stS hf rfl rfl rfl fun a hf => stS hf rfl rfl rfl fun a hf => stS hf rfl rfl rfl fun a hf => sp 1 hf rfl fun a hf => cNil ⟨hf.kp rfl,hc⟩
   intro a w ⟨hf,hc⟩
   refine sp 1 hf rfl fun a hf => zT h ?_
   refine zI hf rfl hF ?_ ?_ <;> clear hF <;> intro hF
   ·refine zS fun K h => zP hf rfl (pBuildS (cells := [i6 0,i6 0]) bt_86 rfl rfl) fun a hf => zW hf hc sz_86 u2 rfl fun w hc => sp 1 hf rfl fun a hf => zT h ?_
    refine wp_ret ?_
    refine xBlkR ?_
    refine xThenR ?_
    refine xScopeR ?_
    obtain rfl := sj hF
    replace hc := hc.down hle_fz_1
    replace hc := ((hc.drop k3).drop k1).drop k0
    refine outM hf ?_
    exact outM2 Tryz.results46 hf hc (rv_cellN (vs := [i6 0,i6 0]) ag_86 rfl rfl (cells_box (n := 2) m0 rfl)) (show look _ 5 = _ from rfl) ⟨rfl,(hc.drop k0)⟩
   ·refine wp_skip ?_
    refine h22 _ _ ?_
    refine wp_seq_k fun K27 h27 => ?_
    obtain ⟨r_6,hr_6,hF⟩ := bnd_some hF
    obtain ⟨un_1,hun_1,hF⟩ := bnd_some hF
    replace hc := hc.nilRow 0 0
    replace hc := hc.nilRow 0 0
    refine regionE (fun θ => [⟨none,none,1,.slice assignment_p assignment.length assignment_c⟩,⟨none,none,2,pq b_1⟩,⟨none,none,4,pq b_2⟩,⟨none,none,6,pq b_14⟩,⟨none,none,7,pq b_15⟩,⟨some 0,none,41,pq b_13⟩,⟨some 1,none,42,.slice assignment_p assignment.length assignment_c⟩,⟨some 2,none,43,.agg ((tabR (θ 16).h r_6).map (Kd.v kd_25)).flatten.toArray⟩,⟨some 3,none,44,pq b_13⟩,⟨some 4,none,45,.func (.func 110) #[pq b_13] #[]⟩,⟨some 5,none,8,.pointer (some ⟨(θ 40).b,0,none⟩)⟩,⟨some 7,none,9,.func (.func 110) #[pq b_13] #[]⟩]) (fun E θ => (bif E 6 then .box (θ 40).b ((tabR (θ 16).h r_6).map (Kd.v kd_25)).flatten 172 else bif E 5 then .box (θ 40).b [.slice none 0 0,.slice none 0 0,.slice none 0 0,.slice none 0 0,.slice none 0 0,.slice none 0 0,.slice none 0 0,.slice none 0 0,.slice none 0 0,.slice none 0 0,.slice none 0 0,.slice none 0 0] 172 else .row none 0 [] 0 0)::(bif E 2 then tabI kd_25 (tabR (θ 16).h r_6) else .row none 0 [] 0 0)::.box b_15 [i6 r_4.2] 34::.box b_14 [pq b_13] 166::.box b_2 [i6 0,i6 0] 86::.box b_1 [.slice r_People_p r.People.length r_People_c,.slice r_Stations_p r.Stations.length r_Stations_c] 78::Lf) [(6,2),(6,5)] (fun a w => ∃ (b_17 : Nat) (hsq_3 : Hds),Has 115 a [(1,.slice assignment_p assignment.length assignment_c),(2,pq b_1),(4,pq b_2),(6,pq b_14),(7,pq b_15),(8,pq b_17),(9,.func (.func 110) #[pq b_13] #[])] ∧ Ctx G (.box b_17 ((tabR hsq_3 r_6).map (Kd.v kd_25)).flatten 172::tabI kd_25 (tabR hsq_3 r_6)::.box b_15 [i6 r_4.2] 34::.box b_14 [pq b_13] 166::.box b_2 [i6 0,i6 0] 86::.box b_1 [.slice r_People_p r.People.length r_People_c,.slice r_Stations_p r.Stations.length r_Stations_c] 78::Lf) w) follows_mx (by kernel_rfl) (by kernel_rfl) (HasE.of hf ⟨rfl,rfl,rfl,rfl,rfl,trivial,trivial,trivial,trivial,trivial,trivial,trivial,trivial⟩) hc ⟨?_,?_,?_,?_,?_,?_,?_,?_,trivial⟩ ?_ ?_
    ·intro E θ a w hD hi hp he hc
     have hf := he.h0.mT he 3 rfl
     refine zL hf hc sc_166 m3 rfl fun a w hf hc => zD θ he hi hf 5 rfl rfl rfl hc
    ·intro E θ a w hD hi hp he hc
     have hf := he.h0.mT he 0 rfl
     refine sp 1 hf rfl fun a hf => zD θ he hi hf 6 rfl rfl rfl hc
    ·intro E θ a w hD hi hp he hc
     have e0 := hp.o 0 rfl
     have e1 := hp.o 1 rfl
     have e6 := hD.f 0 rfl hi
     try dsimp only at hc
     rw [hi,e6] at hc
     have hf := (he.h0.mP he 5 rfl e0).mP he 6 rfl e1
     refine zC hf en_109 rfl (crew_work_has_s2_ok (⟨r,r_4.1⟩ : crew_work) assignment (h_r_People.mono hle_fz_1) (h_r_Stations.mono hle_fz_1) pc_fz_1 (h_assignment.mono hle_fz_1) hc hr_6) ?_
     rintro _ w ⟨hsq_2,rfl,hc⟩
     refine ⟨_,rfl,fun a hf => ?_⟩
     refine cNil ?_
     refine xThenN ?_
     intro ds u hau
     replace hc := ((hc.drop k2).pick k0).pick k1
     refine ⟨(setT θ 16 ⟨0,none,0,hsq_2⟩),he.put hi hau hf rfl [] trivial ⟨qq,qq,qq,qq,qq,qq,qq,qq,qq,qq,qq,qq,trivial⟩,?_⟩
     try dsimp only
     rw [updE_self E 2,updE_fls 2 e6 rfl]
     exact hc
    ·intro E θ a w hD hi hp he hc
     have hf := he.h0.mT he 3 rfl
     refine zL hf hc sc_166 m3 rfl fun a w hf hc => zD θ he hi hf 8 rfl rfl rfl hc
    ·intro E θ a w hD hi hp he hc
     have e3 := hp.o 3 rfl
     have hf := he.h0.mP he 8 rfl e3
     refine zP hf rfl (pMF (vs := [pq b_13]) (us := []) rfl rfl) fun a hf => zD θ he hi hf 9 rfl rfl rfl hc
    ·intro E θ a w hD hi hp he hc
     have e6 := hD.f 1 rfl hi
     try dsimp only at hc
     rw [hi,e6] at hc
     have hf := he.h0
     refine zA hf hc zr_172 rfl fun b_16 a w hf hc => cNil ?_
     refine xThenN ?_
     intro ds u hau
     replace hc := hc.drop k1
     refine ⟨(setT θ 40 ⟨b_16,none,0,(fun _ => (none,0))⟩),he.put hi hau hf rfl [] trivial ⟨qq,qq,qq,qq,qq,qq,qq,qq,qq,qq,qq,qq,trivial⟩,?_⟩
     try dsimp only
     rw [updE_self E 5,updE_fls 5 e6 rfl]
     exact hc
    ·intro E θ a w hD hi hp he hc
     have e2 := hp.o 2 rfl
     have e5 := hp.o 5 rfl
     try dsimp only at hc
     rw [e5,hi] at hc
     have hf := (he.h0.mP he 7 rfl e2).mP he 10 rfl e5
     refine stStW (n := 12) (vs := ((tabR (θ 16).h r_6).map (Kd.v kd_25)).flatten) hf hc rfl rfl rfl rfl sz_172 (tarr_len one_kd_25 hun_1) (tarr_one one_kd_25) rfl u0 fun w hc => zG θ he hi hf rfl ?_
     try dsimp only
     rw [updE_tru 6 e5,updE_self E 6]
     exact hc
    ·intro E θ a w hD hi hp he hc
     have e4 := hp.o 4 rfl
     have hf := he.h0.mP he 9 rfl e4
     refine sp 1 hf rfl fun a hf => zD θ he hi hf 11 rfl rfl rfl hc
    ·intro E θ a w hall he hc
     have hf := he.h0
     have e2 := hall 2 rfl
     have e5 := hall 5 rfl
     have e6 := hall 6 rfl
     have e7 := hall 7 rfl
     replace hf := hf.more he 11 rfl (onP e7)
     replace hf := hf.more he 10 rfl (onP e5)
     replace hf := hf.more he 4 rfl (onT)
     replace hf := hf.more he 3 rfl (onT)
     replace hf := hf.more he 2 rfl (onT)
     replace hf := hf.more he 1 rfl (onT)
     replace hf := hf.more he 0 rfl (onT)
     try dsimp only at hc
     rw [e2,e5,e6] at hc
     exact ⟨(θ 40).b,(θ 16).h,hf.kp rfl,hc⟩
    rintro a w ⟨b_17,hsq_3,hf,hc⟩
    obtain ⟨G,hle_fz_2,hz_fz_2,hc,-⟩ := lendI kdo_25 hc k1
    refine h27 _ _ ?_
    refine wp_seq_k fun K28 h28 => zS fun K h => sp 1 hf rfl fun a hf => zP hf rfl (pLenS Tryz.underlying25 rfl) fun a hf => sp 1 hf rfl fun a hf => zT h ?_
    refine wp_block ?_
    obtain ⟨x30,hx30,hF⟩ := bnd_some hF
    let S30 : Int → Act → World → Prop := (fun (zz : Int) a w => Has 115 a [(1,.slice assignment_p assignment.length assignment_c),(2,pq b_1),(4,pq b_2),(6,pq b_14),(7,pq b_15),(8,pq b_17),(9,.func (.func 110) #[pq b_13] #[]),(46,.slice assignment_p assignment.length assignment_c),(47,i6 ((assignment.length : Nat) : Int)),(48,i6 zz)] ∧ Ctx G (.box b_17 ((tabR hsq_3 r_6).map (Kd.v kd_25)).flatten 172::.box b_15 [i6 r_4.2] 34::.box b_14 [pq b_13] 166::.box b_2 [i6 0,i6 0] 86::.box b_1 [.slice r_People_p r.People.length r_People_c,.slice r_Stations_p r.Stations.length r_Stations_c] 78::Lf) w)
    have hr30 : ∀ (zz : Int) a w,x30 = .go zz → S30 zz a w → K28 a w := by
     rintro x a w rfl ⟨hf,hc⟩
     replace hF := exK_go hF
     refine h28 _ _ ?_
     refine zS fun K h => zP hf rfl (pBuildS (cells := [i6 0,i6 0]) bt_86 rfl rfl) fun a hf => zA hf hc zr_86 rfl fun b_18 a w hf hc => zW hf hc sz_86 u0 rfl fun w hc => zW hf hc sz_34 u2 rfl fun w hc => zT h ?_
     refine wp_seq_k fun K32 h32 => wp_label ?_
     refine h32 _ _ ?_
     refine wp_seq_k fun K33 h33 => zS fun K h => sp 1 hf rfl fun a hf => zP hf rfl (pLenS Tryz.underlying25 rfl) fun a hf => sp 1 hf rfl fun a hf => zT h ?_
     refine wp_block ?_
     obtain ⟨x35,hx35,hF⟩ := bnd_some hF
     let S35 : (Int × Int × Int × Int) → Act → World → Prop := (fun (zz : Int × Int × Int × Int) a w => ∃ (Ds : List Nat),Has ⟨115,markL Ds⟩ a [(2,pq b_1),(4,pq b_2),(6,pq b_14),(7,pq b_15),(8,pq b_17),(12,pq b_18),(78,.slice assignment_p assignment.length assignment_c),(79,i6 ((assignment.length : Nat) : Int)),(80,i6 zz.1)] ∧ Ctx G (.box b_18 [i6 zz.2.2.1,i6 zz.2.2.2] 86::.box b_17 ((tabR hsq_3 r_6).map (Kd.v kd_25)).flatten 172::.box b_15 [i6 zz.2.1] 34::.box b_14 [pq b_13] 166::.box b_2 [i6 0,i6 0] 86::.box b_1 [.slice r_People_p r.People.length r_People_c,.slice r_Stations_p r.Stations.length r_Stations_c] 78::(raws Ds ++ Lf)) w)
     have hr35 : ∀ (zz : Int × Int × Int × Int) a w,x35 = .go zz → S35 zz a w → K33 a w := by
      rintro ⟨x_1,x_2,x_3,x_4⟩ a w rfl ⟨Ds,hf,hc⟩
      replace hF := exK_go hF
      refine h33 _ _ ?_
      refine wp_seq_k fun K36 h36 => regionE (fun θ => [⟨none,none,4,pq b_2⟩,⟨none,none,7,pq b_15⟩,⟨none,none,12,pq b_18⟩,⟨some 0,none,113,.agg #[i6 x_3,i6 x_4]⟩,⟨some 1,none,114,i6 x_2⟩,⟨some 3,none,5,i6 x_2⟩]) (fun E θ => .box b_18 [i6 x_3,i6 x_4] 86::.box b_17 ((tabR hsq_3 r_6).map (Kd.v kd_25)).flatten 172::.box b_15 [i6 x_2] 34::.box b_14 [pq b_13] 166::(bif E 2 then .box b_2 [i6 x_3,i6 x_4] 86 else .box b_2 [i6 0,i6 0] 86)::.box b_1 [.slice r_People_p r.People.length r_People_c,.slice r_Stations_p r.Stations.length r_Stations_c] 78::(raws Ds ++ Lf)) [] (fun a w => Has ⟨115,markL Ds⟩ a [(4,pq b_2),(5,i6 x_2)] ∧ Ctx G (.box b_18 [i6 x_3,i6 x_4] 86::.box b_17 ((tabR hsq_3 r_6).map (Kd.v kd_25)).flatten 172::.box b_15 [i6 x_2] 34::.box b_14 [pq b_13] 166::.box b_2 [i6 x_3,i6 x_4] 86::.box b_1 [.slice r_People_p r.People.length r_People_c,.slice r_Stations_p r.Stations.length r_Stations_c] 78::(raws Ds ++ Lf)) w) follows_mx (by kernel_rfl) (by kernel_rfl) (HasE.of hf ⟨rfl,rfl,rfl,trivial,trivial,trivial,trivial⟩) hc ⟨?_,?_,?_,?_,trivial⟩ ?_ ?_
      ·intro E θ a w hD hi hp he hc
       have hf := he.h0.mT he 2 rfl
       refine zN hf hc ag_86 m0 rfl fun a w hf hc => zD θ he hi hf 3 rfl rfl rfl hc
      ·intro E θ a w hD hi hp he hc
       have hf := he.h0.mT he 1 rfl
       refine zL hf hc sc_34 m2 rfl fun a w hf hc => zD θ he hi hf 4 rfl rfl rfl hc
      ·intro E θ a w hD hi hp he hc
       have e0 := hp.o 0 rfl
       try dsimp only at hc
       rw [hi] at hc
       have hf := (he.h0.mT he 0 rfl).mP he 3 rfl e0
       refine zW hf hc sz_86 u4 rfl fun w hc => zG θ he hi hf rfl ?_
       try dsimp only
       rw [updE_self E 2]
       exact hc
      ·intro E θ a w hD hi hp he hc
       have e1 := hp.o 1 rfl
       have hf := he.h0.mP he 4 rfl e1
       refine sp 1 hf rfl fun a hf => zD θ he hi hf 5 rfl rfl rfl hc
      ·intro E θ a w hall he hc
       have hf := he.h0
       have e2 := hall 2 rfl
       have e3 := hall 3 rfl
       replace hf := hf.more he 5 rfl (onP e3)
       replace hf := hf.more he 0 rfl (onT)
       try dsimp only at hc
       rw [e2] at hc
       exact ⟨hf.kp rfl,hc⟩
      rintro a w ⟨hf,hc⟩
      refine h36 _ _ ?_
      refine wp_ret ?_
      refine xScopeR ?_
      obtain rfl := sj hF
      replace hc := hc.down hle_fz_2
      replace hc := hc.down hle_fz_1
      replace hc := ((((hc.drop k5).drop k3).drop k2).drop k1).drop k0
      refine outM hf ?_
      refine outML [.box b_2 [i6 x_3,i6 x_4] 86] Ds hc fun w hc => ?_
      replace hc : Ctx _ (.box b_2 [i6 x_3,i6 x_4] 86::Lf) w := hc
      exact outM2 Tryz.results46 hf hc (rv_cellN (vs := [i6 x_3,i6 x_4]) ag_86 rfl rfl (cells_box (n := 2) m0 rfl)) (show look _ 5 = _ from rfl) ⟨rfl,(hc.drop k0)⟩
     have ho35 : ∀ r,x35 = .out r → r = res := by
      rintro r rfl
      exact sj hF
     replace hf := markZ hf
     replace hc : Ctx G (.box b_18 [i6 0,i6 0] 86::.box b_17 ((tabR hsq_3 r_6).map (Kd.v kd_25)).flatten 172::.box b_15 [i6 5] 34::.box b_14 [pq b_13] 166::.box b_2 [i6 0,i6 0] 86::.box b_1 [.slice r_People_p r.People.length r_People_c,.slice r_Stations_p r.Stations.length r_Stations_c] 78::(raws [] ++ Lf)) w := hc
     refine cLoop N (loopW (S := S35) (x := x35) ?_ N (0,5,0,0) _ _ ⟨[],hf.kp rfl,hc⟩ hx35)
     clear hF hf hc
     rintro ⟨x_1,x_2,x_3,x_4⟩ st35 a w KB35 ⟨Ds,hf,hc⟩ hF hfin35 hK35
     unfold crew_Blocks_b35 at hF
     refine zS fun K h => sp 1 hf rfl fun a hf => zT h ?_
     refine wp_seq_k fun K38 h38 => zI hf rfl hF ?_ ?_ <;> clear hF <;> intro hF
     ·refine wp_skip ?_
      refine h38 _ _ ?_
      refine wp_seq_k fun K39 h39 => wp_block ?_
      refine zS fun K h => sp 1 hf rfl fun a hf => ?_
      obtain ⟨e_2,he_2,hF⟩ := bnd_some hF
      obtain ⟨b_19,o_1,qa_1,qp_1⟩ := ((h_assignment.mono hle_fz_1).mono hle_fz_2).atm he_2
      refine zP hf rfl (pIA Tryz.underlying25 sz_3 rfl rfl qa_1) fun a hf => zE hf hc rfl (eLd1 sc_3 rfl (cell_pc (j := 0) qp_1 rfl)) fun a w hf hc => zA hf hc zr_3 rfl fun b_20 a w hf hc => zW hf hc sz_3 u0 rfl fun w hc => sp 1 hf rfl fun a hf => zT h ?_
      refine zS fun K h => zL hf hc sc_166 m4 rfl fun a w hf hc => zL hf hc sc_3 m0 rfl fun a w hf hc => sp 1 hf rfl fun a hf => ?_
      obtain ⟨r_7,hr_7,hF⟩ := bnd_some hF
      refine zC hf en_111 rfl (crew_work_better_ok (⟨r,r_4.1⟩ : crew_work) x_1 e_2 ((h_r_People.mono hle_fz_1).mono hle_fz_2) ((h_r_Stations.mono hle_fz_1).mono hle_fz_2) (pc_fz_1.mono hle_fz_2) hc hr_7) ?_
      rintro _ w ⟨b_21,b_22,b_23,rfl,hc⟩
      refine ⟨_,rfl,fun a hf => ?_⟩
      refine zT h ?_
      obtain ⟨x42,hx42,hF⟩ := bnd_some hF
      refine cRangeX (C := [.box b_21 [pq b_13] 166,.box b_22 [i6 r_7.1] 3,.box b_23 [i6 r_7.2] 3]) (C2 := [.box b_21 [pq b_13] 166,.box b_22 [i6 r_7.1] 3,.box b_23 [i6 r_7.2] 3]) (L0 := [.box b_20 [i6 x_1] 3,.box b_18 [i6 x_3,i6 x_4] 86,.box b_17 ((tabR hsq_3 r_6).map (Kd.v kd_25)).flatten 172,.box b_15 [i6 x_2] 34,.box b_14 [pq b_13] 166,.box b_2 [i6 0,i6 0] 86,.box b_1 [.slice r_People_p r.People.length r_People_c,.slice r_Stations_p r.Stations.length r_Stations_c] 78]) (Lf := (raws Ds ++ Lf)) (encs := fun x : Int => [i6 x]) 3 (by decide) (fun (zz : Int × Int × Int) L => L = [.box b_20 [i6 x_1] 3,.box b_18 [i6 zz.2.1,i6 zz.2.2] 86,.box b_17 ((tabR hsq_3 r_6).map (Kd.v kd_25)).flatten 172,.box b_15 [i6 zz.1] 34,.box b_14 [pq b_13] 166,.box b_2 [i6 0,i6 0] 86,.box b_1 [.slice r_People_p r.People.length r_People_c,.slice r_Stations_p r.Stations.length r_Stations_c] 78]) (fun (zz : Int × Int × Int) (ix_ : Int) => crew_Blocks_r42 N r r_4 r_6 x_1 zz.1 zz.2.1 zz.2.2 ix_) (x_2,x_3,x_4) x42 hf hc rfl en_167 (fun _ => rfl) rfl rfl ?_ ?_ ?_ ?_
      ·intro lq mq J L Lx w hy hJ hc
       exact crew_work_better_1_ok (⟨r,r_4.1⟩ : crew_work) r_7.1 r_7.2 ((h_r_People.mono hle_fz_1).mono hle_fz_2) ((h_r_Stations.mono hle_fz_1).mono hle_fz_2) (pc_fz_1.mono hle_fz_2) J _ hy _ hJ hc hx42
      ·clear hF hf hc
       rintro lq mq ⟨x_5,x_6,x_7⟩ xv oq _ Lr Lb a w hK0 rfl hF hf hc hK
       replace hf : Has 115 a [(2,pq b_1),(4,pq b_2),(6,pq b_14),(7,pq b_15),(8,pq b_17),(12,pq b_18),(13,pq b_20),(78,.slice assignment_p assignment.length assignment_c),(79,i6 ((assignment.length : Nat) : Int)),(80,i6 x_1),(89,i6 xv)] := hf.kp rfl
       replace hc : Ctx G (.box b_20 [i6 x_1] 3::.box b_18 [i6 x_6,i6 x_7] 86::.box b_17 ((tabR hsq_3 r_6).map (Kd.v kd_25)).flatten 172::.box b_15 [i6 x_5] 34::.box b_14 [pq b_13] 166::.box b_2 [i6 0,i6 0] 86::.box b_1 [.slice r_People_p r.People.length r_People_c,.slice r_Stations_p r.Stations.length r_Stations_c] 78::Lr) w := hc
       replace hF : crew_Blocks_r42 N r r_4 r_6 x_1 x_5 x_6 x_7 xv = some oq := hF
       unfold crew_Blocks_r42 at hF
       refine rReg (fun _ _ h => h) rfl ?_
       refine zA hf hc zr_3 rfl fun b_24 a w hf hc => zW hf hc sz_3 u0 rfl fun w hc => cNil ?_
       refine hK _ _ [.box b_24 [i6 xv] 3,.box b_20 [i6 x_1] 3,.box b_18 [i6 x_6,i6 x_7] 86,.box b_17 ((tabR hsq_3 r_6).map (Kd.v kd_25)).flatten 172,.box b_15 [i6 x_5] 34,.box b_14 [pq b_13] 166,.box b_2 [i6 0,i6 0] 86,.box b_1 [.slice r_People_p r.People.length r_People_c,.slice r_Stations_p r.Stations.length r_Stations_c] 78] hc fun w hc => ?_
       replace hc : Ctx G (.box b_24 [i6 xv] 3::.box b_20 [i6 x_1] 3::.box b_18 [i6 x_6,i6 x_7] 86::.box b_17 ((tabR hsq_3 r_6).map (Kd.v kd_25)).flatten 172::.box b_15 [i6 x_5] 34::.box b_14 [pq b_13] 166::.box b_2 [i6 0,i6 0] 86::.box b_1 [.slice r_People_p r.People.length r_People_c,.slice r_Stations_p r.Stations.length r_Stations_c] 78::Lb) w := hc
       refine rThenK fun K43 h43 => rBlock ?_
       refine rSeq fun K44 h44 => rReg (fun _ _ h => h) rfl ?_
       refine zP hf rfl (pMF (us := [pq b_14,pq b_24,pq b_20]) rfl rfl) fun a hf => sp 1 hf rfl fun a hf => cNil ?_
       refine h44 _ _ ?_
       refine rSeq fun K45 h45 => ?_
       obtain ⟨rg,hrg,hF⟩ := bnd_some hF
       refine rCut (fun a w => Has 115 a [(2,pq b_1),(4,pq b_2),(6,pq b_14),(7,pq b_15),(8,pq b_17),(12,pq b_18),(13,pq b_20),(15,pq b_24),(78,.slice assignment_p assignment.length assignment_c),(79,i6 ((assignment.length : Nat) : Int)),(80,i6 x_1),(108,.bool rg)] ∧ Ctx G (.box b_24 [i6 xv] 3::.box b_20 [i6 x_1] 3::.box b_18 [i6 x_6,i6 x_7] 86::.box b_17 ((tabR hsq_3 r_6).map (Kd.v kd_25)).flatten 172::.box b_15 [i6 x_5] 34::.box b_14 [pq b_13] 166::.box b_2 [i6 0,i6 0] 86::.box b_1 [.slice r_People_p r.People.length r_People_c,.slice r_Stations_p r.Stations.length r_Stations_c] 78::Lb) w) ?_ ?_
       ·clear hF
        have hF := hrg
        clear hrg
        obtain ⟨un_2,hun_2,hF⟩ := bnd_some hF
        obtain ⟨e_3,he_3,hF⟩ := bnd_some hF
        obtain ⟨e_4,he_4,hF⟩ := bnd_some hF
        obtain ⟨b_25,o_2,hd,qa_2,qp_2,qr⟩ := ((h_r_Stations.mono hle_fz_1).mono hle_fz_2).atm he_4
        cases hb : (decide (((e_3.length : Nat) : Int) < e_4.Places))
        ·replace hF := condF hb hF
         try rw [hb] at hf
         try rw [hb] at hc
         have hb1 := hb
         clear hb
         obtain ⟨r_8,hr_8,hF⟩ := bnd_some hF
         refine rRegE (fun _ _ h => h) rfl (fun θ => (⟨none,none,2,pq b_1⟩::⟨none,none,4,pq b_2⟩::⟨none,none,6,pq b_14⟩::⟨none,none,7,pq b_15⟩::⟨none,none,8,pq b_17⟩::⟨none,none,12,pq b_18⟩::⟨none,none,13,pq b_20⟩::⟨none,none,15,pq b_24⟩::⟨none,none,16,.func (.func 112) #[] #[pq b_14,pq b_24,pq b_20]⟩::⟨none,none,78,.slice assignment_p assignment.length assignment_c⟩::⟨none,none,79,i6 ((assignment.length : Nat) : Int)⟩::⟨none,none,80,i6 x_1⟩::⟨some 0,none,91,i6 xv⟩::⟨some 1,none,92,.pointer (some ⟨b_17,0 + xv.toNat * 1,none⟩)⟩::⟨some 2,none,93,.slice ((hsq_3 xv.toNat).1) e_3.length ((hsq_3 xv.toNat).2)⟩::⟨some 3,none,94,i6 ((e_3.length : Nat) : Int)⟩::⟨some 4,none,95,.pointer (some ⟨b_1,1,none⟩)⟩::⟨some 5,none,96,.slice r_Stations_p r.Stations.length r_Stations_c⟩::⟨some 6,none,97,i6 xv⟩::⟨some 7,none,98,.pointer (some ⟨b_25,o_2,none⟩)⟩::⟨some 8,none,99,.pointer (some ⟨b_25,o_2 + 0,none⟩)⟩::⟨some 9,none,100,i6 e_4.Places⟩::⟨some 10,none,101,.bool false⟩::⟨some 11,none,102,.bool false⟩::⟨some 12,none,103,i6 xv⟩::⟨some 13,none,104,.pointer (some ⟨b_17,0 + xv.toNat * 1,none⟩)⟩::⟨some 14,none,105,.slice ((hsq_3 xv.toNat).1) e_3.length ((hsq_3 xv.toNat).2)⟩::⟨some 15,none,106,.func (.func 112) #[] #[pq b_14,pq b_24,pq b_20]⟩::⟨some 16,none,107,.bool r_8⟩::⟨some 17,none,108,.bool r_8⟩::[])) (fun E θ => .box b_24 [i6 xv] 3::.box b_20 [i6 x_1] 3::.box b_18 [i6 x_6,i6 x_7] 86::.box b_17 ((tabR hsq_3 r_6).map (Kd.v kd_25)).flatten 172::.box b_15 [i6 x_5] 34::.box b_14 [pq b_13] 166::.box b_2 [i6 0,i6 0] 86::.box b_1 [.slice r_People_p r.People.length r_People_c,.slice r_Stations_p r.Stations.length r_Stations_c] 78::Lb) [] (fun a w => Has 115 a [(2,pq b_1),(4,pq b_2),(6,pq b_14),(7,pq b_15),(8,pq b_17),(12,pq b_18),(13,pq b_20),(15,pq b_24),(78,.slice assignment_p assignment.length assignment_c),(79,i6 ((assignment.length : Nat) : Int)),(80,i6 x_1),(103,i6 xv),(104,.pointer (some ⟨b_17,0 + xv.toNat * 1,none⟩)),(105,.slice ((hsq_3 xv.toNat).1) e_3.length ((hsq_3 xv.toNat).2)),(106,.func (.func 112) #[] #[pq b_14,pq b_24,pq b_20]),(107,.bool r_8),(108,.bool r_8)] ∧ Ctx G (.box b_24 [i6 xv] 3::.box b_20 [i6 x_1] 3::.box b_18 [i6 x_6,i6 x_7] 86::.box b_17 ((tabR hsq_3 r_6).map (Kd.v kd_25)).flatten 172::.box b_15 [i6 x_5] 34::.box b_14 [pq b_13] 166::.box b_2 [i6 0,i6 0] 86::.box b_1 [.slice r_People_p r.People.length r_People_c,.slice r_Stations_p r.Stations.length r_Stations_c] 78::Lb) w) follows_mx (by kernel_rfl) (by kernel_rfl) (HasE.of hf ⟨rfl,rfl,rfl,rfl,rfl,rfl,rfl,rfl,rfl,rfl,rfl,rfl,trivial,trivial,trivial,trivial,trivial,trivial,trivial,trivial,trivial,trivial,trivial,trivial,trivial,trivial,trivial,trivial,trivial,trivial,trivial⟩) hc ⟨?_,?_,?_,?_,?_,?_,?_,?_,?_,?_,?_,?_,?_,?_,?_,?_,?_,?_,trivial⟩ ?_ ?_
         ·intro E θ a w hD hi hp he hc
          have hf := he.h0.mT he 7 rfl
          refine zL hf hc sc_3 m0 rfl fun a w hf hc => zD θ he hi hf 12 rfl rfl rfl hc
         ·intro E θ a w hD hi hp he hc
          have e0 := hp.o 0 rfl
          have hf := (he.h0.mT he 4 rfl).mP he 12 rfl e0
          refine zP hf rfl (pIAA Tryz.underlying172 sz_25 rfl rfl (inR_spec hun_2).1 (inR_spec hun_2).2) fun a hf => zD θ he hi hf 13 rfl rfl rfl hc
         ·intro E θ a w hD hi hp he hc
          have e1 := hp.o 1 rfl
          have hf := he.h0.mP he 13 rfl e1
          refine zE hf hc rfl (eLd1 sc_25 rfl (cell_box m3 (tarr_cell0 one_kd_25 he_3 rfl))) fun a w hf hc => zD θ he hi hf 14 rfl rfl rfl hc
         ·intro E θ a w hD hi hp he hc
          have e2 := hp.o 2 rfl
          have hf := he.h0.mP he 14 rfl e2
          refine zP hf rfl (pLenS Tryz.underlying25 rfl) fun a hf => zD θ he hi hf 15 rfl rfl rfl hc
         ·intro E θ a w hD hi hp he hc
          have hf := he.h0.mT he 0 rfl
          refine zP hf rfl (pFA fa_78_1 rfl) fun a hf => zD θ he hi hf 16 rfl rfl rfl hc
         ·intro E θ a w hD hi hp he hc
          have e4 := hp.o 4 rfl
          have hf := he.h0.mP he 16 rfl e4
          refine zL hf hc sc_76 m7 rfl fun a w hf hc => zD θ he hi hf 17 rfl rfl rfl hc
         ·intro E θ a w hD hi hp he hc
          have hf := he.h0.mT he 7 rfl
          refine zL hf hc sc_3 m0 rfl fun a w hf hc => zD θ he hi hf 18 rfl rfl rfl hc
         ·intro E θ a w hD hi hp he hc
          have e5 := hp.o 5 rfl
          have e6 := hp.o 6 rfl
          have hf := (he.h0.mP he 17 rfl e5).mP he 18 rfl e6
          refine zP hf rfl (pIA Tryz.underlying76 sz_101 rfl rfl qa_2) fun a hf => zD θ he hi hf 19 rfl rfl rfl hc
         ·intro E θ a w hD hi hp he hc
          have e7 := hp.o 7 rfl
          have hf := he.h0.mP he 19 rfl e7
          refine zP hf rfl (pFA fa_101_0 rfl) fun a hf => zD θ he hi hf 20 rfl rfl rfl hc
         ·intro E θ a w hD hi hp he hc
          have e8 := hp.o 8 rfl
          have hf := he.h0.mP he 20 rfl e8
          refine zE hf hc rfl (eLd1 sc_3 rfl (cell_pc (j := 0) qp_2 rfl)) fun a w hf hc => zD θ he hi hf 21 rfl rfl rfl hc
         ·intro E θ a w hD hi hp he hc
          have e3 := hp.o 3 rfl
          have e9 := hp.o 9 rfl
          have hf := (he.h0.mP he 15 rfl e3).mP he 21 rfl e9
          refine sp 1 hf rfl fun a hf => ?_
          rw [hb1] at hf
          exact zD θ he hi hf 22 rfl rfl rfl hc
         ·intro E θ a w hD hi hp he hc
          have e10 := hp.o 10 rfl
          have hf := he.h0.mP he 22 rfl e10
          refine sp 1 hf rfl fun a hf => zD θ he hi hf 23 rfl rfl rfl hc
         ·intro E θ a w hD hi hp he hc
          have e11 := hp.o 11 rfl
          have hf := (he.h0.mT he 7 rfl).mP he 23 rfl e11
          refine zL hf hc sc_3 m0 rfl fun a w hf hc => zD θ he hi hf 24 rfl rfl rfl hc
         ·intro E θ a w hD hi hp he hc
          have e11 := hp.o 11 rfl
          have e12 := hp.o 12 rfl
          have hf := ((he.h0.mT he 4 rfl).mP he 23 rfl e11).mP he 24 rfl e12
          refine zP hf rfl (pIAA Tryz.underlying172 sz_25 rfl rfl (inR_spec hun_2).1 (inR_spec hun_2).2) fun a hf => zD θ he hi hf 25 rfl rfl rfl hc
         ·intro E θ a w hD hi hp he hc
          have e11 := hp.o 11 rfl
          have e13 := hp.o 13 rfl
          have hf := (he.h0.mP he 23 rfl e11).mP he 25 rfl e13
          refine zE hf hc rfl (eLd1 sc_25 rfl (cell_box m3 (tarr_cell0 one_kd_25 he_3 rfl))) fun a w hf hc => zD θ he hi hf 26 rfl rfl rfl hc
         ·intro E θ a w hD hi hp he hc
          have e11 := hp.o 11 rfl
          have hf := (he.h0.mT he 8 rfl).mP he 23 rfl e11
          refine sp 1 hf rfl fun a hf => zD θ he hi hf 27 rfl rfl rfl hc
         ·intro E θ a w hD hi hp he hc
          have e11 := hp.o 11 rfl
          have e14 := hp.o 14 rfl
          have e15 := hp.o 15 rfl
          have hf := ((he.h0.mP he 23 rfl e11).mP he 26 rfl e14).mP he 27 rfl e15
          refine zQ (v := .bool r_8) hf hc en_113 rfl (fun w hc => (slices_ContainsFunc_Lint_int_s5_ok e_3 (⟨r,r_4.1⟩ : crew_work) xv x_1 (hz_fz_2 _ _ he_3) ((h_r_People.mono hle_fz_1).mono hle_fz_2) ((h_r_Stations.mono hle_fz_1).mono hle_fz_2) (pc_fz_1.mono hle_fz_2) (((hc.pick k1).pick k1).pick k5) hr_8).mono fun e w h => ⟨h.1,(((h.2.unpick k5).unpick k1).unpick k1)⟩) fun a w hf hc => zD θ he hi hf 28 rfl rfl rfl hc
         ·intro E θ a w hD hi hp he hc
          have e11 := hp.o 11 rfl
          have e16 := hp.o 16 rfl
          have hf := (he.h0.mP he 23 rfl e11).mP he 28 rfl e16
          refine sp 1 hf rfl fun a hf => zD θ he hi hf 29 rfl rfl rfl hc
         ·intro E θ a w hall he hc
          have hf := he.h0
          have e12 := hall 12 rfl
          have e13 := hall 13 rfl
          have e14 := hall 14 rfl
          have e15 := hall 15 rfl
          have e16 := hall 16 rfl
          have e17 := hall 17 rfl
          replace hf := hf.more he 29 rfl (onP e17)
          replace hf := hf.more he 28 rfl (onP e16)
          replace hf := hf.more he 27 rfl (onP e15)
          replace hf := hf.more he 26 rfl (onP e14)
          replace hf := hf.more he 25 rfl (onP e13)
          replace hf := hf.more he 24 rfl (onP e12)
          replace hf := hf.more he 11 rfl (onT)
          replace hf := hf.more he 10 rfl (onT)
          replace hf := hf.more he 9 rfl (onT)
          replace hf := hf.more he 7 rfl (onT)
          replace hf := hf.more he 6 rfl (onT)
          replace hf := hf.more he 5 rfl (onT)
          replace hf := hf.more he 4 rfl (onT)
          replace hf := hf.more he 3 rfl (onT)
          replace hf := hf.more he 2 rfl (onT)
          replace hf := hf.more he 1 rfl (onT)
          replace hf := hf.more he 0 rfl (onT)
          exact ⟨hf.kp rfl,hc⟩
         rintro a w ⟨hf,hc⟩
         refine xThenN ?_
         obtain rfl := sj hF
         exact ⟨hf.kp rfl,hc⟩
        ·replace hF := condT hb hF
         try rw [hb] at hf
         try rw [hb] at hc
         have hb1 := hb
         clear hb
         refine rRegE (fun _ _ h => h) rfl (fun θ => (⟨none,none,2,pq b_1⟩::⟨none,none,4,pq b_2⟩::⟨none,none,6,pq b_14⟩::⟨none,none,7,pq b_15⟩::⟨none,none,8,pq b_17⟩::⟨none,none,12,pq b_18⟩::⟨none,none,13,pq b_20⟩::⟨none,none,15,pq b_24⟩::⟨none,none,16,.func (.func 112) #[] #[pq b_14,pq b_24,pq b_20]⟩::⟨none,none,78,.slice assignment_p assignment.length assignment_c⟩::⟨none,none,79,i6 ((assignment.length : Nat) : Int)⟩::⟨none,none,80,i6 x_1⟩::⟨some 0,none,91,i6 xv⟩::⟨some 1,none,92,.pointer (some ⟨b_17,0 + xv.toNat * 1,none⟩)⟩::⟨some 2,none,93,.slice ((hsq_3 xv.toNat).1) e_3.length ((hsq_3 xv.toNat).2)⟩::⟨some 3,none,94,i6 ((e_3.length : Nat) : Int)⟩::⟨some 4,none,95,.pointer (some ⟨b_1,1,none⟩)⟩::⟨some 5,none,96,.slice r_Stations_p r.Stations.length r_Stations_c⟩::⟨some 6,none,97,i6 xv⟩::⟨some 7,none,98,.pointer (some ⟨b_25,o_2,none⟩)⟩::⟨some 8,none,99,.pointer (some ⟨b_25,o_2 + 0,none⟩)⟩::⟨some 9,none,100,i6 e_4.Places⟩::⟨some 10,none,101,.bool true⟩::⟨some 11,none,102,.bool true⟩::⟨some 12,none,103,undef⟩::⟨some 13,none,104,undef⟩::⟨some 14,none,105,undef⟩::⟨some 15,none,106,undef⟩::⟨some 16,none,107,undef⟩::⟨some 17,none,108,.bool true⟩::[])) (fun E θ => .box b_24 [i6 xv] 3::.box b_20 [i6 x_1] 3::.box b_18 [i6 x_6,i6 x_7] 86::.box b_17 ((tabR hsq_3 r_6).map (Kd.v kd_25)).flatten 172::.box b_15 [i6 x_5] 34::.box b_14 [pq b_13] 166::.box b_2 [i6 0,i6 0] 86::.box b_1 [.slice r_People_p r.People.length r_People_c,.slice r_Stations_p r.Stations.length r_Stations_c] 78::Lb) [] (fun a w => Has 115 a [(2,pq b_1),(4,pq b_2),(6,pq b_14),(7,pq b_15),(8,pq b_17),(12,pq b_18),(13,pq b_20),(15,pq b_24),(78,.slice assignment_p assignment.length assignment_c),(79,i6 ((assignment.length : Nat) : Int)),(80,i6 x_1),(103,undef),(104,undef),(105,undef),(106,undef),(107,undef),(108,.bool true)] ∧ Ctx G (.box b_24 [i6 xv] 3::.box b_20 [i6 x_1] 3::.box b_18 [i6 x_6,i6 x_7] 86::.box b_17 ((tabR hsq_3 r_6).map (Kd.v kd_25)).flatten 172::.box b_15 [i6 x_5] 34::.box b_14 [pq b_13] 166::.box b_2 [i6 0,i6 0] 86::.box b_1 [.slice r_People_p r.People.length r_People_c,.slice r_Stations_p r.Stations.length r_Stations_c] 78::Lb) w) follows_mx (by kernel_rfl) (by kernel_rfl) (HasE.of hf ⟨rfl,rfl,rfl,rfl,rfl,rfl,rfl,rfl,rfl,rfl,rfl,rfl,trivial,trivial,trivial,trivial,trivial,trivial,trivial,trivial,trivial,trivial,trivial,trivial,trivial,trivial,trivial,trivial,trivial,trivial,trivial⟩) hc ⟨?_,?_,?_,?_,?_,?_,?_,?_,?_,?_,?_,?_,?_,?_,?_,?_,?_,?_,trivial⟩ ?_ ?_
         ·intro E θ a w hD hi hp he hc
          have hf := he.h0.mT he 7 rfl
          refine zL hf hc sc_3 m0 rfl fun a w hf hc => zD θ he hi hf 12 rfl rfl rfl hc
         ·intro E θ a w hD hi hp he hc
          have e0 := hp.o 0 rfl
          have hf := (he.h0.mT he 4 rfl).mP he 12 rfl e0
          refine zP hf rfl (pIAA Tryz.underlying172 sz_25 rfl rfl (inR_spec hun_2).1 (inR_spec hun_2).2) fun a hf => zD θ he hi hf 13 rfl rfl rfl hc
         ·intro E θ a w hD hi hp he hc
          have e1 := hp.o 1 rfl
          have hf := he.h0.mP he 13 rfl e1
          refine zE hf hc rfl (eLd1 sc_25 rfl (cell_box m3 (tarr_cell0 one_kd_25 he_3 rfl))) fun a w hf hc => zD θ he hi hf 14 rfl rfl rfl hc
         ·intro E θ a w hD hi hp he hc
          have e2 := hp.o 2 rfl
          have hf := he.h0.mP he 14 rfl e2
          refine zP hf rfl (pLenS Tryz.underlying25 rfl) fun a hf => zD θ he hi hf 15 rfl rfl rfl hc
         ·intro E θ a w hD hi hp he hc
          have hf := he.h0.mT he 0 rfl
          refine zP hf rfl (pFA fa_78_1 rfl) fun a hf => zD θ he hi hf 16 rfl rfl rfl hc
         ·intro E θ a w hD hi hp he hc
          have e4 := hp.o 4 rfl
          have hf := he.h0.mP he 16 rfl e4
          refine zL hf hc sc_76 m7 rfl fun a w hf hc => zD θ he hi hf 17 rfl rfl rfl hc
         ·intro E θ a w hD hi hp he hc
          have hf := he.h0.mT he 7 rfl
          refine zL hf hc sc_3 m0 rfl fun a w hf hc => zD θ he hi hf 18 rfl rfl rfl hc
         ·intro E θ a w hD hi hp he hc
          have e5 := hp.o 5 rfl
          have e6 := hp.o 6 rfl
          have hf := (he.h0.mP he 17 rfl e5).mP he 18 rfl e6
          refine zP hf rfl (pIA Tryz.underlying76 sz_101 rfl rfl qa_2) fun a hf => zD θ he hi hf 19 rfl rfl rfl hc
         ·intro E θ a w hD hi hp he hc
          have e7 := hp.o 7 rfl
          have hf := he.h0.mP he 19 rfl e7
          refine zP hf rfl (pFA fa_101_0 rfl) fun a hf => zD θ he hi hf 20 rfl rfl rfl hc
         ·intro E θ a w hD hi hp he hc
          have e8 := hp.o 8 rfl
          have hf := he.h0.mP he 20 rfl e8
          refine zE hf hc rfl (eLd1 sc_3 rfl (cell_pc (j := 0) qp_2 rfl)) fun a w hf hc => zD θ he hi hf 21 rfl rfl rfl hc
         ·intro E θ a w hD hi hp he hc
          have e3 := hp.o 3 rfl
          have e9 := hp.o 9 rfl
          have hf := (he.h0.mP he 15 rfl e3).mP he 21 rfl e9
          refine sp 1 hf rfl fun a hf => ?_
          rw [hb1] at hf
          exact zD θ he hi hf 22 rfl rfl rfl hc
         ·intro E θ a w hD hi hp he hc
          have e10 := hp.o 10 rfl
          have hf := he.h0.mP he 22 rfl e10
          refine sp 1 hf rfl fun a hf => zD θ he hi hf 23 rfl rfl rfl hc
         ·intro E θ a w hD hi hp he hc
          have e11 := hp.o 11 rfl
          have hf := (he.h0.mT he 7 rfl).mP he 23 rfl e11
          refine stS hf rfl rfl rfl fun a hf => zD θ he hi hf 24 rfl rfl rfl hc
         ·intro E θ a w hD hi hp he hc
          have e11 := hp.o 11 rfl
          have e12 := hp.o 12 rfl
          have hf := ((he.h0.mT he 4 rfl).mP he 23 rfl e11).mP he 24 rfl e12
          refine stS hf rfl rfl rfl fun a hf => zD θ he hi hf 25 rfl rfl rfl hc
         ·intro E θ a w hD hi hp he hc
          have e11 := hp.o 11 rfl
          have e13 := hp.o 13 rfl
          have hf := (he.h0.mP he 23 rfl e11).mP he 25 rfl e13
          refine stS hf rfl rfl rfl fun a hf => zD θ he hi hf 26 rfl rfl rfl hc
         ·intro E θ a w hD hi hp he hc
          have e11 := hp.o 11 rfl
          have hf := (he.h0.mT he 8 rfl).mP he 23 rfl e11
          refine stS hf rfl rfl rfl fun a hf => zD θ he hi hf 27 rfl rfl rfl hc
         ·intro E θ a w hD hi hp he hc
          have e11 := hp.o 11 rfl
          have e14 := hp.o 14 rfl
          have e15 := hp.o 15 rfl
          have hf := ((he.h0.mP he 23 rfl e11).mP he 26 rfl e14).mP he 27 rfl e15
          refine stS hf rfl rfl rfl fun a hf => zD θ he hi hf 28 rfl rfl rfl hc
         ·intro E θ a w hD hi hp he hc
          have e11 := hp.o 11 rfl
          have e16 := hp.o 16 rfl
          have hf := (he.h0.mP he 23 rfl e11).mP he 28 rfl e16
          refine sp 1 hf rfl fun a hf => zD θ he hi hf 29 rfl rfl rfl hc
         ·intro E θ a w hall he hc
          have hf := he.h0
          have e12 := hall 12 rfl
          have e13 := hall 13 rfl
          have e14 := hall 14 rfl
          have e15 := hall 15 rfl
          have e16 := hall 16 rfl
          have e17 := hall 17 rfl
          replace hf := hf.more he 29 rfl (onP e17)
          replace hf := hf.more he 28 rfl (onP e16)
          replace hf := hf.more he 27 rfl (onP e15)
          replace hf := hf.more he 26 rfl (onP e14)
          replace hf := hf.more he 25 rfl (onP e13)
          replace hf := hf.more he 24 rfl (onP e12)
          replace hf := hf.more he 11 rfl (onT)
          replace hf := hf.more he 10 rfl (onT)
          replace hf := hf.more he 9 rfl (onT)
          replace hf := hf.more he 7 rfl (onT)
          replace hf := hf.more he 6 rfl (onT)
          replace hf := hf.more he 5 rfl (onT)
          replace hf := hf.more he 4 rfl (onT)
          replace hf := hf.more he 3 rfl (onT)
          replace hf := hf.more he 2 rfl (onT)
          replace hf := hf.more he 1 rfl (onT)
          replace hf := hf.more he 0 rfl (onT)
          exact ⟨hf.kp rfl,hc⟩
         rintro a w ⟨hf,hc⟩
         refine xThenN ?_
         obtain rfl := sj hF
         exact ⟨hf.kp rfl,hc⟩
       rintro a w ⟨hf,hc⟩
       refine h45 _ _ ?_
       refine rCond (b := rg) hf rfl (fun hb => ?_) (fun hb => ?_)
       ·replace hF := condT hb hF
        clear hb
        refine rSeq fun K46 h46 => rReg (fun _ _ h => h) rfl ?_
        refine zL hf hc sc_3 m1 rfl fun a w hf hc => zL hf hc sc_3 m0 rfl fun a w hf hc => zP hf rfl (pBuildS (cells := [i6 x_1,i6 xv]) bt_86 rfl rfl) fun a hf => zW hf hc sz_86 u2 rfl fun w hc => zW hf hc sz_34 u4 rfl fun w hc => cNil ?_
        refine h46 _ _ ?_
        refine rExit ?_
        refine cMiss rfl ?_
        refine xThen ?_
        replace hc := hc.drop k0
        exact (.inr ⟨rfl,(0,x_1,xv),_,(sj hF).symm,rfl,hc⟩)
       ·replace hF := condF hb hF
        clear hb
        refine rSkip ?_
        refine h43 _ _ ?_
        replace hc := hc.drop k0
        exact ⟨(x_5,x_6,x_7),_,(sj hF).symm,rfl,hc⟩
      ·rintro D_1 ⟨x_5,x_6,x_7⟩ _ a w hsF rfl hf hc
       replace hf : Has ⟨115,markL (D_1::Ds)⟩ a [(2,pq b_1),(4,pq b_2),(6,pq b_14),(7,pq b_15),(8,pq b_17),(12,pq b_18),(13,pq b_20),(78,.slice assignment_p assignment.length assignment_c),(79,i6 ((assignment.length : Nat) : Int)),(80,i6 x_1)] := hf.kp rfl
       replace hc : Ctx G (.box b_21 [pq b_13] 166::.box b_22 [i6 r_7.1] 3::.box b_23 [i6 r_7.2] 3::.box b_20 [i6 x_1] 3::.box b_18 [i6 x_6,i6 x_7] 86::.box b_17 ((tabR hsq_3 r_6).map (Kd.v kd_25)).flatten 172::.box b_15 [i6 x_5] 34::.box b_14 [pq b_13] 166::.box b_2 [i6 0,i6 0] 86::.box b_1 [.slice r_People_p r.People.length r_People_c,.slice r_Stations_p r.Stations.length r_Stations_c] 78::(raws (D_1::Ds) ++ Lf)) w := rawsIn (C := [.box b_21 [pq b_13] 166,.box b_22 [i6 r_7.1] 3,.box b_23 [i6 r_7.2] 3]) (L := [.box b_20 [i6 x_1] 3,.box b_18 [i6 x_6,i6 x_7] 86,.box b_17 ((tabR hsq_3 r_6).map (Kd.v kd_25)).flatten 172,.box b_15 [i6 x_5] 34,.box b_14 [pq b_13] 166,.box b_2 [i6 0,i6 0] 86,.box b_1 [.slice r_People_p r.People.length r_People_c,.slice r_Stations_p r.Stations.length r_Stations_c] 78]) hc
       replace hF : (some (.cont (W (x_1 + 1),x_5,x_6,x_7))) = some st35 := by rcases hsF with rfl | rfl <;> exact hF
       refine h39 _ _ ?_
       refine cReg ?_
       refine sp 2 hf rfl fun a hf => cNil ?_
       replace hc := (((hc.drop k3).drop k2).drop k1).drop k0
       exact hK35 (W (x_1 + 1),x_5,x_6,x_7) _ _ (sj hF).symm ⟨(D_1::Ds),hf.kp rfl,hc⟩
      ·rintro D_1 ⟨x_5,x_6,x_7⟩ _ a w hsF rfl hf hc
       replace hf : Has ⟨115,markL (D_1::Ds)⟩ a [(2,pq b_1),(4,pq b_2),(6,pq b_14),(7,pq b_15),(8,pq b_17),(12,pq b_18),(13,pq b_20),(78,.slice assignment_p assignment.length assignment_c),(79,i6 ((assignment.length : Nat) : Int)),(80,i6 x_1)] := hf.kp rfl
       replace hc : Ctx G (.box b_21 [pq b_13] 166::.box b_22 [i6 r_7.1] 3::.box b_23 [i6 r_7.2] 3::.box b_20 [i6 x_1] 3::.box b_18 [i6 x_6,i6 x_7] 86::.box b_17 ((tabR hsq_3 r_6).map (Kd.v kd_25)).flatten 172::.box b_15 [i6 x_5] 34::.box b_14 [pq b_13] 166::.box b_2 [i6 0,i6 0] 86::.box b_1 [.slice r_People_p r.People.length r_People_c,.slice r_Stations_p r.Stations.length r_Stations_c] 78::(raws (D_1::Ds) ++ Lf)) w := rawsIn (C := [.box b_21 [pq b_13] 166,.box b_22 [i6 r_7.1] 3,.box b_23 [i6 r_7.2] 3]) (L := [.box b_20 [i6 x_1] 3,.box b_18 [i6 x_6,i6 x_7] 86,.box b_17 ((tabR hsq_3 r_6).map (Kd.v kd_25)).flatten 172,.box b_15 [i6 x_5] 34,.box b_14 [pq b_13] 166,.box b_2 [i6 0,i6 0] 86,.box b_1 [.slice r_People_p r.People.length r_People_c,.slice r_Stations_p r.Stations.length r_Stations_c] 78]) hc
       replace hF : (some (.brk (x_1,x_5,x_6,x_7))) = some st35 := by subst hsF; exact hF
       refine cMiss rfl ?_
       refine xThen ?_
       refine xThen ?_
       replace hc := (((hc.drop k3).drop k2).drop k1).drop k0
       have he := sj hF
       rw [← he] at hfin35
       refine cHit ?_
       exact hr35 _ _ _ hfin35 ⟨(D_1::Ds),hf.kp rfl,hc⟩
     ·refine wp_exit ?_
      refine xThen ?_
      refine xThen ?_
      have he := sj hF
      rw [← he] at hfin35
      refine cHit ?_
      exact hr35 _ _ _ hfin35 ⟨Ds,hf.kp rfl,hc⟩
    have ho30 : ∀ r,x30 = .out r → r = res := by
     rintro r rfl
     exact sj hF
    refine cLoop N (loopW (S := S30) (x := x30) ?_ N 0 _ _ ⟨hf.kp rfl,hc⟩ hx30)
    clear hF hf hc
    rintro x st30 a w KB30 ⟨hf,hc⟩ hF hfin30 hK30
    unfold crew_Blocks_b30 at hF
    refine zS fun K h => sp 1 hf rfl fun a hf => zT h ?_
    refine wp_seq_k fun K48 h48 => zI hf rfl hF ?_ ?_ <;> clear hF <;> intro hF
    ·refine wp_skip ?_
     refine h48 _ _ ?_
     refine wp_seq_k fun K49 h49 => wp_block ?_
     refine zS fun K h => sp 1 hf rfl fun a hf => ?_
     obtain ⟨e_5,he_5,hF⟩ := bnd_some hF
     obtain ⟨b_26,o_3,qa_3,qp_3⟩ := ((h_assignment.mono hle_fz_1).mono hle_fz_2).atm he_5
     refine zP hf rfl (pIA Tryz.underlying25 sz_3 rfl rfl qa_3) fun a hf => zE hf hc rfl (eLd1 sc_3 rfl (cell_pc (j := 0) qp_3 rfl)) fun a w hf hc => sp 2 hf rfl fun a hf => zT h ?_
     refine wp_seq_k fun K51 h51 => ?_
     obtain ⟨t_4,ht_4,hF⟩ := bnd_some hF
     refine cQ hc follows_mx (by kernel_rfl) ?_
     refine qE hf rfl rfl rfl (Pu.ev (pM rfl)) fun a hf => qE hf rfl rfl rfl (Pu.ev (pNe rfl rfl)) fun a hf => qE hf rfl rfl rfl (Pu.ev (pM rfl)) fun a hf => qCut 19 (fun a => Has 115 a [(1,.slice assignment_p assignment.length assignment_c),(2,pq b_1),(4,pq b_2),(6,pq b_14),(7,pq b_15),(8,pq b_17),(9,.func (.func 110) #[pq b_13] #[]),(46,.slice assignment_p assignment.length assignment_c),(47,i6 ((assignment.length : Nat) : Int)),(48,i6 x),(10,i6 x),(11,i6 e_5),(53,i6 e_5),(54,.bool (e_5 != (-1))),(55,.bool (e_5 != (-1))),(74,.bool t_4)]) ?_ ?_
     ·cases hb : (e_5 != (-1))
      ·rw [hb] at hf
       have hF := condF hb ht_4
       obtain rfl := sj hF
       refine qS hf rfl rfl rfl fun a hf => qS hf rfl rfl rfl fun a hf => qS hf rfl rfl rfl fun a hf => qS hf rfl rfl rfl fun a hf => qS hf rfl rfl rfl fun a hf => qS hf rfl rfl rfl fun a hf => qS hf rfl rfl rfl fun a hf => qS hf rfl rfl rfl fun a hf => qS hf rfl rfl rfl fun a hf => qS hf rfl rfl rfl fun a hf => qS hf rfl rfl rfl fun a hf => qS hf rfl rfl rfl fun a hf => qS hf rfl rfl rfl fun a hf => ?_
       refine qS hf rfl rfl rfl fun a hf => qS hf rfl rfl rfl fun a hf => qS hf rfl rfl rfl fun a hf => qS hf rfl rfl rfl fun a hf => qS hf rfl rfl rfl fun a hf => qE hf rfl rfl rfl (Pu.ev (pPf rfl rfl)) fun a hf => qNil (hf.kp rfl)
      ·rw [hb] at hf
       have hF := condT hb ht_4
       obtain ⟨r_9,hr_9,hF⟩ := bnd_some hF
       obtain ⟨t_3,ht_3,hF⟩ := bnd_some hF
       refine qE hf rfl rfl rfl (Pu.ev (pM rfl)) fun a hf => qE hf rfl rfl rfl (Pu.ev (pM rfl)) fun a hf => qE hf rfl rfl rfl (Pu.ev (pM rfl)) fun a hf => qE hf rfl rfl rfl (eCB (v := .bool r_9) (bs := [pq b_13]) (vs := [i6 x,i6 e_5]) (caps := []) en_110 rfl rfl rfl rfl (fun w hc => crew_work_possible_ok (⟨r,r_4.1⟩ : crew_work) x e_5 ((h_r_People.mono hle_fz_1).mono hle_fz_2) ((h_r_Stations.mono hle_fz_1).mono hle_fz_2) (pc_fz_1.mono hle_fz_2) hc hr_9)) fun a hf => qE hf rfl rfl rfl (Pu.ev (pNot rfl)) fun a hf => qE hf rfl rfl rfl (Pu.ev (pM rfl)) fun a hf => qCut 12 (fun a => Has 115 a [(1,.slice assignment_p assignment.length assignment_c),(2,pq b_1),(4,pq b_2),(6,pq b_14),(7,pq b_15),(8,pq b_17),(9,.func (.func 110) #[pq b_13] #[]),(46,.slice assignment_p assignment.length assignment_c),(47,i6 ((assignment.length : Nat) : Int)),(48,i6 x),(10,i6 x),(11,i6 e_5),(53,i6 e_5),(54,.bool true),(55,.bool true),(56,.func (.func 110) #[pq b_13] #[]),(57,i6 x),(58,i6 e_5),(59,.bool r_9),(60,.bool (!r_9)),(61,.bool (!r_9)),(73,.bool t_3)]) ?_ ?_
       ·cases hb : (!r_9)
        ·rw [hb] at hf
         have hF := condF hb ht_3
         obtain ⟨un_3,hun_3,hF⟩ := bnd_some hF
         obtain ⟨e_6,he_6,hF⟩ := bnd_some hF
         obtain ⟨e_7,he_7,hF⟩ := bnd_some hF
         obtain ⟨b_27,o_4,hd_1,qa_4,qp_4,qr_1⟩ := ((h_r_Stations.mono hle_fz_1).mono hle_fz_2).atm he_7
         refine qE hf rfl rfl rfl (Pu.ev (pM rfl)) fun a hf => qE hf rfl rfl rfl (Pu.ev (pIAA Tryz.underlying172 sz_25 rfl rfl (inR_spec hun_3).1 (inR_spec hun_3).2)) fun a hf => qE hf rfl rfl rfl (eLd1 sc_25 rfl (cell_box m0 (tarr_cell0 one_kd_25 he_6 rfl))) fun a hf => qE hf rfl rfl rfl (Pu.ev (pLenS Tryz.underlying25 rfl)) fun a hf => qE hf rfl rfl rfl (Pu.ev (pFA fa_78_1 rfl)) fun a hf => qE hf rfl rfl rfl (eLd1 sc_76 rfl (cell_box m4 rfl)) fun a hf => qE hf rfl rfl rfl (Pu.ev (pM rfl)) fun a hf => qE hf rfl rfl rfl (Pu.ev (pIA Tryz.underlying76 sz_101 rfl rfl qa_4)) fun a hf => qE hf rfl rfl rfl (Pu.ev (pFA fa_101_0 rfl)) fun a hf => qE hf rfl rfl rfl (eLd1 sc_3 rfl (cell_pc (j := 0) qp_4 rfl)) fun a hf => qE hf rfl rfl rfl (Pu.ev (pGt rfl rfl)) fun a hf => qE hf rfl rfl rfl (Pu.ev (pPf rfl rfl)) fun a hf => ?_
         obtain rfl := sj hF
         exact qNil (hf.kp rfl)
        ·rw [hb] at hf
         have hF := condT hb ht_3
         obtain rfl := sj hF
         refine qS hf rfl rfl rfl fun a hf => qS hf rfl rfl rfl fun a hf => qS hf rfl rfl rfl fun a hf => qS hf rfl rfl rfl fun a hf => qS hf rfl rfl rfl fun a hf => qS hf rfl rfl rfl fun a hf => qS hf rfl rfl rfl fun a hf => qS hf rfl rfl rfl fun a hf => qS hf rfl rfl rfl fun a hf => qS hf rfl rfl rfl fun a hf => qS hf rfl rfl rfl fun a hf => qE hf rfl rfl rfl (Pu.ev (pPt rfl rfl)) fun a hf => qNil (hf.kp rfl)
       intro a hf
       refine qE hf rfl rfl rfl (Pu.ev (pPt rfl rfl)) fun a hf => ?_
       obtain rfl := sj hF
       exact qNil (hf.kp rfl)
     intro a hf
     intro w hc
     refine h51 _ _ ?_
     refine zI hf rfl hF ?_ ?_ <;> clear hF <;> intro hF
     ·refine zS fun K h => zP hf rfl (pBuildS (cells := [i6 0,i6 0]) bt_86 rfl rfl) fun a hf => zW hf hc sz_86 u3 rfl fun w hc => sp 1 hf rfl fun a hf => zT h ?_
      refine wp_ret ?_
      refine xBlkR ?_
      refine xThenR ?_
      refine xThenR ?_
      have he := sj hF
      rw [← he] at hfin30
      replace hF := ho30 _ hfin30
      refine xBlkR ?_
      refine xThenR ?_
      refine xScopeR ?_
      obtain rfl := hF
      replace hc := hc.down hle_fz_2
      replace hc := hc.down hle_fz_1
      replace hc := (((hc.drop k4).drop k2).drop k1).drop k0
      refine outM hf ?_
      exact outM2 Tryz.results46 hf hc (rv_cellN (vs := [i6 0,i6 0]) ag_86 rfl rfl (cells_box (n := 2) m0 rfl)) (show look _ 5 = _ from rfl) ⟨rfl,(hc.drop k0)⟩
     ·refine wp_skip ?_
      refine h49 _ _ ?_
      refine cReg ?_
      refine sp 2 hf rfl fun a hf => cNil ?_
      exact hK30 (W (x + 1)) _ _ (sj hF).symm ⟨hf.kp rfl,hc⟩
    ·refine wp_exit ?_
     refine xThen ?_
     refine xThen ?_
     have he := sj hF
     rw [← he] at hfin30
     refine cHit ?_
     exact hr30 _ _ _ hfin30 ⟨hf.kp rfl,hc⟩

def crew_Holds_1 (x : crew_Refusal) (x_1 : crew_Roster) : Bool :=
 ((crew_in x.Person 0 (W (((x_1.People.length : Nat) : Int) - 1))) && (crew_in x.Station 0 (W (((x_1.Stations.length : Nat) : Int) - 1))))
theorem crew_Holds_1_ok {G : Pers} {Lf : List Ent} {w : World} (x : crew_Refusal) (x_1 : crew_Roster) {b_ : Nat} {x_1_People_p : Option Addr} {x_1_People_c : Nat} {x_1_Stations_p : Option Addr} {x_1_Stations_c : Nat} (h_x_1_People : RdT kd_25 G 1 x_1_People_p x_1_People_c x_1.People) (h_x_1_Stations : RdT kd_101 G 2 x_1_Stations_p x_1_Stations_c x_1.Stations) (hc : Ctx G (.box b_ [.slice x_1_People_p x_1.People.length x_1_People_c,.slice x_1_Stations_p x_1.Stations.length x_1_Stations_c] 78::Lf) w) {res : Bool} (hF : crew_Holds_1 x x_1 = res) : Calls Tryz.prog 129 #[.agg #[i6 x.Person,i6 x.Station],pq b_] w (fun e w => e = .returned (.bool res) ∧ Ctx G (.box b_ [.slice x_1_People_p x_1.People.length x_1_People_c,.slice x_1_Stations_p x_1.Stations.length x_1_Stations_c] 78::Lf) w) := by
 unfold crew_Holds_1 at hF
 refine fnIn Tryz.func129 rfl Tryz.ntmps129 rfl fun a hf => zS fun K h => zB hf hc rfl fun b_1 a w hf hc => sp 1 hf rfl fun a hf => zT h ?_
 refine zS fun K h => zP hf rfl (pFA fa_86_0 rfl) fun a hf => zL hf hc sc_3 m0 rfl fun a w hf hc => zP hf rfl (pFA fa_78_0 rfl) fun a hf => zL hf hc sc_75 m1 rfl fun a w hf hc => zP hf rfl (pLenS Tryz.underlying75 rfl) fun a hf => sp 1 hf rfl fun a hf => zQ (v := .bool (crew_in x.Person 0 (W (((x_1.People.length : Nat) : Int) - 1)))) hf hc en_86 rfl (fun w hc => crew_in_ok x.Person 0 (W (((x_1.People.length : Nat) : Int) - 1)) hc rfl) fun a w hf hc => sp 1 hf rfl fun a hf => stCc 8 (fun a => Has 20 a [(1,pq b_),(2,pq b_1),(3,.bool false),(4,pq b_1),(5,i6 x.Person),(6,pq b_),(7,.slice x_1_People_p x_1.People.length x_1_People_c),(8,i6 ((x_1.People.length : Nat) : Int)),(9,i6 (W (((x_1.People.length : Nat) : Int) - 1))),(10,.bool (crew_in x.Person 0 (W (((x_1.People.length : Nat) : Int) - 1)))),(11,.bool (crew_in x.Person 0 (W (((x_1.People.length : Nat) : Int) - 1)))),(19,.bool ((crew_in x.Person 0 (W (((x_1.People.length : Nat) : Int) - 1))) && (crew_in x.Station 0 (W (((x_1.Stations.length : Nat) : Int) - 1)))))]) hc ?_ ?_
 ·cases hb : (crew_in x.Person 0 (W (((x_1.People.length : Nat) : Int) - 1)))
  ·rw [hb] at hf
   refine stS hf rfl rfl rfl fun a hf => stS hf rfl rfl rfl fun a hf => stS hf rfl rfl rfl fun a hf => stS hf rfl rfl rfl fun a hf => stS hf rfl rfl rfl fun a hf => stS hf rfl rfl rfl fun a hf => stS hf rfl rfl rfl fun a hf => sp 1 hf rfl fun a hf => cNil ⟨hf.kp rfl,hc⟩
  ·rw [hb] at hf
   refine zP hf rfl (pFA fa_86_1 rfl) fun a hf => zL hf hc sc_3 m0 rfl fun a w hf hc => zP hf rfl (pFA fa_78_1 rfl) fun a hf => zL hf hc sc_76 m1 rfl fun a w hf hc => zP hf rfl (pLenS Tryz.underlying76 rfl) fun a hf => sp 1 hf rfl fun a hf => zQ (v := .bool (crew_in x.Station 0 (W (((x_1.Stations.length : Nat) : Int) - 1)))) hf hc en_86 rfl (fun w hc => crew_in_ok x.Station 0 (W (((x_1.Stations.length : Nat) : Int) - 1)) hc rfl) fun a w hf hc => sp 1 hf rfl fun a hf => cNil ⟨hf.kp rfl,hc⟩
 intro a w ⟨hf,hc⟩
 refine sp 1 hf rfl fun a hf => zT h ?_
 refine wp_ret ?_
 obtain rfl := hF
 replace hc := hc.drop k0
 exact zO1 Tryz.results129 hf rfl ⟨rfl,hc⟩

def crew_every_crew_Refusal_1 (x : crew_Refusal) (x_1 : crew_Roster) : Bool :=
 (!(crew_Holds_1 x x_1))
theorem crew_every_crew_Refusal_1_ok {G : Pers} {Lf : List Ent} {w : World} (x : crew_Refusal) (x_1 : crew_Roster) {b_ : Nat} {b__1 : Nat} {x_1_People_p : Option Addr} {x_1_People_c : Nat} {x_1_Stations_p : Option Addr} {x_1_Stations_c : Nat} (h_x_1_People : RdT kd_25 G 1 x_1_People_p x_1_People_c x_1.People) (h_x_1_Stations : RdT kd_101 G 2 x_1_Stations_p x_1_Stations_c x_1.Stations) (hc : Ctx G (.box b_ [.func (.func 129) #[] #[pq b__1]] 192::.box b__1 [.slice x_1_People_p x_1.People.length x_1_People_c,.slice x_1_Stations_p x_1.Stations.length x_1_Stations_c] 78::Lf) w) {res : Bool} (hF : crew_every_crew_Refusal_1 x x_1 = res) : Calls Tryz.prog 172 #[.agg #[i6 x.Person,i6 x.Station],pq b_] w (fun e w => e = .returned (.bool res) ∧ Ctx G (.box b_ [.func (.func 129) #[] #[pq b__1]] 192::.box b__1 [.slice x_1_People_p x_1.People.length x_1_People_c,.slice x_1_Stations_p x_1.Stations.length x_1_Stations_c] 78::Lf) w) := by
 unfold crew_every_crew_Refusal_1 at hF
 refine fnIn Tryz.func172 rfl Tryz.ntmps172 rfl fun a hf => zS fun K h => zB hf hc rfl fun b_1 a w hf hc => sp 1 hf rfl fun a hf => zT h ?_
 refine zS fun K h => zL hf hc sc_192 m1 rfl fun a w hf hc => zN hf hc ag_86 m0 rfl fun a w hf hc => zQ (v := .bool (crew_Holds_1 x x_1)) hf hc en_129 rfl (fun w hc => (crew_Holds_1_ok x x_1 h_x_1_People h_x_1_Stations (hc.pick k2) rfl).mono fun e w h => ⟨h.1,(h.2.unpick k2)⟩) fun a w hf hc => sp 2 hf rfl fun a hf => zT h ?_
 refine wp_ret ?_
 obtain rfl := hF
 replace hc := hc.drop k0
 exact zO1 Tryz.results172 hf rfl ⟨rfl,hc⟩

def slices_IndexFunc_Lcrew_Refusal_crew_Refusal_s2_b4 (N : Nat) (s_ : List crew_Refusal) (f_ : crew_Roster) (x : Int) : Option (Step (Int) (Int)) :=
 cond (decide (x < ((s_.length : Nat) : Int)))
 (Option.bind (getI s_ x) fun e_1 =>
 cond (crew_every_crew_Refusal_1 e_1 f_)
 (some (.ret x))
 (some (.cont (W (x + 1)))))
 (some (.brk x))
def slices_IndexFunc_Lcrew_Refusal_crew_Refusal_s2 (N : Nat) (s_ : List crew_Refusal) (f_ : crew_Roster) : Option (Int) :=
 Option.bind (loopO (fun s4 => slices_IndexFunc_Lcrew_Refusal_crew_Refusal_s2_b4 N s_ f_ s4) N 0) fun x4 =>
 exK x4 (fun s4 => some (-1)) some
theorem slices_IndexFunc_Lcrew_Refusal_crew_Refusal_s2_ok {N : Nat} {G : Pers} {Lf : List Ent} {w : World} (s_ : List crew_Refusal) (f_ : crew_Roster) {s__p : Option Addr} {s__c : Nat} {b_ : Nat} {b__1 : Nat} {f__People_p : Option Addr} {f__People_c : Nat} {f__Stations_p : Option Addr} {f__Stations_c : Nat} (h_s_ : Rd G 2 s__p s__c (s_.map enc_crew_Refusal)) (h_f__People : RdT kd_25 G 1 f__People_p f__People_c f_.People) (h_f__Stations : RdT kd_101 G 2 f__Stations_p f__Stations_c f_.Stations) (hc : Ctx G (.box b_ [.func (.func 129) #[] #[pq b__1]] 192::.box b__1 [.slice f__People_p f_.People.length f__People_c,.slice f__Stations_p f_.Stations.length f__Stations_c] 78::Lf) w) {res : Int} (hF : slices_IndexFunc_Lcrew_Refusal_crew_Refusal_s2 N s_ f_ = some res) : Calls Tryz.prog 188 #[.slice s__p s_.length s__c,.func (.func 172) #[] #[pq b_]] w (fun e w => e = .returned (i6 res) ∧ Ctx G (.box b_ [.func (.func 129) #[] #[pq b__1]] 192::.box b__1 [.slice f__People_p f_.People.length f__People_c,.slice f__Stations_p f_.Stations.length f__Stations_c] 78::Lf) w) := by
 unfold slices_IndexFunc_Lcrew_Refusal_crew_Refusal_s2 at hF
 refine fnIn Tryz.func188 rfl Tryz.ntmps188 rfl fun a hf => zS fun K h => sp 1 hf rfl fun a hf => zT h ?_
 refine wp_seq_k fun K2 h2 => zS fun K h => sp 1 hf rfl fun a hf => zP hf rfl (pLenS Tryz.underlying99 rfl) fun a hf => sp 1 hf rfl fun a hf => zT h ?_
 refine wp_block ?_
 obtain ⟨x4,hx4,hF⟩ := bnd_some hF
 let S4 : Int → Act → World → Prop := (fun (zz : Int) a w => Has 19 a [(0,.slice s__p s_.length s__c),(1,.func (.func 172) #[] #[pq b_]),(7,i6 ((s_.length : Nat) : Int)),(8,i6 zz)] ∧ Ctx G (.box b_ [.func (.func 129) #[] #[pq b__1]] 192::.box b__1 [.slice f__People_p f_.People.length f__People_c,.slice f__Stations_p f_.Stations.length f__Stations_c] 78::Lf) w)
 have hr4 : ∀ (zz : Int) a w,x4 = .go zz → S4 zz a w → K2 a w := by
  rintro x a w rfl ⟨hf,hc⟩
  replace hF := exK_go hF
  refine h2 _ _ ?_
  refine zS fun K h => sp 1 hf rfl fun a hf => zT h ?_
  refine wp_ret ?_
  obtain rfl := sj hF
  exact zO1 Tryz.results188 hf rfl ⟨rfl,hc⟩
 have ho4 : ∀ r,x4 = .out r → r = res := by
  rintro r rfl
  exact sj hF
 refine cLoop N (loopW (S := S4) (x := x4) ?_ N 0 _ _ ⟨hf.kp rfl,hc⟩ hx4)
 clear hF hf hc
 rintro x st4 a w KB4 ⟨hf,hc⟩ hF hfin4 hK4
 unfold slices_IndexFunc_Lcrew_Refusal_crew_Refusal_s2_b4 at hF
 refine zS fun K h => sp 1 hf rfl fun a hf => zT h ?_
 refine wp_seq_k fun K7 h7 => zI hf rfl hF ?_ ?_ <;> clear hF <;> intro hF
 ·refine wp_skip ?_
  refine h7 _ _ ?_
  refine wp_seq_k fun K8 h8 => wp_block ?_
  refine zS fun K h => sp 2 hf rfl fun a hf => zT h ?_
  refine zS fun K h => sp 3 hf rfl fun a hf => ?_
  obtain ⟨e_1,he_1,hF⟩ := bnd_some hF
  obtain ⟨b_1,o,qa,qp⟩ := h_s_.atm he_1
  refine zP hf rfl (pIA Tryz.underlying99 sz_86 rfl rfl qa) fun a hf => zE hf hc rfl (eLdN (vs := [i6 e_1.Person,i6 e_1.Station]) ag_86 rfl rfl (cells_pc qp (n := 2) (o' := 0) rfl)) fun a w hf hc => zQ (v := .bool (crew_every_crew_Refusal_1 e_1 f_)) hf hc en_172 rfl (fun w hc => (crew_every_crew_Refusal_1_ok e_1 f_ h_f__People h_f__Stations ((hc.pick k1).pick k1) rfl).mono fun e w h => ⟨h.1,((h.2.unpick k1).unpick k1)⟩) fun a w hf hc => zT h ?_
  refine zI hf rfl hF ?_ ?_ <;> clear hF <;> intro hF
  ·refine zS fun K h => sp 2 hf rfl fun a hf => zT h ?_
   refine wp_ret ?_
   refine xBlkR ?_
   refine xThenR ?_
   refine xThenR ?_
   have he := sj hF
   rw [← he] at hfin4
   replace hF := ho4 _ hfin4
   refine xBlkR ?_
   refine xThenR ?_
   obtain rfl := hF
   exact zO1 Tryz.results188 hf rfl ⟨rfl,hc⟩
  ·refine wp_skip ?_
   refine h8 _ _ ?_
   refine cReg ?_
   refine sp 2 hf rfl fun a hf => cNil ?_
   exact hK4 (W (x + 1)) _ _ (sj hF).symm ⟨hf.kp rfl,hc⟩
 ·refine wp_exit ?_
  refine xThen ?_
  refine xThen ?_
  have he := sj hF
  rw [← he] at hfin4
  refine cHit ?_
  exact hr4 _ _ _ hfin4 ⟨hf.kp rfl,hc⟩

def slices_ContainsFunc_Lcrew_Refusal_crew_Refusal_s2 (N : Nat) (s_ : List crew_Refusal) (f_ : crew_Roster) : Option (Bool) :=
 Option.bind (slices_IndexFunc_Lcrew_Refusal_crew_Refusal_s2 N s_ f_) fun r =>
 some (decide (0 ≤ r))
theorem slices_ContainsFunc_Lcrew_Refusal_crew_Refusal_s2_ok {N : Nat} {G : Pers} {Lf : List Ent} {w : World} (s_ : List crew_Refusal) (f_ : crew_Roster) {s__p : Option Addr} {s__c : Nat} {b_ : Nat} {b__1 : Nat} {f__People_p : Option Addr} {f__People_c : Nat} {f__Stations_p : Option Addr} {f__Stations_c : Nat} (h_s_ : Rd G 2 s__p s__c (s_.map enc_crew_Refusal)) (h_f__People : RdT kd_25 G 1 f__People_p f__People_c f_.People) (h_f__Stations : RdT kd_101 G 2 f__Stations_p f__Stations_c f_.Stations) (hc : Ctx G (.box b_ [.func (.func 129) #[] #[pq b__1]] 192::.box b__1 [.slice f__People_p f_.People.length f__People_c,.slice f__Stations_p f_.Stations.length f__Stations_c] 78::Lf) w) {res : Bool} (hF : slices_ContainsFunc_Lcrew_Refusal_crew_Refusal_s2 N s_ f_ = some res) : Calls Tryz.prog 164 #[.slice s__p s_.length s__c,.func (.func 172) #[] #[pq b_]] w (fun e w => e = .returned (.bool res) ∧ Ctx G (.box b_ [.func (.func 129) #[] #[pq b__1]] 192::.box b__1 [.slice f__People_p f_.People.length f__People_c,.slice f__Stations_p f_.Stations.length f__Stations_c] 78::Lf) w) := by
 unfold slices_ContainsFunc_Lcrew_Refusal_crew_Refusal_s2 at hF
 refine fnIn Tryz.func164 rfl Tryz.ntmps164 rfl fun a hf => zS fun K h => sp 1 hf rfl fun a hf => zT h ?_
 refine zS fun K h => sp 2 hf rfl fun a hf => ?_
 obtain ⟨r,hr,hF⟩ := bnd_some hF
 refine zQ (v := i6 r) hf hc en_188 rfl (fun w hc => (slices_IndexFunc_Lcrew_Refusal_crew_Refusal_s2_ok s_ f_ h_s_ h_f__People h_f__Stations ((hc.pick k1).pick k1) hr).mono fun e w h => ⟨h.1,((h.2.unpick k1).unpick k1)⟩) fun a w hf hc => sp 2 hf rfl fun a hf => zT h ?_
 refine wp_ret ?_
 obtain rfl := sj hF
 exact zO1 Tryz.results164 hf rfl ⟨rfl,hc⟩

def crew_every_crew_Refusal (N : Nat) (l : List crew_Refusal) (so : crew_Roster) : Option (Bool) :=
 Option.bind (slices_ContainsFunc_Lcrew_Refusal_crew_Refusal_s2 N l so) fun r =>
 some (!r)
theorem crew_every_crew_Refusal_ok {N : Nat} {G : Pers} {Lf : List Ent} {w : World} (l : List crew_Refusal) (so : crew_Roster) {l_p : Option Addr} {l_c : Nat} {b_ : Nat} {so_People_p : Option Addr} {so_People_c : Nat} {so_Stations_p : Option Addr} {so_Stations_c : Nat} (h_l : Rd G 2 l_p l_c (l.map enc_crew_Refusal)) (h_so_People : RdT kd_25 G 1 so_People_p so_People_c so.People) (h_so_Stations : RdT kd_101 G 2 so_Stations_p so_Stations_c so.Stations) (hc : Ctx G (.box b_ [.slice so_People_p so.People.length so_People_c,.slice so_Stations_p so.Stations.length so_Stations_c] 78::Lf) w) {res : Bool} (hF : crew_every_crew_Refusal N l so = some res) : Calls Tryz.prog 128 #[.slice l_p l.length l_c,.func (.func 129) #[] #[pq b_]] w (fun e w => e = .returned (.bool res) ∧ Ctx G (.box b_ [.slice so_People_p so.People.length so_People_c,.slice so_Stations_p so.Stations.length so_Stations_c] 78::Lf) w) := by
 unfold crew_every_crew_Refusal at hF
 refine fnIn Tryz.func128 rfl Tryz.ntmps128 rfl fun a hf => zS fun K h => zB hf hc rfl fun b_1 a w hf hc => sp 1 hf rfl fun a hf => zT h ?_
 refine zS fun K h => sp 1 hf rfl fun a hf => zP hf rfl (pMF (us := [pq b_1]) rfl rfl) fun a hf => ?_
 obtain ⟨r,hr,hF⟩ := bnd_some hF
 refine zQ (v := .bool r) hf hc en_164 rfl (fun w hc => (slices_ContainsFunc_Lcrew_Refusal_crew_Refusal_s2_ok l so h_l h_so_People h_so_Stations ((hc.pick k1).pick k1) hr).mono fun e w h => ⟨h.1,((h.2.unpick k1).unpick k1)⟩) fun a w hf hc => sp 2 hf rfl fun a hf => zT h ?_
 refine wp_ret ?_
 obtain rfl := sj hF
 replace hc := hc.drop k0
 exact zO1 Tryz.results128 hf rfl ⟨rfl,hc⟩

def slices_Index_Lcrew_Refusal_crew_Refusal_b4 (N : Nat) (s_ : List crew_Refusal) (v : crew_Refusal) (x : Int) : Option (Step (Int) (Int)) :=
 cond (decide (x < ((s_.length : Nat) : Int)))
 (Option.bind (getI s_ x) fun e_1 =>
 cond (v.Person == e_1.Person && v.Station == e_1.Station)
 (some (.ret x))
 (some (.cont (W (x + 1)))))
 (some (.brk x))
def slices_Index_Lcrew_Refusal_crew_Refusal (N : Nat) (s_ : List crew_Refusal) (v : crew_Refusal) : Option (Int) :=
 Option.bind (loopO (fun s4 => slices_Index_Lcrew_Refusal_crew_Refusal_b4 N s_ v s4) N 0) fun x4 =>
 exK x4 (fun s4 => some (-1)) some
theorem slices_Index_Lcrew_Refusal_crew_Refusal_ok {N : Nat} {G : Pers} {Lf : List Ent} {w : World} (s_ : List crew_Refusal) (v : crew_Refusal) {s__p : Option Addr} {s__c : Nat} (h_s_ : Rd G 2 s__p s__c (s_.map enc_crew_Refusal)) (hc : Ctx G (Lf) w) {res : Int} (hF : slices_Index_Lcrew_Refusal_crew_Refusal N s_ v = some res) : Calls Tryz.prog 193 #[.slice s__p s_.length s__c,.agg #[i6 v.Person,i6 v.Station]] w (fun e w => e = .returned (i6 res) ∧ Ctx G (Lf) w) := by
 unfold slices_Index_Lcrew_Refusal_crew_Refusal at hF
 refine fnIn Tryz.func193 rfl Tryz.ntmps193 rfl fun a hf => zS fun K h => zB hf hc rfl fun b_1 a w hf hc => sp 1 hf rfl fun a hf => zT h ?_
 refine wp_seq_k fun K2 h2 => zS fun K h => sp 1 hf rfl fun a hf => zP hf rfl (pLenS Tryz.underlying99 rfl) fun a hf => sp 1 hf rfl fun a hf => zT h ?_
 refine wp_block ?_
 obtain ⟨x4,hx4,hF⟩ := bnd_some hF
 let S4 : Int → Act → World → Prop := (fun (zz : Int) a w => Has 19 a [(0,.slice s__p s_.length s__c),(3,pq b_1),(7,i6 ((s_.length : Nat) : Int)),(8,i6 zz)] ∧ Ctx G (.box b_1 [i6 v.Person,i6 v.Station] 86::Lf) w)
 have hr4 : ∀ (zz : Int) a w,x4 = .go zz → S4 zz a w → K2 a w := by
  rintro x a w rfl ⟨hf,hc⟩
  replace hF := exK_go hF
  refine h2 _ _ ?_
  refine zS fun K h => sp 1 hf rfl fun a hf => zT h ?_
  refine wp_ret ?_
  obtain rfl := sj hF
  replace hc := hc.drop k0
  exact zO1 Tryz.results193 hf rfl ⟨rfl,hc⟩
 have ho4 : ∀ r,x4 = .out r → r = res := by
  rintro r rfl
  exact sj hF
 refine cLoop N (loopW (S := S4) (x := x4) ?_ N 0 _ _ ⟨hf.kp rfl,hc⟩ hx4)
 clear hF hf hc
 rintro x st4 a w KB4 ⟨hf,hc⟩ hF hfin4 hK4
 unfold slices_Index_Lcrew_Refusal_crew_Refusal_b4 at hF
 refine zS fun K h => sp 1 hf rfl fun a hf => zT h ?_
 refine wp_seq_k fun K7 h7 => zI hf rfl hF ?_ ?_ <;> clear hF <;> intro hF
 ·refine wp_skip ?_
  refine h7 _ _ ?_
  refine wp_seq_k fun K8 h8 => wp_block ?_
  refine zS fun K h => sp 2 hf rfl fun a hf => zT h ?_
  refine wp_seq_k fun K10 h10 => ?_
  obtain ⟨e_1,he_1,hF⟩ := bnd_some hF
  obtain ⟨b_2,o,qa,qp⟩ := h_s_.atm he_1
  refine cQ hc follows_mx (by kernel_rfl) ?_
  refine qE hf rfl rfl rfl (eLdN (vs := [i6 v.Person,i6 v.Station]) ag_86 rfl rfl (cells_box (n := 2) m0 rfl)) fun a hf => qE hf rfl rfl rfl (Pu.ev (pM rfl)) fun a hf => qE hf rfl rfl rfl (Pu.ev (pM rfl)) fun a hf => qE hf rfl rfl rfl (Pu.ev (pIA Tryz.underlying99 sz_86 rfl rfl qa)) fun a hf => qE hf rfl rfl rfl (eLdN (vs := [i6 e_1.Person,i6 e_1.Station]) ag_86 rfl rfl (cells_pc qp (n := 2) (o' := 0) rfl)) fun a hf => qE hf rfl rfl rfl (Pu.ev (pEqA ge_86 rfl rfl (eqs_86 _ _ _ _))) fun a hf => ?_
  intro w hc
  refine h10 _ _ ?_
  refine zI hf rfl hF ?_ ?_ <;> clear hF <;> intro hF
  ·refine zS fun K h => sp 2 hf rfl fun a hf => zT h ?_
   refine wp_ret ?_
   refine xBlkR ?_
   refine xThenR ?_
   refine xThenR ?_
   have he := sj hF
   rw [← he] at hfin4
   replace hF := ho4 _ hfin4
   refine xBlkR ?_
   refine xThenR ?_
   obtain rfl := hF
   replace hc := hc.drop k0
   exact zO1 Tryz.results193 hf rfl ⟨rfl,hc⟩
  ·refine wp_skip ?_
   refine h8 _ _ ?_
   refine cReg ?_
   refine sp 2 hf rfl fun a hf => cNil ?_
   exact hK4 (W (x + 1)) _ _ (sj hF).symm ⟨hf.kp rfl,hc⟩
 ·refine wp_exit ?_
  refine xThen ?_
  refine xThen ?_
  have he := sj hF
  rw [← he] at hfin4
  refine cHit ?_
  exact hr4 _ _ _ hfin4 ⟨hf.kp rfl,hc⟩

def slices_Contains_Lcrew_Refusal_crew_Refusal (N : Nat) (s_ : List crew_Refusal) (v : crew_Refusal) : Option (Bool) :=
 Option.bind (slices_Index_Lcrew_Refusal_crew_Refusal N s_ v) fun r =>
 some (decide (0 ≤ r))
theorem slices_Contains_Lcrew_Refusal_crew_Refusal_ok {N : Nat} {G : Pers} {Lf : List Ent} {w : World} (s_ : List crew_Refusal) (v : crew_Refusal) {s__p : Option Addr} {s__c : Nat} (h_s_ : Rd G 2 s__p s__c (s_.map enc_crew_Refusal)) (hc : Ctx G (Lf) w) {res : Bool} (hF : slices_Contains_Lcrew_Refusal_crew_Refusal N s_ v = some res) : Calls Tryz.prog 173 #[.slice s__p s_.length s__c,.agg #[i6 v.Person,i6 v.Station]] w (fun e w => e = .returned (.bool res) ∧ Ctx G (Lf) w) := by
 unfold slices_Contains_Lcrew_Refusal_crew_Refusal at hF
 refine fnIn Tryz.func173 rfl Tryz.ntmps173 rfl fun a hf => zS fun K h => zB hf hc rfl fun b_1 a w hf hc => sp 1 hf rfl fun a hf => zT h ?_
 refine zS fun K h => sp 1 hf rfl fun a hf => zN hf hc ag_86 m0 rfl fun a w hf hc => ?_
 obtain ⟨r,hr,hF⟩ := bnd_some hF
 refine zQ (v := i6 r) hf hc en_193 rfl (fun w hc => slices_Index_Lcrew_Refusal_crew_Refusal_ok s_ v h_s_ hc hr) fun a w hf hc => sp 2 hf rfl fun a hf => zT h ?_
 refine wp_ret ?_
 obtain rfl := sj hF
 replace hc := hc.drop k0
 exact zO1 Tryz.results173 hf rfl ⟨rfl,hc⟩

def crew_work_holds_j12 (N : Nat) (x_0 : Int) (many_1 : Int) : Option (Step (Int × Int) (Bool)) :=
 some (.cont (many_1,W (x_0 + 1)))
def crew_work_holds_r19 (N : Nat) (ahead : List crew_Refusal) (x_0 : Int) (x_1 : Bool) (xv : Int) : Option (Rs (Bool)) :=
 Option.bind (cond x_1 (Option.bind (slices_Contains_Lcrew_Refusal_crew_Refusal N ahead (⟨x_0,xv⟩ : crew_Refusal)) fun r_3 =>
 some r_3) (some false)) fun t_2 =>
 some (.go t_2)
def crew_work_holds_b8 (N : Nat) (w_ : crew_work) (x : crew_Refusal) (ahead : List crew_Refusal) (many : Int) (x_0 : Int) : Option (Step (Int × Int) (Bool)) :=
 cond (decide (x_0 < ((w_.Roster.People.length : Nat) : Int)))
 (Option.bind (crew_work_possible N w_ x_0 x.Station) fun r_1 =>
 Option.bind (cond (!r_1) (some true) (Option.bind (inR x.Station 12) fun un =>
 Option.bind (inR x_0 12) fun un_1 =>
 Option.bind (inR x.Station 12) fun un_2 =>
 Option.bind (inR x.Person 12) fun un_3 =>
 some (decide ((w_.rank (x.Station * 12 + x.Person).toNat) ≤ (w_.rank (x.Station * 12 + x_0).toNat))))) fun t_1 =>
 cond t_1
 (crew_work_holds_j12 N x_0 many)
 (Option.bind (crew_work_better N w_ x_0 x.Station) fun r_2 =>
 Option.bind (crew_work_better_1 N w_ r_2.1 r_2.2 (rY (fun (zz : Bool) (ix_ : Int) => crew_work_holds_r19 N ahead x_0 zz ix_)) (.go true)) fun x19 =>
 rsK x19 (fun zz19 => cond zz19
 (crew_work_holds_j12 N x_0 (W (many + 1)))
 (crew_work_holds_j12 N x_0 many)) (fun zz19 => none)))
 (some (.brk (many,x_0)))
def crew_work_holds (N : Nat) (w_ : crew_work) (x : crew_Refusal) (ahead : List crew_Refusal) : Option (Bool) :=
 Option.bind (crew_work_possible N w_ x.Person x.Station) fun r =>
 cond (!r)
 (some true)
 (Option.bind (loopO (fun s8 => crew_work_holds_b8 N w_ x ahead s8.1 s8.2) N (0,0)) fun x8 =>
 exK x8 (fun s8 => Option.bind (getI w_.Roster.Stations x.Station) fun e_1 =>
 some (decide (e_1.Places ≤ s8.1))) some)
theorem crew_work_holds_ok {N : Nat} {G : Pers} {Lf : List Ent} {w : World} (w_ : crew_work) (x : crew_Refusal) (ahead : List crew_Refusal) {b_ : Nat} {w__Roster_People_p : Option Addr} {w__Roster_People_c : Nat} {w__Roster_Stations_p : Option Addr} {w__Roster_Stations_c : Nat} {ahead_p : Option Addr} {ahead_c : Nat} (h_w__Roster_People : RdT kd_25 G 1 w__Roster_People_p w__Roster_People_c w_.Roster.People) (h_w__Roster_Stations : RdT kd_101 G 2 w__Roster_Stations_p w__Roster_Stations_c w_.Roster.Stations) (h_w__pc : PC G b_ 0 (catc [.slice w__Roster_People_p w_.Roster.People.length w__Roster_People_c,.slice w__Roster_Stations_p w_.Roster.Stations.length w__Roster_Stations_c] 144 encI_i64 w_.rank [])) (h_ahead : Rd G 2 ahead_p ahead_c (ahead.map enc_crew_Refusal)) (hc : Ctx G (Lf) w) {res : Bool} (hF : crew_work_holds N w_ x ahead = some res) : Calls Tryz.prog 130 #[pq b_,.agg #[i6 x.Person,i6 x.Station],.slice ahead_p ahead.length ahead_c] w (fun e w => e = .returned (.bool res) ∧ Ctx G (Lf) w) := by
 unfold crew_work_holds at hF
 refine fnInM Tryz.func130 rfl Tryz.ntmps130 rfl fun a hf => zS fun K h => zB hf hc rfl fun b_1 a w hf hc => zB hf hc rfl fun b_2 a w hf hc => sp 1 hf rfl fun a hf => zT h ?_
 refine wp_seq_k fun K2 h2 => zS fun K h => sp 1 hf rfl fun a hf => zP hf rfl (pFA fa_86_0 rfl) fun a hf => zL hf hc sc_3 m1 rfl fun a w hf hc => zP hf rfl (pFA fa_86_1 rfl) fun a hf => zL hf hc sc_3 m1 rfl fun a w hf hc => ?_
 obtain ⟨r,hr,hF⟩ := bnd_some hF
 refine zQ (v := .bool r) hf hc en_110 rfl (fun w hc => crew_work_possible_ok w_ x.Person x.Station h_w__Roster_People h_w__Roster_Stations h_w__pc hc hr) fun a w hf hc => sp 1 hf rfl fun a hf => zT h ?_
 refine zI hf rfl hF ?_ ?_ <;> clear hF <;> intro hF
 ·refine zS fun K h => sp 1 hf rfl fun a hf => zT h ?_
  refine wp_ret ?_
  refine xThenR ?_
  obtain rfl := sj hF
  replace hc := (hc.drop k1).drop k0
  refine outM hf ?_
  exact outM1 Tryz.results130 hf hc (show look _ 6 = _ from rfl) ⟨rfl,hc⟩
 ·refine wp_skip ?_
  refine h2 _ _ ?_
  refine zS fun K h => sp 1 hf rfl fun a hf => zT h ?_
  refine wp_seq_k fun K6 h6 => zS fun K h => sp 2 hf rfl fun a hf => zP hf rfl (pFA fa_181_0 rfl) fun a hf => zP hf rfl (pFA fa_78_0 rfl) fun a hf => zE hf hc rfl (eLd1 sc_75 rfl (cell_pc (j := 0) h_w__pc rfl)) fun a w hf hc => zP hf rfl (pLenS Tryz.underlying75 rfl) fun a hf => sp 1 hf rfl fun a hf => zT h ?_
  refine wp_block ?_
  obtain ⟨x8,hx8,hF⟩ := bnd_some hF
  let S8 : (Int × Int) → Act → World → Prop := (fun (zz : Int × Int) a w => ∃ (Ds : List Nat),Has ⟨85,markL Ds⟩ a [(0,pq b_),(4,pq b_1),(5,pq b_2),(7,i6 zz.1),(23,i6 ((w_.Roster.People.length : Nat) : Int)),(24,i6 zz.2)] ∧ Ctx G (.box b_2 [.slice ahead_p ahead.length ahead_c] 99::.box b_1 [i6 x.Person,i6 x.Station] 86::(raws Ds ++ Lf)) w)
  have hr8 : ∀ (zz : Int × Int) a w,x8 = .go zz → S8 zz a w → K6 a w := by
   rintro ⟨many,x_0⟩ a w rfl ⟨Ds,hf,hc⟩
   replace hF := exK_go hF
   refine h6 _ _ ?_
   refine wp_seq_k fun K9 h9 => ?_
   obtain ⟨e_1,he_1,hF⟩ := bnd_some hF
   obtain ⟨b_3,o,hd,qa,qp,qr⟩ := h_w__Roster_Stations.atm he_1
   refine cQ hc follows_mx (by kernel_rfl) ?_
   refine qE hf rfl rfl rfl (Pu.ev (pM rfl)) fun a hf => qE hf rfl rfl rfl (Pu.ev (pM rfl)) fun a hf => qE hf rfl rfl rfl (Pu.ev (pNC rfl)) fun a hf => qE hf rfl rfl rfl (Pu.ev (pFA fa_181_0 rfl)) fun a hf => qE hf rfl rfl rfl (Pu.ev (pFA fa_78_1 rfl)) fun a hf => qE hf rfl rfl rfl (eLd1 sc_76 rfl (cell_pc (j := 1) h_w__pc rfl)) fun a hf => qE hf rfl rfl rfl (Pu.ev (pFA fa_86_1 rfl)) fun a hf => qE hf rfl rfl rfl (eLd1 sc_3 rfl (cell_box m1 rfl)) fun a hf => qE hf rfl rfl rfl (Pu.ev (pIA Tryz.underlying76 sz_101 rfl rfl qa)) fun a hf => qE hf rfl rfl rfl (Pu.ev (pFA fa_101_0 rfl)) fun a hf => qE hf rfl rfl rfl (eLd1 sc_3 rfl (cell_pc (j := 0) qp rfl)) fun a hf => qE hf rfl rfl rfl (Pu.ev (pGe rfl rfl)) fun a hf => qE hf rfl rfl rfl (Pu.ev (pA rfl)) fun a hf => ?_
   intro w hc
   refine h9 _ _ ?_
   refine wp_ret ?_
   obtain rfl := sj hF
   replace hc := (hc.drop k1).drop k0
   refine outM hf ?_
   refine outML [] Ds hc fun w hc => ?_
   replace hc : Ctx G (Lf) w := hc
   exact outM1 Tryz.results130 hf hc (show look _ 6 = _ from rfl) ⟨rfl,hc⟩
  have ho8 : ∀ r,x8 = .out r → r = res := by
   rintro r rfl
   exact sj hF
  replace hf := markZ hf
  replace hc : Ctx G (.box b_2 [.slice ahead_p ahead.length ahead_c] 99::.box b_1 [i6 x.Person,i6 x.Station] 86::(raws [] ++ Lf)) w := hc
  refine cLoop N (loopW (S := S8) (x := x8) ?_ N (0,0) _ _ ⟨[],hf.kp rfl,hc⟩ hx8)
  clear hF hf hc
  rintro ⟨many,x_0⟩ st8 a w KB8 ⟨Ds,hf,hc⟩ hF hfin8 hK8
  unfold crew_work_holds_b8 at hF
  refine zS fun K h => sp 1 hf rfl fun a hf => zT h ?_
  refine wp_seq_k fun K11 h11 => zI hf rfl hF ?_ ?_ <;> clear hF <;> intro hF
  ·refine wp_skip ?_
   refine h11 _ _ ?_
   refine wp_seq_k fun K12 h12 => ?_
   have hj12 : ∀ (many_1 : Int) (Ds_1 : List Nat) a w,Has ⟨85,markL Ds_1⟩ a [(0,pq b_),(4,pq b_1),(5,pq b_2),(7,i6 many_1),(23,i6 ((w_.Roster.People.length : Nat) : Int)),(24,i6 x_0)] → Ctx G (.box b_2 [.slice ahead_p ahead.length ahead_c] 99::.box b_1 [i6 x.Person,i6 x.Station] 86::(raws Ds_1 ++ Lf)) w → crew_work_holds_j12 N x_0 many_1 = some st8 → K12 a w := by
    repeat (clear hF)
    repeat (clear hc)
    repeat (clear hf)
    intro many_1 Ds_1 a w hf hc hF
    unfold crew_work_holds_j12 at hF
    refine h12 _ _ ?_
    refine cReg ?_
    refine sp 2 hf rfl fun a hf => cNil ?_
    exact hK8 (many_1,W (x_0 + 1)) _ _ (sj hF).symm ⟨Ds_1,hf.kp rfl,hc⟩
   refine wp_block ?_
   refine zS fun K h => sp 1 hf rfl fun a hf => zA hf hc zr_3 rfl fun b_4 a w hf hc => zW hf hc sz_3 u0 rfl fun w hc => zT h ?_
   refine wp_seq_k fun K14 h14 => wp_seq_k fun K15 h15 => ?_
   obtain ⟨r_1,hr_1,hF⟩ := bnd_some hF
   obtain ⟨t_1,ht_1,hF⟩ := bnd_some hF
   refine cQ hc follows_mx (by kernel_rfl) ?_
   refine qE hf rfl rfl rfl (Pu.ev (pM rfl)) fun a hf => qE hf rfl rfl rfl (eLd1 sc_3 rfl (cell_box m0 rfl)) fun a hf => qE hf rfl rfl rfl (Pu.ev (pFA fa_86_1 rfl)) fun a hf => qE hf rfl rfl rfl (eLd1 sc_3 rfl (cell_box m2 rfl)) fun a hf => qE hf rfl rfl rfl (eC (v := .bool r_1) (vs := [pq b_,i6 x_0,i6 x.Station]) (caps := []) en_110 rfl rfl rfl rfl (fun w hc => crew_work_possible_ok w_ x_0 x.Station h_w__Roster_People h_w__Roster_Stations h_w__pc hc hr_1)) fun a hf => qE hf rfl rfl rfl (Pu.ev (pNot rfl)) fun a hf => qE hf rfl rfl rfl (Pu.ev (pM rfl)) fun a hf => qCut 21 (fun a => Has ⟨85,markL Ds⟩ a [(0,pq b_),(4,pq b_1),(5,pq b_2),(7,i6 many),(23,i6 ((w_.Roster.People.length : Nat) : Int)),(24,i6 x_0),(8,pq b_4),(27,pq b_),(28,i6 x_0),(29,.pointer (some ⟨b_1,1,none⟩)),(30,i6 x.Station),(31,.bool r_1),(32,.bool (!r_1)),(33,.bool (!r_1)),(54,.bool t_1)]) ?_ ?_
   ·cases hb : (!r_1)
    ·rw [hb] at hf
     have hF := condF hb ht_1
     obtain ⟨un,hun,hF⟩ := bnd_some hF
     obtain ⟨un_1,hun_1,hF⟩ := bnd_some hF
     obtain ⟨un_2,hun_2,hF⟩ := bnd_some hF
     obtain ⟨un_3,hun_3,hF⟩ := bnd_some hF
     refine qE hf rfl rfl rfl (Pu.ev (pM rfl)) fun a hf => qE hf rfl rfl rfl (Pu.ev (pFA fa_86_1 rfl)) fun a hf => qE hf rfl rfl rfl (eLd1 sc_3 rfl (cell_box m2 rfl)) fun a hf => qE hf rfl rfl rfl (eLd1 sc_3 rfl (cell_box m0 rfl)) fun a hf => qE hf rfl rfl rfl (Pu.ev (pNC rfl)) fun a hf => qE hf rfl rfl rfl (Pu.ev (pFA fa_181_1 rfl)) fun a hf => qE hf rfl rfl rfl (Pu.ev (pIAA Tryz.underlying179 sz_178 rfl rfl (inR_spec hun).1 (inR_spec hun).2)) fun a hf => qE hf rfl rfl rfl (Pu.ev (Pu.cast (pIAA Tryz.underlying178 sz_3 rfl rfl (inR_spec hun_1).1 (inR_spec hun_1).2) (congrArg (fun k => Value.pointer (some ⟨b_,k,none⟩)) (flat_off (M := 12) (0 + 2) hun hun_1 rfl)))) fun a hf => qE hf rfl rfl rfl (eLd1 sc_3 rfl (cell_pca (j := 0) h_w__pc (fun x => (one_encI_i64 x).1) rfl (inR2 hun hun_1 rfl) rfl)) fun a hf => qE hf rfl rfl rfl (Pu.ev (pM rfl)) fun a hf => qE hf rfl rfl rfl (Pu.ev (pFA fa_86_1 rfl)) fun a hf => qE hf rfl rfl rfl (eLd1 sc_3 rfl (cell_box m2 rfl)) fun a hf => qE hf rfl rfl rfl (Pu.ev (pFA fa_86_0 rfl)) fun a hf => ?_
     refine qE hf rfl rfl rfl (eLd1 sc_3 rfl (cell_box m2 rfl)) fun a hf => qE hf rfl rfl rfl (Pu.ev (pNC rfl)) fun a hf => qE hf rfl rfl rfl (Pu.ev (pFA fa_181_1 rfl)) fun a hf => qE hf rfl rfl rfl (Pu.ev (pIAA Tryz.underlying179 sz_178 rfl rfl (inR_spec hun_2).1 (inR_spec hun_2).2)) fun a hf => qE hf rfl rfl rfl (Pu.ev (Pu.cast (pIAA Tryz.underlying178 sz_3 rfl rfl (inR_spec hun_3).1 (inR_spec hun_3).2) (congrArg (fun k => Value.pointer (some ⟨b_,k,none⟩)) (flat_off (M := 12) (0 + 2) hun_2 hun_3 rfl)))) fun a hf => qE hf rfl rfl rfl (eLd1 sc_3 rfl (cell_pca (j := 0) h_w__pc (fun x => (one_encI_i64 x).1) rfl (inR2 hun_2 hun_3 rfl) rfl)) fun a hf => qE hf rfl rfl rfl (Pu.ev (pGe rfl rfl)) fun a hf => qE hf rfl rfl rfl (Pu.ev (pPf rfl rfl)) fun a hf => ?_
     obtain rfl := sj hF
     exact qNil (hf.kp rfl)
    ·rw [hb] at hf
     have hF := condT hb ht_1
     obtain rfl := sj hF
     refine qS hf rfl rfl rfl fun a hf => qS hf rfl rfl rfl fun a hf => qS hf rfl rfl rfl fun a hf => qS hf rfl rfl rfl fun a hf => qS hf rfl rfl rfl fun a hf => qS hf rfl rfl rfl fun a hf => qS hf rfl rfl rfl fun a hf => qS hf rfl rfl rfl fun a hf => qS hf rfl rfl rfl fun a hf => qS hf rfl rfl rfl fun a hf => qS hf rfl rfl rfl fun a hf => qS hf rfl rfl rfl fun a hf => qS hf rfl rfl rfl fun a hf => ?_
     refine qS hf rfl rfl rfl fun a hf => qS hf rfl rfl rfl fun a hf => qS hf rfl rfl rfl fun a hf => qS hf rfl rfl rfl fun a hf => qS hf rfl rfl rfl fun a hf => qS hf rfl rfl rfl fun a hf => qS hf rfl rfl rfl fun a hf => qE hf rfl rfl rfl (Pu.ev (pPt rfl rfl)) fun a hf => qNil (hf.kp rfl)
   intro a hf
   intro w hc
   refine h15 _ _ ?_
   refine zI hf rfl hF ?_ ?_ <;> clear hF <;> intro hF
   ·refine wp_exit ?_
    refine xThen ?_
    refine cHit ?_
    replace hc := hc.drop k0
    exact hj12 many Ds _ _  (hf.kp rfl) hc hF
   ·refine wp_skip ?_
    refine h14 _ _ ?_
    refine zS fun K h => zA hf hc zr_4 rfl fun b_5 a w hf hc => zW hf hc sz_4 u0 rfl fun w hc => zT h ?_
    refine wp_seq_k fun K17 h17 => zS fun K h => sp 1 hf rfl fun a hf => zL hf hc sc_3 m1 rfl fun a w hf hc => zP hf rfl (pFA fa_86_1 rfl) fun a hf => zL hf hc sc_3 m3 rfl fun a w hf hc => ?_
    obtain ⟨r_2,hr_2,hF⟩ := bnd_some hF
    refine zC hf en_111 rfl (crew_work_better_ok w_ x_0 x.Station h_w__Roster_People h_w__Roster_Stations h_w__pc hc hr_2) ?_
    rintro _ w ⟨b_6,b_7,b_8,rfl,hc⟩
    refine ⟨_,rfl,fun a hf => ?_⟩
    refine zT h ?_
    obtain ⟨x19,hx19,hF⟩ := bnd_some hF
    refine cRange (C := [.box b_6 [pq b_] 166,.box b_7 [i6 r_2.1] 3,.box b_8 [i6 r_2.2] 3]) (C2 := [.box b_6 [pq b_] 166,.box b_7 [i6 r_2.1] 3,.box b_8 [i6 r_2.2] 3]) (L0 := [.box b_5 [.bool true] 4,.box b_4 [i6 x_0] 3,.box b_2 [.slice ahead_p ahead.length ahead_c] 99,.box b_1 [i6 x.Person,i6 x.Station] 86]) (Lf := (raws Ds ++ Lf)) (encs := fun x : Int => [i6 x]) (fun (zz : Bool) L => L = [.box b_5 [.bool zz] 4,.box b_4 [i6 x_0] 3,.box b_2 [.slice ahead_p ahead.length ahead_c] 99,.box b_1 [i6 x.Person,i6 x.Station] 86]) (fun (zz : Bool) (ix_ : Int) => crew_work_holds_r19 N ahead x_0 zz ix_) true x19 hf hc rfl en_167 (fun _ => rfl) rfl rfl ?_ ?_ ?_ ?_
    ·intro lq mq J L Lx w hy hJ hc
     exact crew_work_better_1_ok w_ r_2.1 r_2.2 h_w__Roster_People h_w__Roster_Stations h_w__pc J _ hy _ hJ hc hx19
    ·clear hF hf hc
     rintro lq mq x_1 xv oq _ Lr Lb a w hK0 rfl hF hf hc hK
     replace hf : Has 85 a [(0,pq b_),(4,pq b_1),(5,pq b_2),(7,i6 many),(8,pq b_4),(9,pq b_5),(23,i6 ((w_.Roster.People.length : Nat) : Int)),(24,i6 x_0),(60,i6 xv)] := hf.kp rfl
     replace hc : Ctx G (.box b_5 [.bool x_1] 4::.box b_4 [i6 x_0] 3::.box b_2 [.slice ahead_p ahead.length ahead_c] 99::.box b_1 [i6 x.Person,i6 x.Station] 86::Lr) w := hc
     replace hF : crew_work_holds_r19 N ahead x_0 x_1 xv = some oq := hF
     unfold crew_work_holds_r19 at hF
     refine rReg (fun _ _ h => h) rfl ?_
     refine sp 1 hf rfl fun a hf => cNil ?_
     refine hK _ _ [.box b_5 [.bool x_1] 4,.box b_4 [i6 x_0] 3,.box b_2 [.slice ahead_p ahead.length ahead_c] 99,.box b_1 [i6 x.Person,i6 x.Station] 86] hc fun w hc => ?_
     replace hc : Ctx G (.box b_5 [.bool x_1] 4::.box b_4 [i6 x_0] 3::.box b_2 [.slice ahead_p ahead.length ahead_c] 99::.box b_1 [i6 x.Person,i6 x.Station] 86::Lb) w := hc
     refine rThenK fun K20 h20 => rBlock ?_
     refine rReg (fun _ _ h => h) rfl ?_
     refine zL hf hc sc_4 m0 rfl fun a w hf hc => sp 1 hf rfl fun a hf => ?_
     obtain ⟨t_2,ht_2,hF⟩ := bnd_some hF
     refine stCc 6 (fun a => Has 85 a [(0,pq b_),(4,pq b_1),(5,pq b_2),(7,i6 many),(8,pq b_4),(9,pq b_5),(23,i6 ((w_.Roster.People.length : Nat) : Int)),(24,i6 x_0),(10,i6 xv),(61,.bool x_1),(62,.bool x_1),(68,.bool t_2)]) hc ?_ ?_
     ·cases hb : x_1
      ·rw [hb] at hf
       try rw [hb] at hc
       have hF := condF hb ht_2
       obtain rfl := sj hF
       refine stS hf rfl rfl rfl fun a hf => stS hf rfl rfl rfl fun a hf => stS hf rfl rfl rfl fun a hf => stS hf rfl rfl rfl fun a hf => stS hf rfl rfl rfl fun a hf => sp 1 hf rfl fun a hf => cNil ⟨hf.kp rfl,hc⟩
      ·rw [hb] at hf
       try rw [hb] at hc
       have hF := condT hb ht_2
       refine zL hf hc sc_99 m2 rfl fun a w hf hc => zL hf hc sc_3 m1 rfl fun a w hf hc => sp 1 hf rfl fun a hf => zP hf rfl (pBuildS (cells := [i6 x_0,i6 xv]) bt_86 rfl rfl) fun a hf => ?_
       obtain ⟨r_3,hr_3,hF⟩ := bnd_some hF
       refine zQ (v := .bool r_3) hf hc en_173 rfl (fun w hc => slices_Contains_Lcrew_Refusal_crew_Refusal_ok ahead (⟨x_0,xv⟩ : crew_Refusal) h_ahead hc hr_3) fun a w hf hc => sp 1 hf rfl fun a hf => ?_
       obtain rfl := sj hF
       exact cNil ⟨hf.kp rfl,hc⟩
     intro a w ⟨hf,hc⟩
     refine zW hf hc sz_4 u0 rfl fun w hc => cNil ?_
     refine h20 _ _ ?_
     exact ⟨t_2,_,(sj hF).symm,rfl,hc⟩
    ·rintro D_1 x_1 _ a w hsF rfl hf hc
     replace hf : Has ⟨85,markL (D_1::Ds)⟩ a [(0,pq b_),(4,pq b_1),(5,pq b_2),(7,i6 many),(8,pq b_4),(9,pq b_5),(23,i6 ((w_.Roster.People.length : Nat) : Int)),(24,i6 x_0)] := hf.kp rfl
     replace hc : Ctx G (.box b_6 [pq b_] 166::.box b_7 [i6 r_2.1] 3::.box b_8 [i6 r_2.2] 3::.box b_5 [.bool x_1] 4::.box b_4 [i6 x_0] 3::.box b_2 [.slice ahead_p ahead.length ahead_c] 99::.box b_1 [i6 x.Person,i6 x.Station] 86::(raws (D_1::Ds) ++ Lf)) w := rawsIn (C := [.box b_6 [pq b_] 166,.box b_7 [i6 r_2.1] 3,.box b_8 [i6 r_2.2] 3]) (L := [.box b_5 [.bool x_1] 4,.box b_4 [i6 x_0] 3,.box b_2 [.slice ahead_p ahead.length ahead_c] 99,.box b_1 [i6 x.Person,i6 x.Station] 86]) hc
     replace hF : (cond x_1 (crew_work_holds_j12 N x_0 (W (many + 1))) (crew_work_holds_j12 N x_0 many)) = some st8 := by rcases hsF with rfl | rfl <;> exact hF
     refine h17 _ _ ?_
     refine zS fun K h => zL hf hc sc_4 m3 rfl fun a w hf hc => zT h ?_
     refine zI hf rfl hF ?_ ?_ <;> clear hF <;> intro hF
     ·refine cReg ?_
      refine sp 3 hf rfl fun a hf => cNil ?_
      replace hc := ((((hc.drop k4).drop k3).drop k2).drop k1).drop k0
      exact hj12 (W (many + 1)) (D_1::Ds) _ _  (hf.kp rfl) hc hF
     ·refine wp_skip ?_
      replace hc := ((((hc.drop k4).drop k3).drop k2).drop k1).drop k0
      exact hj12 many (D_1::Ds) _ _  (hf.kp rfl) hc hF
    ·rintro D_1 x_1 _ a w hsF rfl hf hc
     replace hf : Has ⟨85,markL (D_1::Ds)⟩ a [(0,pq b_),(4,pq b_1),(5,pq b_2),(7,i6 many),(8,pq b_4),(9,pq b_5),(23,i6 ((w_.Roster.People.length : Nat) : Int)),(24,i6 x_0)] := hf.kp rfl
     replace hc : Ctx G (.box b_6 [pq b_] 166::.box b_7 [i6 r_2.1] 3::.box b_8 [i6 r_2.2] 3::.box b_5 [.bool x_1] 4::.box b_4 [i6 x_0] 3::.box b_2 [.slice ahead_p ahead.length ahead_c] 99::.box b_1 [i6 x.Person,i6 x.Station] 86::(raws (D_1::Ds) ++ Lf)) w := rawsIn (C := [.box b_6 [pq b_] 166,.box b_7 [i6 r_2.1] 3,.box b_8 [i6 r_2.2] 3]) (L := [.box b_5 [.bool x_1] 4,.box b_4 [i6 x_0] 3,.box b_2 [.slice ahead_p ahead.length ahead_c] 99,.box b_1 [i6 x.Person,i6 x.Station] 86]) hc
     replace hF : (none) = some st8 := by subst hsF; exact hF
     cases hF
  ·refine wp_exit ?_
   refine xThen ?_
   refine xThen ?_
   have he := sj hF
   rw [← he] at hfin8
   refine cHit ?_
   exact hr8 _ _ _ hfin8 ⟨Ds,hf.kp rfl,hc⟩

def crew_Holds_b12 (N : Nat) (l : List crew_Refusal) : Option (Step (Unit) (Bool × Int)) :=
 cond (decide (0 < ((l.length : Nat) : Int)))
 (Option.bind (getI l 0) fun e_1 =>
 none)
 (some (.brk ()))
def crew_Holds_b28 (N : Nat) (r : crew_Roster) (l : List crew_Refusal) (r_2 : (Nat → Int) × Int) (x : Int) : Option (Step (Int) (Bool × Int)) :=
 cond (decide (x < ((l.length : Nat) : Int)))
 (Option.bind (getI l x) fun e_2 =>
 Option.bind (subO l 0 x) fun sub =>
 Option.bind (crew_work_holds N (⟨r,r_2.1⟩ : crew_work) e_2 sub) fun r_4 =>
 cond (!r_4)
 (some (.ret (false,0)))
 (some (.cont (W (x + 1)))))
 (some (.brk x))
def crew_Holds (N : Nat) (r : crew_Roster) (l : List crew_Refusal) : Option (Bool × Int) :=
 Option.bind (crew_opened N r) (sumK (fun r_0 => cond (r_0 != 0)
 (some (false,r_0))
 (cond (decide (144 < ((l.length : Nat) : Int)))
 (some (false,3))
 (Option.bind (crew_every_crew_Refusal N l r) fun r_1 =>
 cond (!r_1)
 (some (false,2))
 (Option.bind (loopO (fun (_ : Unit) => crew_Holds_b12 N l) N ()) fun x12 =>
 exK x12 (fun (_ : Unit) => some (true,0)) some))))
 (fun r_2 => cond (r_2.2 != 0)
 (some (false,r_2.2))
 (cond (decide (144 < ((l.length : Nat) : Int)))
 (some (false,3))
 (Option.bind (crew_every_crew_Refusal N l r) fun r_3 =>
 cond (!r_3)
 (some (false,2))
 (Option.bind (loopO (fun s28 => crew_Holds_b28 N r l r_2 s28) N 0) fun x28 =>
 exK x28 (fun s28 => some (true,0)) some)))))
theorem crew_Holds_ok {N : Nat} {G : Pers} {Lf : List Ent} {w : World} (r : crew_Roster) (l : List crew_Refusal) {r_People_p : Option Addr} {r_People_c : Nat} {r_Stations_p : Option Addr} {r_Stations_c : Nat} {l_p : Option Addr} {l_c : Nat} (h_r_People : RdT kd_25 G 1 r_People_p r_People_c r.People) (h_r_Stations : RdT kd_101 G 2 r_Stations_p r_Stations_c r.Stations) (h_l : Rd G 2 l_p l_c (l.map enc_crew_Refusal)) (hc : Ctx G (Lf) w) {res : Bool × Int} (hF : crew_Holds N r l = some res) : Calls Tryz.prog 59 #[.agg #[.slice r_People_p r.People.length r_People_c,.slice r_Stations_p r.Stations.length r_Stations_c],.slice l_p l.length l_c] w (fun e w => e = .returned (.tuple #[.bool res.1,i6 res.2]) ∧ Ctx G (Lf) w) := by
 unfold crew_Holds at hF
 refine fnIn Tryz.func59 rfl Tryz.ntmps59 rfl fun a hf => zS fun K h => zB hf hc rfl fun b_1 a w hf hc => sp 2 hf rfl fun a hf => zT h ?_
 refine wp_seq_k fun K2 h2 => cReg ?_
 refine zN hf hc ag_78 m0 rfl fun a w hf hc => ?_
 obtain ⟨r_0,hr_0,hF⟩ := bnd_some hF
 cases r_0 with
 | inl r_0 =>
  replace hF := sumKl hF
  refine zC hf en_105 rfl (crew_opened_ok r h_r_People h_r_Stations hc hr_0) ?_
  rintro _ w ⟨rfl,hc⟩
  refine ⟨_,rfl,fun a hf => ?_⟩
  refine sp 5 hf rfl fun a hf => cNil ?_
  refine h2 _ _ ?_
  refine wp_seq_k fun K3 h3 => wp_block ?_
  refine zS fun K h => sp 3 hf rfl fun a hf => zT h ?_
  refine zI hf rfl hF ?_ ?_ <;> clear hF <;> intro hF
  ·refine zS fun K h => sp 3 hf rfl fun a hf => zT h ?_
   refine wp_ret ?_
   refine xBlkR ?_
   refine xThenR ?_
   obtain rfl := sj hF
   replace hc := hc.drop k0
   exact zO2 Tryz.results59 hf rfl rfl ⟨rfl,hc⟩
  ·refine zS fun K h => sp 1 hf rfl fun a hf => zP hf rfl (pLenS Tryz.underlying99 rfl) fun a hf => sp 2 hf rfl fun a hf => zT h ?_
   refine zI hf rfl hF ?_ ?_ <;> clear hF <;> intro hF
   ·refine zS fun K h => sp 2 hf rfl fun a hf => zT h ?_
    refine wp_ret ?_
    refine xBlkR ?_
    refine xThenR ?_
    obtain rfl := sj hF
    replace hc := hc.drop k0
    exact zO2 Tryz.results59 hf rfl rfl ⟨rfl,hc⟩
   ·refine zS fun K h => sp 1 hf rfl fun a hf => zP hf rfl (pMF (us := [pq b_1]) rfl rfl) fun a hf => ?_
    obtain ⟨r_1,hr_1,hF⟩ := bnd_some hF
    refine zQ (v := .bool r_1) hf hc en_128 rfl (fun w hc => (crew_every_crew_Refusal_ok l r h_l h_r_People h_r_Stations (hc.pick k0) hr_1).mono fun e w h => ⟨h.1,(h.2.unpick k0)⟩) fun a w hf hc => sp 2 hf rfl fun a hf => zT h ?_
    refine zI hf rfl hF ?_ ?_ <;> clear hF <;> intro hF
    ·refine zS fun K h => sp 2 hf rfl fun a hf => zT h ?_
     refine wp_ret ?_
     refine xBlkR ?_
     refine xThenR ?_
     obtain rfl := sj hF
     replace hc := hc.drop k0
     exact zO2 Tryz.results59 hf rfl rfl ⟨rfl,hc⟩
    ·refine wp_skip ?_
     refine h3 _ _ ?_
     refine wp_seq_k fun K10 h10 => zS fun K h => sp 1 hf rfl fun a hf => zP hf rfl (pLenS Tryz.underlying99 rfl) fun a hf => sp 1 hf rfl fun a hf => zT h ?_
     refine wp_block ?_
     obtain ⟨x12,hx12,hF⟩ := bnd_some hF
     let S12 : Unit → Act → World → Prop := (fun (zz : Unit) a w => Has 43 a [(1,.slice l_p l.length l_c),(6,.pointer none),(28,.slice l_p l.length l_c),(29,i6 ((l.length : Nat) : Int)),(30,i6 0)] ∧ Ctx G (Lf) w)
     have hr12 : ∀ (zz : Unit) a w,x12 = .go zz → S12 zz a w → K10 a w := by
      rintro ⟨⟩ a w rfl ⟨hf,hc⟩
      replace hF := exK_go hF
      refine h10 _ _ ?_
      refine zS fun K h => sp 2 hf rfl fun a hf => zT h ?_
      refine wp_ret ?_
      obtain rfl := sj hF
      exact zO2 Tryz.results59 hf rfl rfl ⟨rfl,hc⟩
     have ho12 : ∀ r,x12 = .out r → r = res := by
      rintro r rfl
      exact sj hF
     replace hc := hc.drop k0
     refine cLoop N (loopW (S := S12) (x := x12) ?_ N () _ _ ⟨hf.kp rfl,hc⟩ hx12)
     clear hF hf hc
     rintro ⟨⟩ st12 a w KB12 ⟨hf,hc⟩ hF hfin12 hK12
     unfold crew_Holds_b12 at hF
     refine zS fun K h => sp 1 hf rfl fun a hf => zT h ?_
     refine wp_seq_k fun K15 h15 => zI hf rfl hF ?_ ?_ <;> clear hF <;> intro hF
     ·refine wp_skip ?_
      refine h15 _ _ ?_
      refine wp_seq_k fun K16 h16 => wp_block ?_
      refine zS fun K h => sp 1 hf rfl fun a hf => ?_
      obtain ⟨e_1,he_1,hF⟩ := bnd_some hF
      obtain ⟨b_2,o,qa,qp⟩ := h_l.atm he_1
      refine zP hf rfl (pIA Tryz.underlying99 sz_86 rfl rfl qa) fun a hf => zE hf hc rfl (eLdN (vs := [i6 e_1.Person,i6 e_1.Station]) ag_86 rfl rfl (cells_pc qp (n := 2) (o' := 0) rfl)) fun a w hf hc => zA hf hc zr_86 rfl fun b_3 a w hf hc => sp 1 hf rfl fun a hf => zW hf hc sz_86 u0 rfl fun w hc => zT h ?_
      refine wp_seq_k fun K18 h18 => noneO hF
     ·refine wp_exit ?_
      refine xThen ?_
      refine xThen ?_
      have he := sj hF
      rw [← he] at hfin12
      refine cHit ?_
      exact hr12 _ _ _ hfin12 ⟨hf.kp rfl,hc⟩
 | inr r_2 =>
  replace hF := sumKr hF
  have hr_2 := hr_0
  refine zC hf en_105 rfl (crew_opened_ok r h_r_People h_r_Stations hc hr_2) ?_
  rintro _ w ⟨b_4,rfl,hc⟩
  refine ⟨_,rfl,fun a hf => ?_⟩
  refine sp 5 hf rfl fun a hf => cNil ?_
  obtain ⟨G,hle_fz,pc_fz,hc,-⟩ := lendB hc k0
  replace pc_fz := pc_of pc_fz
  refine h2 _ _ ?_
  refine wp_seq_k fun K19 h19 => wp_block ?_
  refine zS fun K h => sp 3 hf rfl fun a hf => zT h ?_
  refine zI hf rfl hF ?_ ?_ <;> clear hF <;> intro hF
  ·refine zS fun K h => sp 3 hf rfl fun a hf => zT h ?_
   refine wp_ret ?_
   refine xBlkR ?_
   refine xThenR ?_
   obtain rfl := sj hF
   replace hc := hc.down hle_fz
   replace hc := hc.drop k0
   exact zO2 Tryz.results59 hf rfl rfl ⟨rfl,hc⟩
  ·refine zS fun K h => sp 1 hf rfl fun a hf => zP hf rfl (pLenS Tryz.underlying99 rfl) fun a hf => sp 2 hf rfl fun a hf => zT h ?_
   refine zI hf rfl hF ?_ ?_ <;> clear hF <;> intro hF
   ·refine zS fun K h => sp 2 hf rfl fun a hf => zT h ?_
    refine wp_ret ?_
    refine xBlkR ?_
    refine xThenR ?_
    obtain rfl := sj hF
    replace hc := hc.down hle_fz
    replace hc := hc.drop k0
    exact zO2 Tryz.results59 hf rfl rfl ⟨rfl,hc⟩
   ·refine zS fun K h => sp 1 hf rfl fun a hf => zP hf rfl (pMF (us := [pq b_1]) rfl rfl) fun a hf => ?_
    obtain ⟨r_3,hr_3,hF⟩ := bnd_some hF
    refine zQ (v := .bool r_3) hf hc en_128 rfl (fun w hc => (crew_every_crew_Refusal_ok l r (h_l.mono hle_fz) (h_r_People.mono hle_fz) (h_r_Stations.mono hle_fz) (hc.pick k0) hr_3).mono fun e w h => ⟨h.1,(h.2.unpick k0)⟩) fun a w hf hc => sp 2 hf rfl fun a hf => zT h ?_
    refine zI hf rfl hF ?_ ?_ <;> clear hF <;> intro hF
    ·refine zS fun K h => sp 2 hf rfl fun a hf => zT h ?_
     refine wp_ret ?_
     refine xBlkR ?_
     refine xThenR ?_
     obtain rfl := sj hF
     replace hc := hc.down hle_fz
     replace hc := hc.drop k0
     exact zO2 Tryz.results59 hf rfl rfl ⟨rfl,hc⟩
    ·refine wp_skip ?_
     refine h19 _ _ ?_
     refine wp_seq_k fun K26 h26 => zS fun K h => sp 1 hf rfl fun a hf => zP hf rfl (pLenS Tryz.underlying99 rfl) fun a hf => sp 1 hf rfl fun a hf => zT h ?_
     refine wp_block ?_
     obtain ⟨x28,hx28,hF⟩ := bnd_some hF
     let S28 : Int → Act → World → Prop := (fun (zz : Int) a w => Has 43 a [(1,.slice l_p l.length l_c),(6,pq b_4),(28,.slice l_p l.length l_c),(29,i6 ((l.length : Nat) : Int)),(30,i6 zz)] ∧ Ctx G (Lf) w)
     have hr28 : ∀ (zz : Int) a w,x28 = .go zz → S28 zz a w → K26 a w := by
      rintro x a w rfl ⟨hf,hc⟩
      replace hF := exK_go hF
      refine h26 _ _ ?_
      refine zS fun K h => sp 2 hf rfl fun a hf => zT h ?_
      refine wp_ret ?_
      obtain rfl := sj hF
      replace hc := hc.down hle_fz
      exact zO2 Tryz.results59 hf rfl rfl ⟨rfl,hc⟩
     have ho28 : ∀ r,x28 = .out r → r = res := by
      rintro r rfl
      exact sj hF
     replace hc := hc.drop k0
     refine cLoop N (loopW (S := S28) (x := x28) ?_ N 0 _ _ ⟨hf.kp rfl,hc⟩ hx28)
     clear hF hf hc
     rintro x st28 a w KB28 ⟨hf,hc⟩ hF hfin28 hK28
     unfold crew_Holds_b28 at hF
     refine zS fun K h => sp 1 hf rfl fun a hf => zT h ?_
     refine wp_seq_k fun K31 h31 => zI hf rfl hF ?_ ?_ <;> clear hF <;> intro hF
     ·refine wp_skip ?_
      refine h31 _ _ ?_
      refine wp_seq_k fun K32 h32 => wp_block ?_
      refine zS fun K h => sp 1 hf rfl fun a hf => ?_
      obtain ⟨e_2,he_2,hF⟩ := bnd_some hF
      obtain ⟨b_5,o_1,qa_1,qp_1⟩ := (h_l.mono hle_fz).atm he_2
      refine zP hf rfl (pIA Tryz.underlying99 sz_86 rfl rfl qa_1) fun a hf => zE hf hc rfl (eLdN (vs := [i6 e_2.Person,i6 e_2.Station]) ag_86 rfl rfl (cells_pc qp_1 (n := 2) (o' := 0) rfl)) fun a w hf hc => zA hf hc zr_86 rfl fun b_6 a w hf hc => sp 1 hf rfl fun a hf => zW hf hc sz_86 u0 rfl fun w hc => zT h ?_
      refine wp_seq_k fun K34 h34 => ?_
      obtain ⟨sub,hsub,hF⟩ := bnd_some hF
      have qs := Rd.sub (h_l.mono hle_fz) hsub
      obtain ⟨r_4,hr_4,hF⟩ := bnd_some hF
      refine cQ hc follows_mx (by kernel_rfl) ?_
      refine qE hf rfl rfl rfl (Pu.ev (pM rfl)) fun a hf => qE hf rfl rfl rfl (eLdN (vs := [i6 e_2.Person,i6 e_2.Station]) ag_86 rfl rfl (cells_box (n := 2) m0 rfl)) fun a hf => qE hf rfl rfl rfl (Pu.ev (pM rfl)) fun a hf => qE hf rfl rfl rfl (Pu.ev (pM rfl)) fun a hf => qE hf rfl rfl rfl (Pu.ev (pSl Tryz.underlying99 sz_86 rfl rfl (by simpa using (h_l.mono hle_fz).1) rfl rfl hsub)) fun a hf => qE hf rfl rfl rfl (eC (v := .bool r_4) (vs := [pq b_4,.agg #[i6 e_2.Person,i6 e_2.Station],.slice (subP l_p l_c (0 : Int).toNat 2) sub.length (l_c - (0 : Int).toNat)]) (caps := []) en_130 rfl rfl rfl rfl (fun w hc => crew_work_holds_ok (⟨r,r_2.1⟩ : crew_work) e_2 sub (h_r_People.mono hle_fz) (h_r_Stations.mono hle_fz) pc_fz qs hc hr_4)) fun a hf => qE hf rfl rfl rfl (Pu.ev (pNot rfl)) fun a hf => ?_
      intro w hc
      refine h34 _ _ ?_
      refine zI hf rfl hF ?_ ?_ <;> clear hF <;> intro hF
      ·refine zS fun K h => sp 2 hf rfl fun a hf => zT h ?_
       refine wp_ret ?_
       refine xBlkR ?_
       refine xThenR ?_
       refine xThenR ?_
       have he := sj hF
       rw [← he] at hfin28
       replace hF := ho28 _ hfin28
       refine xBlkR ?_
       refine xThenR ?_
       obtain rfl := hF
       replace hc := hc.down hle_fz
       replace hc := hc.drop k0
       exact zO2 Tryz.results59 hf rfl rfl ⟨rfl,hc⟩
      ·refine wp_skip ?_
       refine h32 _ _ ?_
       refine cReg ?_
       refine sp 2 hf rfl fun a hf => cNil ?_
       replace hc := hc.drop k0
       exact hK28 (W (x + 1)) _ _ (sj hF).symm ⟨hf.kp rfl,hc⟩
     ·refine wp_exit ?_
      refine xThen ?_
      refine xThen ?_
      have he := sj hF
      rw [← he] at hfin28
      refine cHit ?_
      exact hr28 _ _ _ hfin28 ⟨hf.kp rfl,hc⟩

def law11_Trip (N : Nat) (last : Int) : Option ((List crew_Visit)) :=
 Option.bind (law11_span N 30 40) fun r =>
 Option.bind (law11_span N 20 25) fun r_1 =>
 Option.bind (law11_span N 10 10) fun r_2 =>
 some ([(⟨r,r_1,35,60⟩ : crew_Visit),(⟨r_2,(⟨0,0⟩ : api_Span),0,last⟩ : crew_Visit)] : List crew_Visit)
theorem law11_Trip_ok {N : Nat} {G : Pers} {Lf : List Ent} {w : World} (last : Int)   (hc : Ctx G (Lf) w) {res : (List crew_Visit)} (hF : law11_Trip N last = some res) : Calls Tryz.prog 68 #[i6 last] w (fun e w => ∃ (p'1 : Option Addr) (c'1 : Nat),e = .returned (.slice p'1 res.length c'1) ∧ Ctx G (.row p'1 c'1 (res.map enc_crew_Visit) 31 6::Lf) w) := by
 unfold law11_Trip at hF
 refine fnIn Tryz.func68 rfl Tryz.ntmps68 rfl fun a hf => zS fun K h => sp 1 hf rfl fun a hf => zT h ?_
 refine zS fun K h => ?_
 obtain ⟨r,hr,hF⟩ := bnd_some hF
 refine zQ (v := .agg #[i6 r.Lo,i6 r.Hi]) hf hc en_51 rfl (fun w hc => law11_span_ok 30 40 hc hr) fun a w hf hc => ?_
 obtain ⟨r_1,hr_1,hF⟩ := bnd_some hF
 refine zQ (v := .agg #[i6 r_1.Lo,i6 r_1.Hi]) hf hc en_51 rfl (fun w hc => law11_span_ok 20 25 hc hr_1) fun a w hf hc => zP hf rfl (pBuildS (cells := [i6 r.Lo,i6 r.Hi,i6 r_1.Lo,i6 r_1.Hi,i6 35,i6 60]) bt_31 rfl rfl) fun a hf => ?_
 obtain ⟨r_2,hr_2,hF⟩ := bnd_some hF
 refine zQ (v := .agg #[i6 r_2.Lo,i6 r_2.Hi]) hf hc en_51 rfl (fun w hc => law11_span_ok 10 10 hc hr_2) fun a w hf hc => sp 1 hf rfl fun a hf => zP hf rfl (pBuildS (cells := [i6 r_2.Lo,i6 r_2.Hi,i6 0,i6 0,i6 0,i6 last]) bt_31 rfl rfl) fun a hf => stBS (rows := ([(⟨r,r_1,35,60⟩ : crew_Visit),(⟨r_2,(⟨0,0⟩ : api_Span),0,last⟩ : crew_Visit)] : List crew_Visit).map enc_crew_Visit) (vs := [(0,.agg #[i6 r.Lo,i6 r.Hi,i6 r_1.Lo,i6 r_1.Hi,i6 35,i6 60]),(1,.agg #[i6 r_2.Lo,i6 r_2.Hi,i6 0,i6 0,i6 0,i6 last])]) hf hc rfl rfl sl_22 rfl ⟨rfl,rfl,rfl,rfl,rfl,rfl,trivial⟩ rfl rfl fun b_1 a w hf hc => sp 1 hf rfl fun a hf => zT h ?_
 refine wp_ret ?_
 obtain rfl := sj hF
 exact zO1 Tryz.results68 hf rfl ⟨(some ⟨b_1,0,none⟩),2,rfl,hc⟩

def kit_Same_int_b7 (N : Nat) (a_ : List Int) (b_ : List Int) (i_1 : Int) : Option (Step (Int) (Bool)) :=
 cond (decide (i_1 < ((a_.length : Nat) : Int)))
 (Option.bind (getI a_ i_1) fun e_1 =>
 Option.bind (getI b_ i_1) fun e_2 =>
 cond (e_1 != e_2)
 (some (.ret false))
 (some (.cont (W (i_1 + 1)))))
 (some (.brk i_1))
def kit_Same_int (N : Nat) (a_ : List Int) (b_ : List Int) : Option (Bool) :=
 cond (((a_.length : Nat) : Int) != ((b_.length : Nat) : Int))
 (some false)
 (Option.bind (loopO (fun s7 => kit_Same_int_b7 N a_ b_ s7) N 0) fun x7 =>
 exK x7 (fun s7 => some true) some)
theorem kit_Same_int_ok {N : Nat} {G : Pers} {Lf : List Ent} {w : World} (a_ : List Int) (b_ : List Int) {a__p : Option Addr} {a__c : Nat} {b__p : Option Addr} {b__c : Nat} (h_a_ : Rd G 1 a__p a__c (a_.map encI_i64)) (h_b_ : Rd G 1 b__p b__c (b_.map encI_i64)) (hc : Ctx G (Lf) w) {res : Bool} (hF : kit_Same_int N a_ b_ = some res) : Calls Tryz.prog 29 #[.slice a__p a_.length a__c,.slice b__p b_.length b__c] w (fun e w => e = .returned (.bool res) ∧ Ctx G (Lf) w) := by
 unfold kit_Same_int at hF
 refine fnIn Tryz.func29 rfl Tryz.ntmps29 rfl fun a hf => zS fun K h => sp 1 hf rfl fun a hf => zT h ?_
 refine wp_seq_k fun K2 h2 => zS fun K h => sp 1 hf rfl fun a hf => zP hf rfl (pLenS Tryz.underlying25 rfl) fun a hf => sp 1 hf rfl fun a hf => zP hf rfl (pLenS Tryz.underlying25 rfl) fun a hf => sp 1 hf rfl fun a hf => zT h ?_
 refine zI hf rfl hF ?_ ?_ <;> clear hF <;> intro hF
 ·refine zS fun K h => sp 1 hf rfl fun a hf => zT h ?_
  refine wp_ret ?_
  refine xThenR ?_
  obtain rfl := sj hF
  exact zO1 Tryz.results29 hf rfl ⟨rfl,hc⟩
 ·refine wp_skip ?_
  refine h2 _ _ ?_
  refine wp_seq_k fun K5 h5 => zS fun K h => sp 1 hf rfl fun a hf => zT h ?_
  refine wp_block ?_
  obtain ⟨x7,hx7,hF⟩ := bnd_some hF
  let S7 : Int → Act → World → Prop := (fun (zz : Int) a w => Has 26 a [(0,.slice a__p a_.length a__c),(1,.slice b__p b_.length b__c),(5,i6 zz)] ∧ Ctx G (Lf) w)
  have hr7 : ∀ (zz : Int) a w,x7 = .go zz → S7 zz a w → K5 a w := by
   rintro i_1 a w rfl ⟨hf,hc⟩
   replace hF := exK_go hF
   refine h5 _ _ ?_
   refine zS fun K h => sp 1 hf rfl fun a hf => zT h ?_
   refine wp_ret ?_
   obtain rfl := sj hF
   exact zO1 Tryz.results29 hf rfl ⟨rfl,hc⟩
  have ho7 : ∀ r,x7 = .out r → r = res := by
   rintro r rfl
   exact sj hF
  refine cLoop N (loopW (S := S7) (x := x7) ?_ N 0 _ _ ⟨hf.kp rfl,hc⟩ hx7)
  clear hF hf hc
  rintro i_1 st7 a w KB7 ⟨hf,hc⟩ hF hfin7 hK7
  unfold kit_Same_int_b7 at hF
  refine wp_seq_k fun K9 h9 => zS fun K h => sp 2 hf rfl fun a hf => zP hf rfl (pLenS Tryz.underlying25 rfl) fun a hf => sp 1 hf rfl fun a hf => zT h ?_
  refine zI hf rfl hF ?_ ?_ <;> clear hF <;> intro hF
  ·refine wp_skip ?_
   refine h9 _ _ ?_
   refine wp_seq_k fun K11 h11 => wp_block ?_
   refine wp_seq_k fun K12 h12 => ?_
   obtain ⟨e_1,he_1,hF⟩ := bnd_some hF
   obtain ⟨b_1,o,qa,qp⟩ := h_a_.atm he_1
   obtain ⟨e_2,he_2,hF⟩ := bnd_some hF
   obtain ⟨b_2,o_1,qa_1,qp_1⟩ := h_b_.atm he_2
   refine cQ hc follows_mx (by kernel_rfl) ?_
   refine qE hf rfl rfl rfl (Pu.ev (pM rfl)) fun a hf => qE hf rfl rfl rfl (Pu.ev (pM rfl)) fun a hf => qE hf rfl rfl rfl (Pu.ev (pIA Tryz.underlying25 sz_3 rfl rfl qa)) fun a hf => qE hf rfl rfl rfl (eLd1 sc_3 rfl (cell_pc (j := 0) qp rfl)) fun a hf => qE hf rfl rfl rfl (Pu.ev (pM rfl)) fun a hf => qE hf rfl rfl rfl (Pu.ev (pM rfl)) fun a hf => qE hf rfl rfl rfl (Pu.ev (pIA Tryz.underlying25 sz_3 rfl rfl qa_1)) fun a hf => qE hf rfl rfl rfl (eLd1 sc_3 rfl (cell_pc (j := 0) qp_1 rfl)) fun a hf => qE hf rfl rfl rfl (Pu.ev (pNe rfl rfl)) fun a hf => ?_
   intro w hc
   refine h12 _ _ ?_
   refine zI hf rfl hF ?_ ?_ <;> clear hF <;> intro hF
   ·refine zS fun K h => sp 1 hf rfl fun a hf => zT h ?_
    refine wp_ret ?_
    refine xBlkR ?_
    refine xThenR ?_
    refine xThenR ?_
    have he := sj hF
    rw [← he] at hfin7
    replace hF := ho7 _ hfin7
    refine xBlkR ?_
    refine xThenR ?_
    obtain rfl := hF
    exact zO1 Tryz.results29 hf rfl ⟨rfl,hc⟩
   ·refine wp_skip ?_
    refine h11 _ _ ?_
    refine cReg ?_
    refine sp 3 hf rfl fun a hf => cNil ?_
    exact hK7 (W (i_1 + 1)) _ _ (sj hF).symm ⟨hf.kp rfl,hc⟩
  ·refine wp_exit ?_
   refine xThen ?_
   refine xThen ?_
   have he := sj hF
   rw [← he] at hfin7
   refine cHit ?_
   exact hr7 _ _ _ hfin7 ⟨hf.kp rfl,hc⟩

def kit_Same_api_Span_b7 (N : Nat) (a_ : List api_Span) (b_ : List api_Span) (i_1 : Int) : Option (Step (Int) (Bool)) :=
 cond (decide (i_1 < ((a_.length : Nat) : Int)))
 (Option.bind (getI a_ i_1) fun e_1 =>
 Option.bind (getI b_ i_1) fun e_2 =>
 cond (!(e_1.Lo == e_2.Lo && e_1.Hi == e_2.Hi))
 (some (.ret false))
 (some (.cont (W (i_1 + 1)))))
 (some (.brk i_1))
def kit_Same_api_Span (N : Nat) (a_ : List api_Span) (b_ : List api_Span) : Option (Bool) :=
 cond (((a_.length : Nat) : Int) != ((b_.length : Nat) : Int))
 (some false)
 (Option.bind (loopO (fun s7 => kit_Same_api_Span_b7 N a_ b_ s7) N 0) fun x7 =>
 exK x7 (fun s7 => some true) some)
theorem kit_Same_api_Span_ok {N : Nat} {G : Pers} {Lf : List Ent} {w : World} (a_ : List api_Span) (b_ : List api_Span) {a__p : Option Addr} {a__c : Nat} {b__p : Option Addr} {b__c : Nat} (h_a_ : Rd G 2 a__p a__c (a_.map enc_api_Span)) (h_b_ : Rd G 2 b__p b__c (b_.map enc_api_Span)) (hc : Ctx G (Lf) w) {res : Bool} (hF : kit_Same_api_Span N a_ b_ = some res) : Calls Tryz.prog 21 #[.slice a__p a_.length a__c,.slice b__p b_.length b__c] w (fun e w => e = .returned (.bool res) ∧ Ctx G (Lf) w) := by
 unfold kit_Same_api_Span at hF
 refine fnIn Tryz.func21 rfl Tryz.ntmps21 rfl fun a hf => zS fun K h => sp 1 hf rfl fun a hf => zT h ?_
 refine wp_seq_k fun K2 h2 => zS fun K h => sp 1 hf rfl fun a hf => zP hf rfl (pLenS Tryz.underlying33 rfl) fun a hf => sp 1 hf rfl fun a hf => zP hf rfl (pLenS Tryz.underlying33 rfl) fun a hf => sp 1 hf rfl fun a hf => zT h ?_
 refine zI hf rfl hF ?_ ?_ <;> clear hF <;> intro hF
 ·refine zS fun K h => sp 1 hf rfl fun a hf => zT h ?_
  refine wp_ret ?_
  refine xThenR ?_
  obtain rfl := sj hF
  exact zO1 Tryz.results21 hf rfl ⟨rfl,hc⟩
 ·refine wp_skip ?_
  refine h2 _ _ ?_
  refine wp_seq_k fun K5 h5 => zS fun K h => sp 1 hf rfl fun a hf => zT h ?_
  refine wp_block ?_
  obtain ⟨x7,hx7,hF⟩ := bnd_some hF
  let S7 : Int → Act → World → Prop := (fun (zz : Int) a w => Has 26 a [(0,.slice a__p a_.length a__c),(1,.slice b__p b_.length b__c),(5,i6 zz)] ∧ Ctx G (Lf) w)
  have hr7 : ∀ (zz : Int) a w,x7 = .go zz → S7 zz a w → K5 a w := by
   rintro i_1 a w rfl ⟨hf,hc⟩
   replace hF := exK_go hF
   refine h5 _ _ ?_
   refine zS fun K h => sp 1 hf rfl fun a hf => zT h ?_
   refine wp_ret ?_
   obtain rfl := sj hF
   exact zO1 Tryz.results21 hf rfl ⟨rfl,hc⟩
  have ho7 : ∀ r,x7 = .out r → r = res := by
   rintro r rfl
   exact sj hF
  refine cLoop N (loopW (S := S7) (x := x7) ?_ N 0 _ _ ⟨hf.kp rfl,hc⟩ hx7)
  clear hF hf hc
  rintro i_1 st7 a w KB7 ⟨hf,hc⟩ hF hfin7 hK7
  unfold kit_Same_api_Span_b7 at hF
  refine wp_seq_k fun K9 h9 => zS fun K h => sp 2 hf rfl fun a hf => zP hf rfl (pLenS Tryz.underlying33 rfl) fun a hf => sp 1 hf rfl fun a hf => zT h ?_
  refine zI hf rfl hF ?_ ?_ <;> clear hF <;> intro hF
  ·refine wp_skip ?_
   refine h9 _ _ ?_
   refine wp_seq_k fun K11 h11 => wp_block ?_
   refine wp_seq_k fun K12 h12 => ?_
   obtain ⟨e_1,he_1,hF⟩ := bnd_some hF
   obtain ⟨b_1,o,qa,qp⟩ := h_a_.atm he_1
   obtain ⟨e_2,he_2,hF⟩ := bnd_some hF
   obtain ⟨b_2,o_1,qa_1,qp_1⟩ := h_b_.atm he_2
   refine cQ hc follows_mx (by kernel_rfl) ?_
   refine qE hf rfl rfl rfl (Pu.ev (pM rfl)) fun a hf => qE hf rfl rfl rfl (Pu.ev (pM rfl)) fun a hf => qE hf rfl rfl rfl (Pu.ev (pIA Tryz.underlying33 sz_29 rfl rfl qa)) fun a hf => qE hf rfl rfl rfl (eLdN (vs := [i6 e_1.Lo,i6 e_1.Hi]) ag_29 rfl rfl (cells_pc qp (n := 2) (o' := 0) rfl)) fun a hf => qE hf rfl rfl rfl (Pu.ev (pM rfl)) fun a hf => qE hf rfl rfl rfl (Pu.ev (pM rfl)) fun a hf => qE hf rfl rfl rfl (Pu.ev (pIA Tryz.underlying33 sz_29 rfl rfl qa_1)) fun a hf => qE hf rfl rfl rfl (eLdN (vs := [i6 e_2.Lo,i6 e_2.Hi]) ag_29 rfl rfl (cells_pc qp_1 (n := 2) (o' := 0) rfl)) fun a hf => qE hf rfl rfl rfl (Pu.ev (pNeA ge_29 rfl rfl (eqs_29 _ _ _ _))) fun a hf => ?_
   intro w hc
   refine h12 _ _ ?_
   refine zI hf rfl hF ?_ ?_ <;> clear hF <;> intro hF
   ·refine zS fun K h => sp 1 hf rfl fun a hf => zT h ?_
    refine wp_ret ?_
    refine xBlkR ?_
    refine xThenR ?_
    refine xThenR ?_
    have he := sj hF
    rw [← he] at hfin7
    replace hF := ho7 _ hfin7
    refine xBlkR ?_
    refine xThenR ?_
    obtain rfl := hF
    exact zO1 Tryz.results21 hf rfl ⟨rfl,hc⟩
   ·refine wp_skip ?_
    refine h11 _ _ ?_
    refine cReg ?_
    refine sp 3 hf rfl fun a hf => cNil ?_
    exact hK7 (W (i_1 + 1)) _ _ (sj hF).symm ⟨hf.kp rfl,hc⟩
  ·refine wp_exit ?_
   refine xThen ?_
   refine xThen ?_
   have he := sj hF
   rw [← he] at hfin7
   refine cHit ?_
   exact hr7 _ _ _ hfin7 ⟨hf.kp rfl,hc⟩

def law11_Wire (N : Nat)  : Option (crew_Cable) :=
 Option.bind (law11_span N 80 90) fun r =>
 Option.bind (law11_span N 160 180) fun r_1 =>
 some (⟨50,100,250,3000,([(⟨0,10,r⟩ : crew_Ride),(⟨5,5,r_1⟩ : crew_Ride)] : List crew_Ride)⟩ : crew_Cable)
theorem law11_Wire_ok {N : Nat} {G : Pers} {Lf : List Ent} {w : World}    (hc : Ctx G (Lf) w) {res : crew_Cable} (hF : law11_Wire N = some res) : Calls Tryz.prog 69 #[] w (fun e w => ∃ (p'1 : Option Addr) (c'1 : Nat),e = .returned (.agg #[i6 res.Car,i6 res.Wide,i6 res.Sag,i6 res.Most,.slice p'1 res.Rides.length c'1]) ∧ Ctx G (.row p'1 c'1 (res.Rides.map enc_crew_Ride) 72 4::Lf) w) := by
 unfold law11_Wire at hF
 refine fnIn Tryz.func69 rfl Tryz.ntmps69 rfl fun a hf => zS fun K h => zA hf hc zr_54 rfl fun b_1 a w hf hc => zT h ?_
 refine zS fun K h => ?_
 obtain ⟨r,hr,hF⟩ := bnd_some hF
 refine zQ (v := .agg #[i6 r.Lo,i6 r.Hi]) hf hc en_51 rfl (fun w hc => law11_span_ok 80 90 hc hr) fun a w hf hc => zP hf rfl (pBuildS (cells := [i6 0,i6 10,i6 r.Lo,i6 r.Hi]) bt_72 rfl rfl) fun a hf => ?_
 obtain ⟨r_1,hr_1,hF⟩ := bnd_some hF
 refine zQ (v := .agg #[i6 r_1.Lo,i6 r_1.Hi]) hf hc en_51 rfl (fun w hc => law11_span_ok 160 180 hc hr_1) fun a w hf hc => zP hf rfl (pBuildS (cells := [i6 5,i6 5,i6 r_1.Lo,i6 r_1.Hi]) bt_72 rfl rfl) fun a hf => stBS (rows := ([(⟨0,10,r⟩ : crew_Ride),(⟨5,5,r_1⟩ : crew_Ride)] : List crew_Ride).map enc_crew_Ride) (vs := [(0,.agg #[i6 0,i6 10,i6 r.Lo,i6 r.Hi]),(1,.agg #[i6 5,i6 5,i6 r_1.Lo,i6 r_1.Hi])]) hf hc rfl rfl sl_52 rfl ⟨rfl,rfl,rfl,rfl,rfl,rfl,trivial⟩ rfl rfl fun b_2 a w hf hc => zP hf rfl (pBuildS (cells := [i6 50,i6 100,i6 250,i6 3000,.slice (some ⟨b_2,0,none⟩) 2 2]) bt_54 rfl rfl) fun a hf => zW hf hc sz_54 u1 rfl fun w hc => zT h ?_
 refine wp_ret ?_
 obtain rfl := sj hF
 exact fnOut1 (by simp) rfl Tryz.results69 hf hc (rv_cellN (vs := [i6 50,i6 100,i6 250,i6 3000,.slice (some ⟨b_2,0,none⟩) 2 2]) ag_54 rfl rfl (cells_box (n := 5) m1 rfl)) ⟨(some ⟨b_2,0,none⟩),2,rfl,(hc.drop k1)⟩

def crew_CheckCable_1 (r : crew_Ride) : Bool :=
 ((((crew_minute r.From) && (crew_in r.Long 1 100000)) && (crew_in r.Weight.Lo 0 r.Weight.Hi)) && (decide (r.Weight.Hi ≤ 1000)))
theorem crew_CheckCable_1_ok {G : Pers} {Lf : List Ent} {w : World} (r : crew_Ride)   (hc : Ctx G (Lf) w) {res : Bool} (hF : crew_CheckCable_1 r = res) : Calls Tryz.prog 91 #[.agg #[i6 r.From,i6 r.Long,i6 r.Weight.Lo,i6 r.Weight.Hi]] w (fun e w => e = .returned (.bool res) ∧ Ctx G (Lf) w) := by
 unfold crew_CheckCable_1 at hF
 refine fnIn Tryz.func91 rfl Tryz.ntmps91 rfl fun a hf => zS fun K h => zB hf hc rfl fun b_1 a w hf hc => sp 1 hf rfl fun a hf => zT h ?_
 refine zS fun K h => zP hf rfl (pFA fa_72_0 rfl) fun a hf => zL hf hc sc_3 m0 rfl fun a w hf hc => zQ (v := .bool (crew_minute r.From)) hf hc en_80 rfl (fun w hc => crew_minute_ok r.From hc rfl) fun a w hf hc => sp 1 hf rfl fun a hf => stCc 4 (fun a => Has 26 a [(1,pq b_1),(2,.bool false),(3,pq b_1),(4,i6 r.From),(5,.bool (crew_minute r.From)),(6,.bool (crew_minute r.From)),(10,.bool ((crew_minute r.From) && (crew_in r.Long 1 100000)))]) hc ?_ ?_
 ·cases hb : (crew_minute r.From)
  ·rw [hb] at hf
   refine stS hf rfl rfl rfl fun a hf => stS hf rfl rfl rfl fun a hf => stS hf rfl rfl rfl fun a hf => sp 1 hf rfl fun a hf => cNil ⟨hf.kp rfl,hc⟩
  ·rw [hb] at hf
   refine zP hf rfl (pFA fa_72_1 rfl) fun a hf => zL hf hc sc_3 m0 rfl fun a w hf hc => zQ (v := .bool (crew_in r.Long 1 100000)) hf hc en_86 rfl (fun w hc => crew_in_ok r.Long 1 100000 hc rfl) fun a w hf hc => sp 1 hf rfl fun a hf => cNil ⟨hf.kp rfl,hc⟩
 intro a w ⟨hf,hc⟩
 refine sp 1 hf rfl fun a hf => stCc 8 (fun a => Has 26 a [(1,pq b_1),(2,.bool false),(3,pq b_1),(4,i6 r.From),(5,.bool (crew_minute r.From)),(6,.bool (crew_minute r.From)),(10,.bool ((crew_minute r.From) && (crew_in r.Long 1 100000))),(11,.bool ((crew_minute r.From) && (crew_in r.Long 1 100000))),(19,.bool (((crew_minute r.From) && (crew_in r.Long 1 100000)) && (crew_in r.Weight.Lo 0 r.Weight.Hi)))]) hc ?_ ?_
 ·cases hb : ((crew_minute r.From) && (crew_in r.Long 1 100000))
  ·rw [hb] at hf
   refine stS hf rfl rfl rfl fun a hf => stS hf rfl rfl rfl fun a hf => stS hf rfl rfl rfl fun a hf => stS hf rfl rfl rfl fun a hf => stS hf rfl rfl rfl fun a hf => stS hf rfl rfl rfl fun a hf => stS hf rfl rfl rfl fun a hf => sp 1 hf rfl fun a hf => cNil ⟨hf.kp rfl,hc⟩
  ·rw [hb] at hf
   refine zP hf rfl (pFA fa_72_2 rfl) fun a hf => zP hf rfl (pFA fa_29_0 rfl) fun a hf => zL hf hc sc_3 m0 rfl fun a w hf hc => zP hf rfl (pFA fa_72_2 rfl) fun a hf => zP hf rfl (pFA fa_29_1 rfl) fun a hf => zL hf hc sc_3 m0 rfl fun a w hf hc => zQ (v := .bool (crew_in r.Weight.Lo 0 r.Weight.Hi)) hf hc en_86 rfl (fun w hc => crew_in_ok r.Weight.Lo 0 r.Weight.Hi hc rfl) fun a w hf hc => sp 1 hf rfl fun a hf => cNil ⟨hf.kp rfl,hc⟩
 intro a w ⟨hf,hc⟩
 refine sp 1 hf rfl fun a hf => stCc 5 (fun a => Has 26 a [(1,pq b_1),(2,.bool false),(3,pq b_1),(4,i6 r.From),(5,.bool (crew_minute r.From)),(6,.bool (crew_minute r.From)),(10,.bool ((crew_minute r.From) && (crew_in r.Long 1 100000))),(11,.bool ((crew_minute r.From) && (crew_in r.Long 1 100000))),(19,.bool (((crew_minute r.From) && (crew_in r.Long 1 100000)) && (crew_in r.Weight.Lo 0 r.Weight.Hi))),(20,.bool (((crew_minute r.From) && (crew_in r.Long 1 100000)) && (crew_in r.Weight.Lo 0 r.Weight.Hi))),(25,.bool ((((crew_minute r.From) && (crew_in r.Long 1 100000)) && (crew_in r.Weight.Lo 0 r.Weight.Hi)) && (decide (r.Weight.Hi ≤ 1000))))]) hc ?_ ?_
 ·cases hb : (((crew_minute r.From) && (crew_in r.Long 1 100000)) && (crew_in r.Weight.Lo 0 r.Weight.Hi))
  ·rw [hb] at hf
   refine stS hf rfl rfl rfl fun a hf => stS hf rfl rfl rfl fun a hf => stS hf rfl rfl rfl fun a hf => stS hf rfl rfl rfl fun a hf => sp 1 hf rfl fun a hf => cNil ⟨hf.kp rfl,hc⟩
  ·rw [hb] at hf
   refine zP hf rfl (pFA fa_72_2 rfl) fun a hf => zP hf rfl (pFA fa_29_1 rfl) fun a hf => zL hf hc sc_3 m0 rfl fun a w hf hc => sp 2 hf rfl fun a hf => cNil ⟨hf.kp rfl,hc⟩
 intro a w ⟨hf,hc⟩
 refine sp 1 hf rfl fun a hf => zT h ?_
 refine wp_ret ?_
 obtain rfl := hF
 replace hc := hc.drop k0
 exact zO1 Tryz.results91 hf rfl ⟨rfl,hc⟩

def crew_every_crew_Ride_1 (x : crew_Ride) : Bool :=
 (!(crew_CheckCable_1 (⟨x.From,x.Long,x.Weight⟩ : crew_Ride)))
theorem crew_every_crew_Ride_1_ok {G : Pers} {Lf : List Ent} {w : World} (x : crew_Ride) {b_ : Nat}  (hc : Ctx G (.box b_ [.func (.func 91) #[] #[]] 155::Lf) w) {res : Bool} (hF : crew_every_crew_Ride_1 x = res) : Calls Tryz.prog 159 #[.agg #[i6 x.From,i6 x.Long,i6 x.Weight.Lo,i6 x.Weight.Hi],pq b_] w (fun e w => e = .returned (.bool res) ∧ Ctx G (.box b_ [.func (.func 91) #[] #[]] 155::Lf) w) := by
 unfold crew_every_crew_Ride_1 at hF
 refine fnIn Tryz.func159 rfl Tryz.ntmps159 rfl fun a hf => zS fun K h => zB hf hc rfl fun b_1 a w hf hc => sp 1 hf rfl fun a hf => zT h ?_
 refine zS fun K h => zL hf hc sc_155 m1 rfl fun a w hf hc => zN hf hc ag_72 m0 rfl fun a w hf hc => zQ (v := .bool (crew_CheckCable_1 (⟨x.From,x.Long,x.Weight⟩ : crew_Ride))) hf hc en_91 rfl (fun w hc => crew_CheckCable_1_ok (⟨x.From,x.Long,x.Weight⟩ : crew_Ride) hc rfl) fun a w hf hc => sp 2 hf rfl fun a hf => zT h ?_
 refine wp_ret ?_
 obtain rfl := hF
 replace hc := hc.drop k0
 exact zO1 Tryz.results159 hf rfl ⟨rfl,hc⟩

def slices_IndexFunc_Lcrew_Ride_crew_Ride_b4 (N : Nat) (s_ : List crew_Ride) (x : Int) : Option (Step (Int) (Int)) :=
 cond (decide (x < ((s_.length : Nat) : Int)))
 (Option.bind (getI s_ x) fun e_1 =>
 cond (crew_every_crew_Ride_1 e_1)
 (some (.ret x))
 (some (.cont (W (x + 1)))))
 (some (.brk x))
def slices_IndexFunc_Lcrew_Ride_crew_Ride (N : Nat) (s_ : List crew_Ride) : Option (Int) :=
 Option.bind (loopO (fun s4 => slices_IndexFunc_Lcrew_Ride_crew_Ride_b4 N s_ s4) N 0) fun x4 =>
 exK x4 (fun s4 => some (-1)) some
theorem slices_IndexFunc_Lcrew_Ride_crew_Ride_ok {N : Nat} {G : Pers} {Lf : List Ent} {w : World} (s_ : List crew_Ride) {s__p : Option Addr} {s__c : Nat} {b_ : Nat} (h_s_ : Rd G 4 s__p s__c (s_.map enc_crew_Ride)) (hc : Ctx G (.box b_ [.func (.func 91) #[] #[]] 155::Lf) w) {res : Int} (hF : slices_IndexFunc_Lcrew_Ride_crew_Ride N s_ = some res) : Calls Tryz.prog 185 #[.slice s__p s_.length s__c,.func (.func 159) #[] #[pq b_]] w (fun e w => e = .returned (i6 res) ∧ Ctx G (.box b_ [.func (.func 91) #[] #[]] 155::Lf) w) := by
 unfold slices_IndexFunc_Lcrew_Ride_crew_Ride at hF
 refine fnIn Tryz.func185 rfl Tryz.ntmps185 rfl fun a hf => zS fun K h => sp 1 hf rfl fun a hf => zT h ?_
 refine wp_seq_k fun K2 h2 => zS fun K h => sp 1 hf rfl fun a hf => zP hf rfl (pLenS Tryz.underlying52 rfl) fun a hf => sp 1 hf rfl fun a hf => zT h ?_
 refine wp_block ?_
 obtain ⟨x4,hx4,hF⟩ := bnd_some hF
 let S4 : Int → Act → World → Prop := (fun (zz : Int) a w => Has 19 a [(0,.slice s__p s_.length s__c),(1,.func (.func 159) #[] #[pq b_]),(7,i6 ((s_.length : Nat) : Int)),(8,i6 zz)] ∧ Ctx G (.box b_ [.func (.func 91) #[] #[]] 155::Lf) w)
 have hr4 : ∀ (zz : Int) a w,x4 = .go zz → S4 zz a w → K2 a w := by
  rintro x a w rfl ⟨hf,hc⟩
  replace hF := exK_go hF
  refine h2 _ _ ?_
  refine zS fun K h => sp 1 hf rfl fun a hf => zT h ?_
  refine wp_ret ?_
  obtain rfl := sj hF
  exact zO1 Tryz.results185 hf rfl ⟨rfl,hc⟩
 have ho4 : ∀ r,x4 = .out r → r = res := by
  rintro r rfl
  exact sj hF
 refine cLoop N (loopW (S := S4) (x := x4) ?_ N 0 _ _ ⟨hf.kp rfl,hc⟩ hx4)
 clear hF hf hc
 rintro x st4 a w KB4 ⟨hf,hc⟩ hF hfin4 hK4
 unfold slices_IndexFunc_Lcrew_Ride_crew_Ride_b4 at hF
 refine zS fun K h => sp 1 hf rfl fun a hf => zT h ?_
 refine wp_seq_k fun K7 h7 => zI hf rfl hF ?_ ?_ <;> clear hF <;> intro hF
 ·refine wp_skip ?_
  refine h7 _ _ ?_
  refine wp_seq_k fun K8 h8 => wp_block ?_
  refine zS fun K h => sp 2 hf rfl fun a hf => zT h ?_
  refine zS fun K h => sp 3 hf rfl fun a hf => ?_
  obtain ⟨e_1,he_1,hF⟩ := bnd_some hF
  obtain ⟨b_1,o,qa,qp⟩ := h_s_.atm he_1
  refine zP hf rfl (pIA Tryz.underlying52 sz_72 rfl rfl qa) fun a hf => zE hf hc rfl (eLdN (vs := [i6 e_1.From,i6 e_1.Long,i6 e_1.Weight.Lo,i6 e_1.Weight.Hi]) ag_72 rfl rfl (cells_pc qp (n := 4) (o' := 0) rfl)) fun a w hf hc => zQ (v := .bool (crew_every_crew_Ride_1 e_1)) hf hc en_159 rfl (fun w hc => (crew_every_crew_Ride_1_ok e_1 (hc.pick k0) rfl).mono fun e w h => ⟨h.1,(h.2.unpick k0)⟩) fun a w hf hc => zT h ?_
  refine zI hf rfl hF ?_ ?_ <;> clear hF <;> intro hF
  ·refine zS fun K h => sp 2 hf rfl fun a hf => zT h ?_
   refine wp_ret ?_
   refine xBlkR ?_
   refine xThenR ?_
   refine xThenR ?_
   have he := sj hF
   rw [← he] at hfin4
   replace hF := ho4 _ hfin4
   refine xBlkR ?_
   refine xThenR ?_
   obtain rfl := hF
   exact zO1 Tryz.results185 hf rfl ⟨rfl,hc⟩
  ·refine wp_skip ?_
   refine h8 _ _ ?_
   refine cReg ?_
   refine sp 2 hf rfl fun a hf => cNil ?_
   exact hK4 (W (x + 1)) _ _ (sj hF).symm ⟨hf.kp rfl,hc⟩
 ·refine wp_exit ?_
  refine xThen ?_
  refine xThen ?_
  have he := sj hF
  rw [← he] at hfin4
  refine cHit ?_
  exact hr4 _ _ _ hfin4 ⟨hf.kp rfl,hc⟩

def slices_ContainsFunc_Lcrew_Ride_crew_Ride (N : Nat) (s_ : List crew_Ride) : Option (Bool) :=
 Option.bind (slices_IndexFunc_Lcrew_Ride_crew_Ride N s_) fun r =>
 some (decide (0 ≤ r))
theorem slices_ContainsFunc_Lcrew_Ride_crew_Ride_ok {N : Nat} {G : Pers} {Lf : List Ent} {w : World} (s_ : List crew_Ride) {s__p : Option Addr} {s__c : Nat} {b_ : Nat} (h_s_ : Rd G 4 s__p s__c (s_.map enc_crew_Ride)) (hc : Ctx G (.box b_ [.func (.func 91) #[] #[]] 155::Lf) w) {res : Bool} (hF : slices_ContainsFunc_Lcrew_Ride_crew_Ride N s_ = some res) : Calls Tryz.prog 158 #[.slice s__p s_.length s__c,.func (.func 159) #[] #[pq b_]] w (fun e w => e = .returned (.bool res) ∧ Ctx G (.box b_ [.func (.func 91) #[] #[]] 155::Lf) w) := by
 unfold slices_ContainsFunc_Lcrew_Ride_crew_Ride at hF
 refine fnIn Tryz.func158 rfl Tryz.ntmps158 rfl fun a hf => zS fun K h => sp 1 hf rfl fun a hf => zT h ?_
 refine zS fun K h => sp 2 hf rfl fun a hf => ?_
 obtain ⟨r,hr,hF⟩ := bnd_some hF
 refine zQ (v := i6 r) hf hc en_185 rfl (fun w hc => (slices_IndexFunc_Lcrew_Ride_crew_Ride_ok s_ h_s_ (hc.pick k0) hr).mono fun e w h => ⟨h.1,(h.2.unpick k0)⟩) fun a w hf hc => sp 2 hf rfl fun a hf => zT h ?_
 refine wp_ret ?_
 obtain rfl := sj hF
 exact zO1 Tryz.results158 hf rfl ⟨rfl,hc⟩

def crew_every_crew_Ride (N : Nat) (l : List crew_Ride) : Option (Bool) :=
 Option.bind (slices_ContainsFunc_Lcrew_Ride_crew_Ride N l) fun r =>
 some (!r)
theorem crew_every_crew_Ride_ok {N : Nat} {G : Pers} {Lf : List Ent} {w : World} (l : List crew_Ride) {l_p : Option Addr} {l_c : Nat} (h_l : Rd G 4 l_p l_c (l.map enc_crew_Ride)) (hc : Ctx G (Lf) w) {res : Bool} (hF : crew_every_crew_Ride N l = some res) : Calls Tryz.prog 90 #[.slice l_p l.length l_c,.func (.func 91) #[] #[]] w (fun e w => e = .returned (.bool res) ∧ Ctx G (Lf) w) := by
 unfold crew_every_crew_Ride at hF
 refine fnIn Tryz.func90 rfl Tryz.ntmps90 rfl fun a hf => zS fun K h => zB hf hc rfl fun b_1 a w hf hc => sp 1 hf rfl fun a hf => zT h ?_
 refine zS fun K h => sp 1 hf rfl fun a hf => zP hf rfl (pMF (us := [pq b_1]) rfl rfl) fun a hf => ?_
 obtain ⟨r,hr,hF⟩ := bnd_some hF
 refine zQ (v := .bool r) hf hc en_158 rfl (fun w hc => (slices_ContainsFunc_Lcrew_Ride_crew_Ride_ok l h_l (hc.pick k0) hr).mono fun e w h => ⟨h.1,(h.2.unpick k0)⟩) fun a w hf hc => sp 2 hf rfl fun a hf => zT h ?_
 refine wp_ret ?_
 obtain rfl := sj hF
 replace hc := hc.drop k0
 exact zO1 Tryz.results90 hf rfl ⟨rfl,hc⟩

def crew_CheckCable (N : Nat) (c_ : crew_Cable) : Option (Int) :=
 cond (decide (30 < ((c_.Rides.length : Nat) : Int)))
 (some 3)
 (Option.bind (cond ((((!(crew_in c_.Car 0 1000)) || (!(crew_in c_.Wide 1 1000))) || (!(crew_in c_.Sag 1 10000))) || (!(crew_in c_.Most 0 10000000))) (some true) (Option.bind (crew_every_crew_Ride N c_.Rides) fun r =>
 some (!r))) fun t_1 =>
 cond t_1
 (some 120)
 (some 0))
theorem crew_CheckCable_ok {N : Nat} {G : Pers} {Lf : List Ent} {w : World} (c_ : crew_Cable) {c__Rides_p : Option Addr} {c__Rides_c : Nat} (h_c__Rides : Rd G 4 c__Rides_p c__Rides_c (c_.Rides.map enc_crew_Ride)) (hc : Ctx G (Lf) w) {res : Int} (hF : crew_CheckCable N c_ = some res) : Calls Tryz.prog 31 #[.agg #[i6 c_.Car,i6 c_.Wide,i6 c_.Sag,i6 c_.Most,.slice c__Rides_p c_.Rides.length c__Rides_c]] w (fun e w => e = .returned (i6 res) ∧ Ctx G (Lf) w) := by
 unfold crew_CheckCable at hF
 refine fnIn Tryz.func31 rfl Tryz.ntmps31 rfl fun a hf => zS fun K h => zB hf hc rfl fun b_1 a w hf hc => sp 1 hf rfl fun a hf => zT h ?_
 refine wp_seq_k fun K2 h2 => wp_block ?_
 refine zS fun K h => zP hf rfl (pFA fa_54_4 rfl) fun a hf => zL hf hc sc_52 m0 rfl fun a w hf hc => zP hf rfl (pLenS Tryz.underlying52 rfl) fun a hf => sp 2 hf rfl fun a hf => zT h ?_
 refine zI hf rfl hF ?_ ?_ <;> clear hF <;> intro hF
 ·refine zS fun K h => sp 1 hf rfl fun a hf => zT h ?_
  refine wp_ret ?_
  refine xBlkR ?_
  refine xThenR ?_
  obtain rfl := sj hF
  replace hc := hc.drop k0
  exact zO1 Tryz.results31 hf rfl ⟨rfl,hc⟩
 ·refine zS fun K h => zP hf rfl (pFA fa_54_0 rfl) fun a hf => zL hf hc sc_3 m0 rfl fun a w hf hc => zQ (v := .bool (crew_in c_.Car 0 1000)) hf hc en_86 rfl (fun w hc => crew_in_ok c_.Car 0 1000 hc rfl) fun a w hf hc => sp 2 hf rfl fun a hf => stCc 5 (fun a => Has 37 a [(1,pq b_1),(9,pq b_1),(10,i6 c_.Car),(11,.bool (crew_in c_.Car 0 1000)),(12,.bool (!(crew_in c_.Car 0 1000))),(13,.bool (!(crew_in c_.Car 0 1000))),(18,.bool ((!(crew_in c_.Car 0 1000)) || (!(crew_in c_.Wide 1 1000))))]) hc ?_ ?_
  ·cases hb : (!(crew_in c_.Car 0 1000))
   ·rw [hb] at hf
    refine zP hf rfl (pFA fa_54_1 rfl) fun a hf => zL hf hc sc_3 m0 rfl fun a w hf hc => zQ (v := .bool (crew_in c_.Wide 1 1000)) hf hc en_86 rfl (fun w hc => crew_in_ok c_.Wide 1 1000 hc rfl) fun a w hf hc => sp 2 hf rfl fun a hf => cNil ⟨hf.kp rfl,hc⟩
   ·rw [hb] at hf
    refine stS hf rfl rfl rfl fun a hf => stS hf rfl rfl rfl fun a hf => stS hf rfl rfl rfl fun a hf => stS hf rfl rfl rfl fun a hf => sp 1 hf rfl fun a hf => cNil ⟨hf.kp rfl,hc⟩
  intro a w ⟨hf,hc⟩
  refine sp 1 hf rfl fun a hf => stCc 5 (fun a => Has 37 a [(1,pq b_1),(9,pq b_1),(10,i6 c_.Car),(11,.bool (crew_in c_.Car 0 1000)),(12,.bool (!(crew_in c_.Car 0 1000))),(13,.bool (!(crew_in c_.Car 0 1000))),(18,.bool ((!(crew_in c_.Car 0 1000)) || (!(crew_in c_.Wide 1 1000)))),(19,.bool ((!(crew_in c_.Car 0 1000)) || (!(crew_in c_.Wide 1 1000)))),(24,.bool (((!(crew_in c_.Car 0 1000)) || (!(crew_in c_.Wide 1 1000))) || (!(crew_in c_.Sag 1 10000))))]) hc ?_ ?_
  ·cases hb : ((!(crew_in c_.Car 0 1000)) || (!(crew_in c_.Wide 1 1000)))
   ·rw [hb] at hf
    refine zP hf rfl (pFA fa_54_2 rfl) fun a hf => zL hf hc sc_3 m0 rfl fun a w hf hc => zQ (v := .bool (crew_in c_.Sag 1 10000)) hf hc en_86 rfl (fun w hc => crew_in_ok c_.Sag 1 10000 hc rfl) fun a w hf hc => sp 2 hf rfl fun a hf => cNil ⟨hf.kp rfl,hc⟩
   ·rw [hb] at hf
    refine stS hf rfl rfl rfl fun a hf => stS hf rfl rfl rfl fun a hf => stS hf rfl rfl rfl fun a hf => stS hf rfl rfl rfl fun a hf => sp 1 hf rfl fun a hf => cNil ⟨hf.kp rfl,hc⟩
  intro a w ⟨hf,hc⟩
  refine sp 1 hf rfl fun a hf => stCc 5 (fun a => Has 37 a [(1,pq b_1),(9,pq b_1),(10,i6 c_.Car),(11,.bool (crew_in c_.Car 0 1000)),(12,.bool (!(crew_in c_.Car 0 1000))),(13,.bool (!(crew_in c_.Car 0 1000))),(18,.bool ((!(crew_in c_.Car 0 1000)) || (!(crew_in c_.Wide 1 1000)))),(19,.bool ((!(crew_in c_.Car 0 1000)) || (!(crew_in c_.Wide 1 1000)))),(24,.bool (((!(crew_in c_.Car 0 1000)) || (!(crew_in c_.Wide 1 1000))) || (!(crew_in c_.Sag 1 10000)))),(25,.bool (((!(crew_in c_.Car 0 1000)) || (!(crew_in c_.Wide 1 1000))) || (!(crew_in c_.Sag 1 10000)))),(30,.bool ((((!(crew_in c_.Car 0 1000)) || (!(crew_in c_.Wide 1 1000))) || (!(crew_in c_.Sag 1 10000))) || (!(crew_in c_.Most 0 10000000))))]) hc ?_ ?_
  ·cases hb : (((!(crew_in c_.Car 0 1000)) || (!(crew_in c_.Wide 1 1000))) || (!(crew_in c_.Sag 1 10000)))
   ·rw [hb] at hf
    refine zP hf rfl (pFA fa_54_3 rfl) fun a hf => zL hf hc sc_3 m0 rfl fun a w hf hc => zQ (v := .bool (crew_in c_.Most 0 10000000)) hf hc en_86 rfl (fun w hc => crew_in_ok c_.Most 0 10000000 hc rfl) fun a w hf hc => sp 2 hf rfl fun a hf => cNil ⟨hf.kp rfl,hc⟩
   ·rw [hb] at hf
    refine stS hf rfl rfl rfl fun a hf => stS hf rfl rfl rfl fun a hf => stS hf rfl rfl rfl fun a hf => stS hf rfl rfl rfl fun a hf => sp 1 hf rfl fun a hf => cNil ⟨hf.kp rfl,hc⟩
  intro a w ⟨hf,hc⟩
  refine sp 1 hf rfl fun a hf => ?_
  obtain ⟨t_1,ht_1,hF⟩ := bnd_some hF
  refine stCc 5 (fun a => Has 37 a [(1,pq b_1),(9,pq b_1),(10,i6 c_.Car),(11,.bool (crew_in c_.Car 0 1000)),(12,.bool (!(crew_in c_.Car 0 1000))),(13,.bool (!(crew_in c_.Car 0 1000))),(18,.bool ((!(crew_in c_.Car 0 1000)) || (!(crew_in c_.Wide 1 1000)))),(19,.bool ((!(crew_in c_.Car 0 1000)) || (!(crew_in c_.Wide 1 1000)))),(24,.bool (((!(crew_in c_.Car 0 1000)) || (!(crew_in c_.Wide 1 1000))) || (!(crew_in c_.Sag 1 10000)))),(25,.bool (((!(crew_in c_.Car 0 1000)) || (!(crew_in c_.Wide 1 1000))) || (!(crew_in c_.Sag 1 10000)))),(30,.bool ((((!(crew_in c_.Car 0 1000)) || (!(crew_in c_.Wide 1 1000))) || (!(crew_in c_.Sag 1 10000))) || (!(crew_in c_.Most 0 10000000)))),(31,.bool ((((!(crew_in c_.Car 0 1000)) || (!(crew_in c_.Wide 1 1000))) || (!(crew_in c_.Sag 1 10000))) || (!(crew_in c_.Most 0 10000000)))),(36,.bool t_1)]) hc ?_ ?_
  ·cases hb : ((((!(crew_in c_.Car 0 1000)) || (!(crew_in c_.Wide 1 1000))) || (!(crew_in c_.Sag 1 10000))) || (!(crew_in c_.Most 0 10000000)))
   ·rw [hb] at hf
    have hF := condF hb ht_1
    refine zP hf rfl (pFA fa_54_4 rfl) fun a hf => zL hf hc sc_52 m0 rfl fun a w hf hc => ?_
    obtain ⟨r,hr,hF⟩ := bnd_some hF
    refine zQ (v := .bool r) hf hc en_90 rfl (fun w hc => crew_every_crew_Ride_ok c_.Rides h_c__Rides hc hr) fun a w hf hc => sp 2 hf rfl fun a hf => ?_
    obtain rfl := sj hF
    exact cNil ⟨hf.kp rfl,hc⟩
   ·rw [hb] at hf
    have hF := condT hb ht_1
    obtain rfl := sj hF
    refine stS hf rfl rfl rfl fun a hf => stS hf rfl rfl rfl fun a hf => stS hf rfl rfl rfl fun a hf => stS hf rfl rfl rfl fun a hf => sp 1 hf rfl fun a hf => cNil ⟨hf.kp rfl,hc⟩
  intro a w ⟨hf,hc⟩
  refine sp 1 hf rfl fun a hf => zT h ?_
  refine zI hf rfl hF ?_ ?_ <;> clear hF <;> intro hF
  ·refine zS fun K h => sp 1 hf rfl fun a hf => zT h ?_
   refine wp_ret ?_
   refine xBlkR ?_
   refine xThenR ?_
   obtain rfl := sj hF
   replace hc := hc.drop k0
   exact zO1 Tryz.results31 hf rfl ⟨rfl,hc⟩
  ·refine wp_skip ?_
   refine h2 _ _ ?_
   refine zS fun K h => sp 1 hf rfl fun a hf => zT h ?_
   refine wp_ret ?_
   obtain rfl := sj hF
   replace hc := hc.drop k0
   exact zO1 Tryz.results31 hf rfl ⟨rfl,hc⟩

def crew_Ride_on (r : crew_Ride) (n : Int) : Bool :=
 ((decide (r.From ≤ n)) && (decide ((W (n - r.From)) < r.Long)))
theorem crew_Ride_on_ok {G : Pers} {Lf : List Ent} {w : World} (r : crew_Ride) (n : Int)   (hc : Ctx G (Lf) w) {res : Bool} (hF : crew_Ride_on r n = res) : Calls Tryz.prog 104 #[.agg #[i6 r.From,i6 r.Long,i6 r.Weight.Lo,i6 r.Weight.Hi],i6 n] w (fun e w => e = .returned (.bool res) ∧ Ctx G (Lf) w) := by
 unfold crew_Ride_on at hF
 refine fnIn Tryz.func104 rfl Tryz.ntmps104 rfl fun a hf => zS fun K h => zB hf hc rfl fun b_1 a w hf hc => sp 1 hf rfl fun a hf => zT h ?_
 refine zS fun K h => sp 1 hf rfl fun a hf => zP hf rfl (pFA fa_72_0 rfl) fun a hf => zL hf hc sc_3 m0 rfl fun a w hf hc => sp 2 hf rfl fun a hf => stCc 8 (fun a => Has 18 a [(1,i6 n),(2,pq b_1),(4,.bool false),(5,i6 n),(6,pq b_1),(7,i6 r.From),(8,.bool (decide (r.From ≤ n))),(9,.bool (decide (r.From ≤ n))),(17,.bool ((decide (r.From ≤ n)) && (decide ((W (n - r.From)) < r.Long))))]) hc ?_ ?_
 ·cases hb : (decide (r.From ≤ n))
  ·rw [hb] at hf
   refine stS hf rfl rfl rfl fun a hf => stS hf rfl rfl rfl fun a hf => stS hf rfl rfl rfl fun a hf => stS hf rfl rfl rfl fun a hf => stS hf rfl rfl rfl fun a hf => stS hf rfl rfl rfl fun a hf => stS hf rfl rfl rfl fun a hf => sp 1 hf rfl fun a hf => cNil ⟨hf.kp rfl,hc⟩
  ·rw [hb] at hf
   refine sp 1 hf rfl fun a hf => zP hf rfl (pFA fa_72_0 rfl) fun a hf => zL hf hc sc_3 m0 rfl fun a w hf hc => sp 1 hf rfl fun a hf => zP hf rfl (pFA fa_72_1 rfl) fun a hf => zL hf hc sc_3 m0 rfl fun a w hf hc => sp 2 hf rfl fun a hf => cNil ⟨hf.kp rfl,hc⟩
 intro a w ⟨hf,hc⟩
 refine sp 1 hf rfl fun a hf => zT h ?_
 refine wp_ret ?_
 obtain rfl := hF
 replace hc := hc.drop k0
 exact zO1 Tryz.results104 hf rfl ⟨rfl,hc⟩

def crew_sum_b5 (N : Nat) (l : List Int) (out : Int) (x : Int) : Option (Step (Int × Int) (Int)) :=
 cond (decide (x < ((l.length : Nat) : Int)))
 (Option.bind (getI l x) fun e_1 =>
 some (.cont (W (out + e_1),W (x + 1))))
 (some (.brk (out,x)))
def crew_sum (N : Nat) (l : List Int) : Option (Int) :=
 Option.bind (loopO (fun s5 => crew_sum_b5 N l s5.1 s5.2) N (0,0)) fun x5 =>
 exK x5 (fun s5 => some s5.1) some
theorem crew_sum_ok {N : Nat} {G : Pers} {Lf : List Ent} {w : World} (l : List Int) {l_p : Option Addr} {l_c : Nat} (h_l : Rd G 1 l_p l_c (l.map encI_i64)) (hc : Ctx G (Lf) w) {res : Int} (hF : crew_sum N l = some res) : Calls Tryz.prog 160 #[.slice l_p l.length l_c] w (fun e w => e = .returned (i6 res) ∧ Ctx G (Lf) w) := by
 unfold crew_sum at hF
 refine fnIn Tryz.func160 rfl Tryz.ntmps160 rfl fun a hf => zS fun K h => sp 1 hf rfl fun a hf => zT h ?_
 refine zS fun K h => sp 1 hf rfl fun a hf => zT h ?_
 refine wp_seq_k fun K3 h3 => zS fun K h => sp 1 hf rfl fun a hf => zP hf rfl (pLenS Tryz.underlying25 rfl) fun a hf => sp 1 hf rfl fun a hf => zT h ?_
 refine wp_block ?_
 obtain ⟨x5,hx5,hF⟩ := bnd_some hF
 let S5 : (Int × Int) → Act → World → Prop := (fun (zz : Int × Int) a w => Has 17 a [(3,i6 zz.1),(6,.slice l_p l.length l_c),(7,i6 ((l.length : Nat) : Int)),(8,i6 zz.2)] ∧ Ctx G (Lf) w)
 have hr5 : ∀ (zz : Int × Int) a w,x5 = .go zz → S5 zz a w → K3 a w := by
  rintro ⟨out,x⟩ a w rfl ⟨hf,hc⟩
  replace hF := exK_go hF
  refine h3 _ _ ?_
  refine zS fun K h => sp 2 hf rfl fun a hf => zT h ?_
  refine wp_ret ?_
  obtain rfl := sj hF
  exact zO1 Tryz.results160 hf rfl ⟨rfl,hc⟩
 have ho5 : ∀ r,x5 = .out r → r = res := by
  rintro r rfl
  exact sj hF
 refine cLoop N (loopW (S := S5) (x := x5) ?_ N (0,0) _ _ ⟨hf.kp rfl,hc⟩ hx5)
 clear hF hf hc
 rintro ⟨out,x⟩ st5 a w KB5 ⟨hf,hc⟩ hF hfin5 hK5
 unfold crew_sum_b5 at hF
 refine zS fun K h => sp 1 hf rfl fun a hf => zT h ?_
 refine wp_seq_k fun K8 h8 => zI hf rfl hF ?_ ?_ <;> clear hF <;> intro hF
 ·refine wp_skip ?_
  refine h8 _ _ ?_
  refine wp_seq_k fun K9 h9 => wp_block ?_
  refine zS fun K h => ?_
  obtain ⟨e_1,he_1,hF⟩ := bnd_some hF
  obtain ⟨b_1,o,qa,qp⟩ := h_l.atm he_1
  refine zP hf rfl (pIA Tryz.underlying25 sz_3 rfl rfl qa) fun a hf => zE hf hc rfl (eLd1 sc_3 rfl (cell_pc (j := 0) qp rfl)) fun a w hf hc => sp 1 hf rfl fun a hf => zT h ?_
  refine cReg ?_
  refine sp 4 hf rfl fun a hf => cNil ?_
  refine h9 _ _ ?_
  refine cReg ?_
  refine sp 2 hf rfl fun a hf => cNil ?_
  exact hK5 (W (out + e_1),W (x + 1)) _ _ (sj hF).symm ⟨hf.kp rfl,hc⟩
 ·refine wp_exit ?_
  refine xThen ?_
  refine xThen ?_
  have he := sj hF
  rw [← he] at hfin5
  refine cHit ?_
  exact hr5 _ _ _ hfin5 ⟨hf.kp rfl,hc⟩

def crew_Cable_load_j9 (N : Nat) (x : Int) (l_1 : List Int) : Option (Step ((List Int) × Int) (Int)) :=
 some (.cont (l_1,W (x + 1)))
def crew_Cable_load_b5 (N : Nat) (c_ : crew_Cable) (n : Int) (l : List Int) (x : Int) : Option (Step ((List Int) × Int) (Int)) :=
 cond (decide (x < ((c_.Rides.length : Nat) : Int)))
 (Option.bind (getI c_.Rides x) fun e_1 =>
 cond (crew_Ride_on e_1 n)
 (Option.bind (room ((l ++ [(crew_low_1 e_1.Weight)])).length) fun un =>
 crew_Cable_load_j9 N x (l ++ [(crew_low_1 e_1.Weight)]))
 (crew_Cable_load_j9 N x l))
 (some (.brk (l,x)))
def crew_Cable_load (N : Nat) (c_ : crew_Cable) (n : Int) : Option (Int) :=
 Option.bind (loopO (fun s5 => crew_Cable_load_b5 N c_ n s5.1 s5.2) N (([c_.Car] : List Int),0)) fun x5 =>
 exK x5 (fun s5 => Option.bind (crew_sum N s5.1) fun r =>
 some r) some
theorem crew_Cable_load_ok {N : Nat} {G : Pers} {Lf : List Ent} {w : World} (c_ : crew_Cable) (n : Int) {c__Rides_p : Option Addr} {c__Rides_c : Nat} (h_c__Rides : Rd G 4 c__Rides_p c__Rides_c (c_.Rides.map enc_crew_Ride)) (hc : Ctx G (Lf) w) {res : Int} (hF : crew_Cable_load N c_ n = some res) : Calls Tryz.prog 93 #[.agg #[i6 c_.Car,i6 c_.Wide,i6 c_.Sag,i6 c_.Most,.slice c__Rides_p c_.Rides.length c__Rides_c],i6 n,.agg #[.func (.func 155) #[] #[]]] w (fun e w => e = .returned (i6 res) ∧ Ctx G (Lf) w) := by
 unfold crew_Cable_load at hF
 refine fnIn Tryz.func93 rfl Tryz.ntmps93 rfl fun a hf => zS fun K h => zB hf hc rfl fun b_1 a w hf hc => zB hf hc rfl fun b_2 a w hf hc => sp 1 hf rfl fun a hf => zT h ?_
 refine zS fun K h => zP hf rfl (pFA fa_54_0 rfl) fun a hf => zL hf hc sc_3 m1 rfl fun a w hf hc => stBS (rows := ([c_.Car] : List Int).map encI_i64) (vs := [(0,i6 c_.Car)]) hf hc rfl rfl sl_25 rfl ⟨rfl,rfl,rfl,trivial⟩ rfl rfl fun b_3 a w hf hc => sp 1 hf rfl fun a hf => zT h ?_
 refine wp_seq_k fun K3 h3 => zS fun K h => zP hf rfl (pFA fa_54_4 rfl) fun a hf => zL hf hc sc_52 m2 rfl fun a w hf hc => zP hf rfl (pLenS Tryz.underlying52 rfl) fun a hf => sp 1 hf rfl fun a hf => zT h ?_
 refine wp_block ?_
 obtain ⟨x5,hx5,hF⟩ := bnd_some hF
 let S5 : ((List Int) × Int) → Act → World → Prop := (fun (zz : (List Int) × Int) a w => ∃ (p_1 : Option Addr) (c_1 : Nat),Has 34 a [(1,i6 n),(5,pq b_2),(7,.slice p_1 zz.1.length c_1),(14,.slice c__Rides_p c_.Rides.length c__Rides_c),(15,i6 ((c_.Rides.length : Nat) : Int)),(16,i6 zz.2)] ∧ Ctx G (.row p_1 c_1 (zz.1.map encI_i64) 3 1::.box b_2 [.func (.func 155) #[] #[]] 147::Lf) w)
 have hr5 : ∀ (zz : (List Int) × Int) a w,x5 = .go zz → S5 zz a w → K3 a w := by
  rintro ⟨l,x⟩ a w rfl ⟨p_1,c_1,hf,hc⟩
  replace hF := exK_go hF
  refine h3 _ _ ?_
  refine zS fun K h => sp 1 hf rfl fun a hf => ?_
  obtain ⟨r,hr,hF⟩ := bnd_some hF
  refine zQ (v := i6 r) hf hc en_160 rfl (fun w hc => by obtain ⟨G1,hle1,hrd1,hc,hth1⟩ := lend hc k0; exact (crew_sum_ok l hrd1 hc hr).mono fun e w h => ⟨h.1,((hth1 _ _ h.2).unpick k0)⟩) fun a w hf hc => sp 1 hf rfl fun a hf => zT h ?_
  refine wp_ret ?_
  obtain rfl := sj hF
  replace hc := (hc.drop k1).drop k0
  exact zO1 Tryz.results93 hf rfl ⟨rfl,hc⟩
 have ho5 : ∀ r,x5 = .out r → r = res := by
  rintro r rfl
  exact sj hF
 replace hc := hc.drop k2
 refine cLoop N (loopW (S := S5) (x := x5) ?_ N (([c_.Car] : List Int),0) _ _ ⟨(some ⟨b_3,0,none⟩),1,hf.kp rfl,hc⟩ hx5)
 clear hF hf hc
 rintro ⟨l,x⟩ st5 a w KB5 ⟨p_1,c_1,hf,hc⟩ hF hfin5 hK5
 unfold crew_Cable_load_b5 at hF
 refine zS fun K h => sp 1 hf rfl fun a hf => zT h ?_
 refine wp_seq_k fun K8 h8 => zI hf rfl hF ?_ ?_ <;> clear hF <;> intro hF
 ·refine wp_skip ?_
  refine h8 _ _ ?_
  refine wp_seq_k fun K9 h9 => ?_
  have hj9 : ∀ (l_1 : List Int) (p_2 : Option Addr) (c_2 : Nat) a w,Has 34 a [(1,i6 n),(5,pq b_2),(7,.slice p_2 l_1.length c_2),(14,.slice c__Rides_p c_.Rides.length c__Rides_c),(15,i6 ((c_.Rides.length : Nat) : Int)),(16,i6 x)] → Ctx G (.row p_2 c_2 (l_1.map encI_i64) 3 1::.box b_2 [.func (.func 155) #[] #[]] 147::Lf) w → crew_Cable_load_j9 N x l_1 = some st5 → K9 a w := by
   repeat (clear hF)
   repeat (clear hc)
   repeat (clear hf)
   intro l_1 p_2 c_2 a w hf hc hF
   unfold crew_Cable_load_j9 at hF
   refine h9 _ _ ?_
   refine cReg ?_
   refine sp 2 hf rfl fun a hf => cNil ?_
   exact hK5 (l_1,W (x + 1)) _ _ (sj hF).symm ⟨p_2,c_2,hf.kp rfl,hc⟩
  refine wp_block ?_
  refine zS fun K h => ?_
  obtain ⟨e_1,he_1,hF⟩ := bnd_some hF
  obtain ⟨b_4,o,qa,qp⟩ := h_c__Rides.atm he_1
  refine zP hf rfl (pIA Tryz.underlying52 sz_72 rfl rfl qa) fun a hf => zE hf hc rfl (eLdN (vs := [i6 e_1.From,i6 e_1.Long,i6 e_1.Weight.Lo,i6 e_1.Weight.Hi]) ag_72 rfl rfl (cells_pc qp (n := 4) (o' := 0) rfl)) fun a w hf hc => zA hf hc zr_72 rfl fun b_5 a w hf hc => zW hf hc sz_72 u0 rfl fun w hc => zT h ?_
  refine zS fun K h => zN hf hc ag_72 m0 rfl fun a w hf hc => sp 1 hf rfl fun a hf => zQ (v := .bool (crew_Ride_on e_1 n)) hf hc en_104 rfl (fun w hc => crew_Ride_on_ok e_1 n hc rfl) fun a w hf hc => zT h ?_
  refine zI hf rfl hF ?_ ?_ <;> clear hF <;> intro hF
  ·refine cReg ?_
   refine sp 1 hf rfl fun a hf => zP hf rfl (pFA fa_147_0 rfl) fun a hf => zL hf hc sc_145 m2 rfl fun a w hf hc => zP hf rfl (pFA fa_72_2 rfl) fun a hf => zN hf hc ag_29 m0 rfl fun a w hf hc => zQ (v := i6 (crew_low_1 e_1.Weight)) hf hc en_155 rfl (fun w hc => crew_low_1_ok e_1.Weight hc rfl) fun a w hf hc => stBS (rows := ([(crew_low_1 e_1.Weight)] : List Int).map encI_i64) (vs := [(0,i6 (crew_low_1 e_1.Weight))]) hf hc rfl rfl sl_25 rfl ⟨rfl,rfl,rfl,trivial⟩ rfl rfl fun b_6 a w hf hc => ?_
   obtain ⟨un,hun,hF⟩ := bnd_some hF
   refine stApm (xs := l) (ys := ([(crew_low_1 e_1.Weight)] : List Int)) hf hc rfl rfl sl_25 rfl rfl rfl rfl rfl one_encI_i64 (src_row hc m0) (fun _ _ => u2) (by simpa using room_spec hun) fun p_3 c_3 a w hf hc => sp 1 hf rfl fun a hf => cNil ?_
   replace hc := (hc.drop k1).drop k0
   exact hj9 (l ++ [(crew_low_1 e_1.Weight)]) p_3 c_3 _ _  (hf.kp rfl) hc hF
  ·refine wp_skip ?_
   replace hc := hc.drop k0
   exact hj9 l p_1 c_1 _ _  (hf.kp rfl) hc hF
 ·refine wp_exit ?_
  refine xThen ?_
  refine xThen ?_
  have he := sj hF
  rw [← he] at hfin5
  refine cHit ?_
  exact hr5 _ _ _ hfin5 ⟨p_1,c_1,hf.kp rfl,hc⟩

def crew_Cable_load_s2_j9 (N : Nat) (x : Int) (l_1 : List Int) : Option (Step ((List Int) × Int) (Int)) :=
 some (.cont (l_1,W (x + 1)))
def crew_Cable_load_s2_b5 (N : Nat) (c_ : crew_Cable) (n : Int) (l : List Int) (x : Int) : Option (Step ((List Int) × Int) (Int)) :=
 cond (decide (x < ((c_.Rides.length : Nat) : Int)))
 (Option.bind (getI c_.Rides x) fun e_1 =>
 cond (crew_Ride_on e_1 n)
 (Option.bind (room ((l ++ [(crew_high_1 e_1.Weight)])).length) fun un =>
 crew_Cable_load_s2_j9 N x (l ++ [(crew_high_1 e_1.Weight)]))
 (crew_Cable_load_s2_j9 N x l))
 (some (.brk (l,x)))
def crew_Cable_load_s2 (N : Nat) (c_ : crew_Cable) (n : Int) : Option (Int) :=
 Option.bind (loopO (fun s5 => crew_Cable_load_s2_b5 N c_ n s5.1 s5.2) N (([c_.Car] : List Int),0)) fun x5 =>
 exK x5 (fun s5 => Option.bind (crew_sum N s5.1) fun r =>
 some r) some
theorem crew_Cable_load_s2_ok {N : Nat} {G : Pers} {Lf : List Ent} {w : World} (c_ : crew_Cable) (n : Int) {c__Rides_p : Option Addr} {c__Rides_c : Nat} (h_c__Rides : Rd G 4 c__Rides_p c__Rides_c (c_.Rides.map enc_crew_Ride)) (hc : Ctx G (Lf) w) {res : Int} (hF : crew_Cable_load_s2 N c_ n = some res) : Calls Tryz.prog 93 #[.agg #[i6 c_.Car,i6 c_.Wide,i6 c_.Sag,i6 c_.Most,.slice c__Rides_p c_.Rides.length c__Rides_c],i6 n,.agg #[.func (.func 156) #[] #[]]] w (fun e w => e = .returned (i6 res) ∧ Ctx G (Lf) w) := by
 unfold crew_Cable_load_s2 at hF
 refine fnIn Tryz.func93 rfl Tryz.ntmps93 rfl fun a hf => zS fun K h => zB hf hc rfl fun b_1 a w hf hc => zB hf hc rfl fun b_2 a w hf hc => sp 1 hf rfl fun a hf => zT h ?_
 refine zS fun K h => zP hf rfl (pFA fa_54_0 rfl) fun a hf => zL hf hc sc_3 m1 rfl fun a w hf hc => stBS (rows := ([c_.Car] : List Int).map encI_i64) (vs := [(0,i6 c_.Car)]) hf hc rfl rfl sl_25 rfl ⟨rfl,rfl,rfl,trivial⟩ rfl rfl fun b_3 a w hf hc => sp 1 hf rfl fun a hf => zT h ?_
 refine wp_seq_k fun K3 h3 => zS fun K h => zP hf rfl (pFA fa_54_4 rfl) fun a hf => zL hf hc sc_52 m2 rfl fun a w hf hc => zP hf rfl (pLenS Tryz.underlying52 rfl) fun a hf => sp 1 hf rfl fun a hf => zT h ?_
 refine wp_block ?_
 obtain ⟨x5,hx5,hF⟩ := bnd_some hF
 let S5 : ((List Int) × Int) → Act → World → Prop := (fun (zz : (List Int) × Int) a w => ∃ (p_1 : Option Addr) (c_1 : Nat),Has 34 a [(1,i6 n),(5,pq b_2),(7,.slice p_1 zz.1.length c_1),(14,.slice c__Rides_p c_.Rides.length c__Rides_c),(15,i6 ((c_.Rides.length : Nat) : Int)),(16,i6 zz.2)] ∧ Ctx G (.row p_1 c_1 (zz.1.map encI_i64) 3 1::.box b_2 [.func (.func 156) #[] #[]] 147::Lf) w)
 have hr5 : ∀ (zz : (List Int) × Int) a w,x5 = .go zz → S5 zz a w → K3 a w := by
  rintro ⟨l,x⟩ a w rfl ⟨p_1,c_1,hf,hc⟩
  replace hF := exK_go hF
  refine h3 _ _ ?_
  refine zS fun K h => sp 1 hf rfl fun a hf => ?_
  obtain ⟨r,hr,hF⟩ := bnd_some hF
  refine zQ (v := i6 r) hf hc en_160 rfl (fun w hc => by obtain ⟨G1,hle1,hrd1,hc,hth1⟩ := lend hc k0; exact (crew_sum_ok l hrd1 hc hr).mono fun e w h => ⟨h.1,((hth1 _ _ h.2).unpick k0)⟩) fun a w hf hc => sp 1 hf rfl fun a hf => zT h ?_
  refine wp_ret ?_
  obtain rfl := sj hF
  replace hc := (hc.drop k1).drop k0
  exact zO1 Tryz.results93 hf rfl ⟨rfl,hc⟩
 have ho5 : ∀ r,x5 = .out r → r = res := by
  rintro r rfl
  exact sj hF
 replace hc := hc.drop k2
 refine cLoop N (loopW (S := S5) (x := x5) ?_ N (([c_.Car] : List Int),0) _ _ ⟨(some ⟨b_3,0,none⟩),1,hf.kp rfl,hc⟩ hx5)
 clear hF hf hc
 rintro ⟨l,x⟩ st5 a w KB5 ⟨p_1,c_1,hf,hc⟩ hF hfin5 hK5
 unfold crew_Cable_load_s2_b5 at hF
 refine zS fun K h => sp 1 hf rfl fun a hf => zT h ?_
 refine wp_seq_k fun K8 h8 => zI hf rfl hF ?_ ?_ <;> clear hF <;> intro hF
 ·refine wp_skip ?_
  refine h8 _ _ ?_
  refine wp_seq_k fun K9 h9 => ?_
  have hj9 : ∀ (l_1 : List Int) (p_2 : Option Addr) (c_2 : Nat) a w,Has 34 a [(1,i6 n),(5,pq b_2),(7,.slice p_2 l_1.length c_2),(14,.slice c__Rides_p c_.Rides.length c__Rides_c),(15,i6 ((c_.Rides.length : Nat) : Int)),(16,i6 x)] → Ctx G (.row p_2 c_2 (l_1.map encI_i64) 3 1::.box b_2 [.func (.func 156) #[] #[]] 147::Lf) w → crew_Cable_load_s2_j9 N x l_1 = some st5 → K9 a w := by
   repeat (clear hF)
   repeat (clear hc)
   repeat (clear hf)
   intro l_1 p_2 c_2 a w hf hc hF
   unfold crew_Cable_load_s2_j9 at hF
   refine h9 _ _ ?_
   refine cReg ?_
   refine sp 2 hf rfl fun a hf => cNil ?_
   exact hK5 (l_1,W (x + 1)) _ _ (sj hF).symm ⟨p_2,c_2,hf.kp rfl,hc⟩
  refine wp_block ?_
  refine zS fun K h => ?_
  obtain ⟨e_1,he_1,hF⟩ := bnd_some hF
  obtain ⟨b_4,o,qa,qp⟩ := h_c__Rides.atm he_1
  refine zP hf rfl (pIA Tryz.underlying52 sz_72 rfl rfl qa) fun a hf => zE hf hc rfl (eLdN (vs := [i6 e_1.From,i6 e_1.Long,i6 e_1.Weight.Lo,i6 e_1.Weight.Hi]) ag_72 rfl rfl (cells_pc qp (n := 4) (o' := 0) rfl)) fun a w hf hc => zA hf hc zr_72 rfl fun b_5 a w hf hc => zW hf hc sz_72 u0 rfl fun w hc => zT h ?_
  refine zS fun K h => zN hf hc ag_72 m0 rfl fun a w hf hc => sp 1 hf rfl fun a hf => zQ (v := .bool (crew_Ride_on e_1 n)) hf hc en_104 rfl (fun w hc => crew_Ride_on_ok e_1 n hc rfl) fun a w hf hc => zT h ?_
  refine zI hf rfl hF ?_ ?_ <;> clear hF <;> intro hF
  ·refine cReg ?_
   refine sp 1 hf rfl fun a hf => zP hf rfl (pFA fa_147_0 rfl) fun a hf => zL hf hc sc_145 m2 rfl fun a w hf hc => zP hf rfl (pFA fa_72_2 rfl) fun a hf => zN hf hc ag_29 m0 rfl fun a w hf hc => zQ (v := i6 (crew_high_1 e_1.Weight)) hf hc en_156 rfl (fun w hc => crew_high_1_ok e_1.Weight hc rfl) fun a w hf hc => stBS (rows := ([(crew_high_1 e_1.Weight)] : List Int).map encI_i64) (vs := [(0,i6 (crew_high_1 e_1.Weight))]) hf hc rfl rfl sl_25 rfl ⟨rfl,rfl,rfl,trivial⟩ rfl rfl fun b_6 a w hf hc => ?_
   obtain ⟨un,hun,hF⟩ := bnd_some hF
   refine stApm (xs := l) (ys := ([(crew_high_1 e_1.Weight)] : List Int)) hf hc rfl rfl sl_25 rfl rfl rfl rfl rfl one_encI_i64 (src_row hc m0) (fun _ _ => u2) (by simpa using room_spec hun) fun p_3 c_3 a w hf hc => sp 1 hf rfl fun a hf => cNil ?_
   replace hc := (hc.drop k1).drop k0
   exact hj9 (l ++ [(crew_high_1 e_1.Weight)]) p_3 c_3 _ _  (hf.kp rfl) hc hF
  ·refine wp_skip ?_
   replace hc := hc.drop k0
   exact hj9 l p_1 c_1 _ _  (hf.kp rfl) hc hF
 ·refine wp_exit ?_
  refine xThen ?_
  refine xThen ?_
  have he := sj hF
  rw [← he] at hfin5
  refine cHit ?_
  exact hr5 _ _ _ hfin5 ⟨p_1,c_1,hf.kp rfl,hc⟩

def crew_Load (N : Nat) (c_ : crew_Cable) (n : Int) : Option (api_Span × Int) :=
 Option.bind (crew_CheckCable N c_) fun r =>
 cond (r != 0)
 (some ((⟨0,0⟩ : api_Span),r))
 (cond (!(crew_in n 0 200000))
 (some ((⟨0,0⟩ : api_Span),4))
 (Option.bind (crew_Cable_load N c_ n) fun r_1 =>
 Option.bind (crew_Cable_load_s2 N c_ n) fun r_2 =>
 some ((⟨r_1,r_2⟩ : api_Span),0)))
theorem crew_Load_ok {N : Nat} {G : Pers} {Lf : List Ent} {w : World} (c_ : crew_Cable) (n : Int) {c__Rides_p : Option Addr} {c__Rides_c : Nat} (h_c__Rides : Rd G 4 c__Rides_p c__Rides_c (c_.Rides.map enc_crew_Ride)) (hc : Ctx G (Lf) w) {res : api_Span × Int} (hF : crew_Load N c_ n = some res) : Calls Tryz.prog 34 #[.agg #[i6 c_.Car,i6 c_.Wide,i6 c_.Sag,i6 c_.Most,.slice c__Rides_p c_.Rides.length c__Rides_c],i6 n] w (fun e w => e = .returned (.tuple #[.agg #[i6 res.1.Lo,i6 res.1.Hi],i6 res.2]) ∧ Ctx G (Lf) w) := by
 unfold crew_Load at hF
 refine fnIn Tryz.func34 rfl Tryz.ntmps34 rfl fun a hf => zS fun K h => zB hf hc rfl fun b_1 a w hf hc => zA hf hc zr_29 rfl fun b_2 a w hf hc => sp 1 hf rfl fun a hf => zT h ?_
 refine zS fun K h => zN hf hc ag_54 m1 rfl fun a w hf hc => ?_
 obtain ⟨r,hr,hF⟩ := bnd_some hF
 refine zQ (v := i6 r) hf hc en_31 rfl (fun w hc => crew_CheckCable_ok c_ h_c__Rides hc hr) fun a w hf hc => sp 1 hf rfl fun a hf => zT h ?_
 refine wp_seq_k fun K3 h3 => wp_block ?_
 refine zS fun K h => sp 3 hf rfl fun a hf => zT h ?_
 refine zI hf rfl hF ?_ ?_ <;> clear hF <;> intro hF
 ·refine zS fun K h => zP hf rfl (pBuildS (cells := [i6 0,i6 0]) bt_29 rfl rfl) fun a hf => sp 1 hf rfl fun a hf => zW hf hc sz_29 u0 rfl fun w hc => sp 1 hf rfl fun a hf => zT h ?_
  refine wp_ret ?_
  refine xBlkR ?_
  refine xThenR ?_
  obtain rfl := sj hF
  replace hc := hc.drop k1
  exact fnOut2 (by simp) rfl Tryz.results34 hf hc (rv_cellN (vs := [i6 0,i6 0]) ag_29 rfl rfl (cells_box (n := 2) m0 rfl)) (show look _ 5 = _ from rfl) ⟨rfl,(hc.drop k0)⟩
 ·refine zS fun K h => sp 1 hf rfl fun a hf => zQ (v := .bool (crew_in n 0 200000)) hf hc en_86 rfl (fun w hc => crew_in_ok n 0 200000 hc rfl) fun a w hf hc => sp 2 hf rfl fun a hf => zT h ?_
  refine zI hf rfl hF ?_ ?_ <;> clear hF <;> intro hF
  ·refine zS fun K h => zP hf rfl (pBuildS (cells := [i6 0,i6 0]) bt_29 rfl rfl) fun a hf => zW hf hc sz_29 u0 rfl fun w hc => sp 1 hf rfl fun a hf => zT h ?_
   refine wp_ret ?_
   refine xBlkR ?_
   refine xThenR ?_
   obtain rfl := sj hF
   replace hc := hc.drop k1
   exact fnOut2 (by simp) rfl Tryz.results34 hf hc (rv_cellN (vs := [i6 0,i6 0]) ag_29 rfl rfl (cells_box (n := 2) m0 rfl)) (show look _ 5 = _ from rfl) ⟨rfl,(hc.drop k0)⟩
  ·refine wp_skip ?_
   refine h3 _ _ ?_
   refine wp_seq_k fun K8 h8 => ?_
   obtain ⟨r_1,hr_1,hF⟩ := bnd_some hF
   obtain ⟨r_2,hr_2,hF⟩ := bnd_some hF
   refine regionE (fun θ => [⟨none,none,1,i6 n⟩,⟨none,none,2,pq b_1⟩,⟨none,none,4,pq b_2⟩,⟨none,some 10,5,i6 0⟩,⟨some 0,none,19,.agg #[i6 c_.Car,i6 c_.Wide,i6 c_.Sag,i6 c_.Most,.slice c__Rides_p c_.Rides.length c__Rides_c]⟩,⟨some 1,none,20,i6 n⟩,⟨some 2,none,21,.agg #[.func (.func 155) #[] #[]]⟩,⟨some 3,none,22,i6 r_1⟩,⟨some 4,none,23,.agg #[i6 c_.Car,i6 c_.Wide,i6 c_.Sag,i6 c_.Most,.slice c__Rides_p c_.Rides.length c__Rides_c]⟩,⟨some 5,none,24,i6 n⟩,⟨some 6,none,25,.agg #[.func (.func 156) #[] #[]]⟩,⟨some 7,none,26,i6 r_2⟩,⟨some 8,none,27,.agg #[i6 r_1,i6 r_2]⟩,⟨some 10,none,5,i6 0⟩]) (fun E θ => (bif E 9 then .box b_2 [i6 r_1,i6 r_2] 29 else .box b_2 [i6 0,i6 0] 29)::.box b_1 [i6 c_.Car,i6 c_.Wide,i6 c_.Sag,i6 c_.Most,.slice c__Rides_p c_.Rides.length c__Rides_c] 54::Lf) [] (fun a w => Has 28 a [(4,pq b_2),(5,i6 0)] ∧ Ctx G (.box b_2 [i6 r_1,i6 r_2] 29::.box b_1 [i6 c_.Car,i6 c_.Wide,i6 c_.Sag,i6 c_.Most,.slice c__Rides_p c_.Rides.length c__Rides_c] 54::Lf) w) follows_mx (by kernel_rfl) (by kernel_rfl) (HasE.of hf ⟨rfl,rfl,rfl,rfl,trivial,trivial,trivial,trivial,trivial,trivial,trivial,trivial,trivial,trivial,trivial⟩) hc ⟨?_,?_,?_,?_,?_,?_,?_,?_,?_,?_,?_,trivial⟩ ?_ ?_
   ·intro E θ a w hD hi hp he hc
    have hf := he.h0.mT he 1 rfl
    refine zN hf hc ag_54 m1 rfl fun a w hf hc => zD θ he hi hf 4 rfl rfl rfl hc
   ·intro E θ a w hD hi hp he hc
    have hf := he.h0.mT he 0 rfl
    refine sp 1 hf rfl fun a hf => zD θ he hi hf 5 rfl rfl rfl hc
   ·intro E θ a w hD hi hp he hc
    have hf := he.h0
    refine zQ (v := .agg #[.func (.func 155) #[] #[]]) hf hc en_82 rfl (fun w hc => crew_low_ok hc rfl) fun a w hf hc => zD θ he hi hf 6 rfl rfl rfl hc
   ·intro E θ a w hD hi hp he hc
    have e0 := hp.o 0 rfl
    have e1 := hp.o 1 rfl
    have e2 := hp.o 2 rfl
    have hf := ((he.h0.mP he 4 rfl e0).mP he 5 rfl e1).mP he 6 rfl e2
    refine zQ (v := i6 r_1) hf hc en_93 rfl (fun w hc => crew_Cable_load_ok c_ n h_c__Rides hc hr_1) fun a w hf hc => zD θ he hi hf 7 rfl rfl rfl hc
   ·intro E θ a w hD hi hp he hc
    have hf := he.h0.mT he 1 rfl
    refine zN hf hc ag_54 m1 rfl fun a w hf hc => zD θ he hi hf 8 rfl rfl rfl hc
   ·intro E θ a w hD hi hp he hc
    have hf := he.h0.mT he 0 rfl
    refine sp 1 hf rfl fun a hf => zD θ he hi hf 9 rfl rfl rfl hc
   ·intro E θ a w hD hi hp he hc
    have hf := he.h0
    refine zQ (v := .agg #[.func (.func 156) #[] #[]]) hf hc en_83 rfl (fun w hc => crew_high_ok hc rfl) fun a w hf hc => zD θ he hi hf 10 rfl rfl rfl hc
   ·intro E θ a w hD hi hp he hc
    have e4 := hp.o 4 rfl
    have e5 := hp.o 5 rfl
    have e6 := hp.o 6 rfl
    have hf := ((he.h0.mP he 8 rfl e4).mP he 9 rfl e5).mP he 10 rfl e6
    refine zQ (v := i6 r_2) hf hc en_93 rfl (fun w hc => crew_Cable_load_s2_ok c_ n h_c__Rides hc hr_2) fun a w hf hc => zD θ he hi hf 11 rfl rfl rfl hc
   ·intro E θ a w hD hi hp he hc
    have e3 := hp.o 3 rfl
    have e7 := hp.o 7 rfl
    have hf := (he.h0.mP he 7 rfl e3).mP he 11 rfl e7
    refine zP hf rfl (pBuildS (cells := [i6 r_1,i6 r_2]) bt_29 rfl rfl) fun a hf => zD θ he hi hf 12 rfl rfl rfl hc
   ·intro E θ a w hD hi hp he hc
    have e8 := hp.o 8 rfl
    try dsimp only at hc
    rw [hi] at hc
    have hf := (he.h0.mT he 2 rfl).mP he 12 rfl e8
    refine zW hf hc sz_29 u0 rfl fun w hc => zG θ he hi hf rfl ?_
    try dsimp only
    rw [updE_self E 9]
    exact hc
   ·intro E θ a w hD hi hp he hc
    have hf := he.h0
    refine sp 1 hf rfl fun a hf => zD θ he hi hf 13 rfl rfl rfl hc
   ·intro E θ a w hall he hc
    have hf := he.h0
    have e9 := hall 9 rfl
    have e10 := hall 10 rfl
    replace hf := hf.more he 13 rfl (onP e10)
    replace hf := hf.more he 2 rfl (onT)
    try dsimp only at hc
    rw [e9] at hc
    exact ⟨hf.kp rfl,hc⟩
   rintro a w ⟨hf,hc⟩
   refine h8 _ _ ?_
   refine wp_ret ?_
   obtain rfl := sj hF
   replace hc := hc.drop k1
   exact fnOut2 (by simp) rfl Tryz.results34 hf hc (rv_cellN (vs := [i6 r_1,i6 r_2]) ag_29 rfl rfl (cells_box (n := 2) m0 rfl)) (show look _ 5 = _ from rfl) ⟨rfl,(hc.drop k0)⟩

def slices_Sort_Lint_int (N : Nat) (x : List Int) : Option ((List Int)) :=
 sortO x
/-! ### Walks of the library -/

theorem slices_Sort_Lint_int_ok {N : Nat} {G : Pers} {Lf : List Ent} {w : World} (x : List Int) {x_p : Option Addr} {x_c : Nat}  (hc : Ctx G (.row x_p x_c (x.map encI_i64) 3 1::Lf) w) {res : (List Int)} (hF : slices_Sort_Lint_int N x = some res) : Calls Tryz.prog 161 #[.slice x_p x.length x_c] w (fun e w => e = .returned (.tuple #[]) ∧ res.length = x.length ∧ Ctx G (.row x_p x_c (res.map encI_i64) 3 1::Lf) w) := by
 unfold slices_Sort_Lint_int at hF
 exact sort_ctx (fun w => sort_nil Go.Proofs.Tryz.lays189 w) (fun b o c zs w h1 h2 h3 => Go.Proofs.Any.slices_Sort_int Go.Proofs.Tryz.lays189 b o c zs w h1 h2 h3) hc hF

def slices_Compact_Lint_int (N : Nat) (s_ : List Int) : Option ((List Int)) :=
 compO s_
/-! ### Walks of the library -/

theorem slices_Compact_Lint_int_ok {N : Nat} {G : Pers} {Lf : List Ent} {w : World} (s_ : List Int) {s__p : Option Addr} {s__c : Nat}  (hc : Ctx G (.row s__p s__c (s_.map encI_i64) 3 1::Lf) w) {res : (List Int)} (hF : slices_Compact_Lint_int N s_ = some res) : Calls Tryz.prog 162 #[.slice s__p s_.length s__c] w (fun e w => ∃ (p'1 : Option Addr) (c'1 : Nat),e = .returned (.slice p'1 res.length c'1) ∧ Ctx G (.row p'1 c'1 (res.map encI_i64) 3 1::Lf) w) := by
 unfold slices_Compact_Lint_int at hF
 exact compact_ctx (fun a c w => Go.Proofs.Any.slices_Compact_int_empty Go.Proofs.Tryz.lays20 a c w) (fun b o c zs w h1 h2 h3 => Go.Proofs.Any.slices_Compact_int Go.Proofs.Tryz.lays20 b o c zs w h1 h2 h3) hc hF

def crew_Cable_starts_b5 (N : Nat) (c_ : crew_Cable) (out : List Int) (x : Int) : Option (Step ((List Int) × Int) ((List Int))) :=
 cond (decide (x < ((c_.Rides.length : Nat) : Int)))
 (Option.bind (getI c_.Rides x) fun e_1 =>
 Option.bind (room ((out ++ [e_1.From])).length) fun un =>
 some (.cont ((out ++ [e_1.From]),W (x + 1))))
 (some (.brk (out,x)))
def crew_Cable_starts (N : Nat) (c_ : crew_Cable) : Option ((List Int)) :=
 Option.bind (loopO (fun s5 => crew_Cable_starts_b5 N c_ s5.1 s5.2) N (([0] : List Int),0)) fun x5 =>
 exK x5 (fun s5 => Option.bind (slices_Clone_Lint_int N s5.1) fun r =>
 Option.bind (slices_Sort_Lint_int N r) fun r_1 =>
 Option.bind (slices_Compact_Lint_int N r_1) fun r_2 =>
 some r_2) some
theorem crew_Cable_starts_ok {N : Nat} {G : Pers} {Lf : List Ent} {w : World} (c_ : crew_Cable) {c__Rides_p : Option Addr} {c__Rides_c : Nat} (h_c__Rides : Rd G 4 c__Rides_p c__Rides_c (c_.Rides.map enc_crew_Ride)) (hc : Ctx G (Lf) w) {res : (List Int)} (hF : crew_Cable_starts N c_ = some res) : Calls Tryz.prog 95 #[.agg #[i6 c_.Car,i6 c_.Wide,i6 c_.Sag,i6 c_.Most,.slice c__Rides_p c_.Rides.length c__Rides_c]] w (fun e w => ∃ (p'1 : Option Addr) (c'1 : Nat),e = .returned (.slice p'1 res.length c'1) ∧ Ctx G (.row p'1 c'1 (res.map encI_i64) 3 1::Lf) w) := by
 unfold crew_Cable_starts at hF
 refine fnIn Tryz.func95 rfl Tryz.ntmps95 rfl fun a hf => zS fun K h => zB hf hc rfl fun b_1 a w hf hc => sp 1 hf rfl fun a hf => zT h ?_
 refine zS fun K h => stBS (rows := ([0] : List Int).map encI_i64) (vs := [(0,i6 0)]) hf hc rfl rfl sl_25 rfl ⟨rfl,rfl,rfl,trivial⟩ rfl rfl fun b_2 a w hf hc => sp 1 hf rfl fun a hf => zT h ?_
 refine wp_seq_k fun K3 h3 => zS fun K h => zP hf rfl (pFA fa_54_4 rfl) fun a hf => zL hf hc sc_52 m1 rfl fun a w hf hc => zP hf rfl (pLenS Tryz.underlying52 rfl) fun a hf => sp 1 hf rfl fun a hf => zT h ?_
 refine wp_block ?_
 obtain ⟨x5,hx5,hF⟩ := bnd_some hF
 let S5 : ((List Int) × Int) → Act → World → Prop := (fun (zz : (List Int) × Int) a w => ∃ (p_1 : Option Addr) (c_1 : Nat),Has 27 a [(3,.slice p_1 zz.1.length c_1),(9,.slice c__Rides_p c_.Rides.length c__Rides_c),(10,i6 ((c_.Rides.length : Nat) : Int)),(11,i6 zz.2)] ∧ Ctx G (.row p_1 c_1 (zz.1.map encI_i64) 3 1::Lf) w)
 have hr5 : ∀ (zz : (List Int) × Int) a w,x5 = .go zz → S5 zz a w → K3 a w := by
  rintro ⟨out,x⟩ a w rfl ⟨p_1,c_1,hf,hc⟩
  replace hF := exK_go hF
  refine h3 _ _ ?_
  refine zS fun K h => sp 1 hf rfl fun a hf => ?_
  obtain ⟨r,hr,hF⟩ := bnd_some hF
  obtain ⟨G1,hle1,hrd1,hc,hth1⟩ := lend hc k0
  refine zC hf en_150 rfl (slices_Clone_Lint_int_ok out hrd1 hc hr) ?_
  rintro _ w ⟨p_2,c_2,rfl,hc⟩
  refine ⟨_,rfl,fun a hf => ?_⟩
  replace hc := hth1 _ _ hc
  refine sp 1 hf rfl fun a hf => zT h ?_
  refine zS fun K h => sp 1 hf rfl fun a hf => ?_
  obtain ⟨r_1,hr_1,hF⟩ := bnd_some hF
  refine zC hf en_161 rfl (slices_Sort_Lint_int_ok r (hc.pick k1) hr_1) ?_
  rintro _ w ⟨rfl,hl,hc⟩
  refine ⟨_,rfl,fun a hf => ?_⟩
  try rw [← hl] at hf
  try rw [← hl] at hc
  refine zT h ?_
  refine zS fun K h => sp 1 hf rfl fun a hf => ?_
  obtain ⟨r_2,hr_2,hF⟩ := bnd_some hF
  refine zC hf en_162 rfl (slices_Compact_Lint_int_ok r_1 (hc.pick k0) hr_2) ?_
  rintro _ w ⟨p_3,c_3,rfl,hc⟩
  refine ⟨_,rfl,fun a hf => ?_⟩
  refine sp 1 hf rfl fun a hf => zT h ?_
  refine wp_ret ?_
  obtain rfl := sj hF
  replace hc := hc.drop k1
  exact zO1 Tryz.results95 hf rfl ⟨p_3,c_3,rfl,hc⟩
 have ho5 : ∀ r,x5 = .out r → r = res := by
  rintro r rfl
  exact sj hF
 replace hc := hc.drop k1
 refine cLoop N (loopW (S := S5) (x := x5) ?_ N (([0] : List Int),0) _ _ ⟨(some ⟨b_2,0,none⟩),1,hf.kp rfl,hc⟩ hx5)
 clear hF hf hc
 rintro ⟨out,x⟩ st5 a w KB5 ⟨p_1,c_1,hf,hc⟩ hF hfin5 hK5
 unfold crew_Cable_starts_b5 at hF
 refine zS fun K h => sp 1 hf rfl fun a hf => zT h ?_
 refine wp_seq_k fun K10 h10 => zI hf rfl hF ?_ ?_ <;> clear hF <;> intro hF
 ·refine wp_skip ?_
  refine h10 _ _ ?_
  refine wp_seq_k fun K11 h11 => wp_block ?_
  refine zS fun K h => ?_
  obtain ⟨e_1,he_1,hF⟩ := bnd_some hF
  obtain ⟨b_3,o,qa,qp⟩ := h_c__Rides.atm he_1
  refine zP hf rfl (pIA Tryz.underlying52 sz_72 rfl rfl qa) fun a hf => zE hf hc rfl (eLdN (vs := [i6 e_1.From,i6 e_1.Long,i6 e_1.Weight.Lo,i6 e_1.Weight.Hi]) ag_72 rfl rfl (cells_pc qp (n := 4) (o' := 0) rfl)) fun a w hf hc => zA hf hc zr_72 rfl fun b_4 a w hf hc => zW hf hc sz_72 u0 rfl fun w hc => zT h ?_
  refine cReg ?_
  refine sp 1 hf rfl fun a hf => zP hf rfl (pFA fa_72_0 rfl) fun a hf => zL hf hc sc_3 m0 rfl fun a w hf hc => stBS (rows := ([e_1.From] : List Int).map encI_i64) (vs := [(0,i6 e_1.From)]) hf hc rfl rfl sl_25 rfl ⟨rfl,rfl,rfl,trivial⟩ rfl rfl fun b_5 a w hf hc => ?_
  obtain ⟨un,hun,hF⟩ := bnd_some hF
  refine stApm (xs := out) (ys := ([e_1.From] : List Int)) hf hc rfl rfl sl_25 rfl rfl rfl rfl rfl one_encI_i64 (src_row hc m0) (fun _ _ => u2) (by simpa using room_spec hun) fun p_4 c_4 a w hf hc => sp 1 hf rfl fun a hf => cNil ?_
  refine h11 _ _ ?_
  refine cReg ?_
  refine sp 2 hf rfl fun a hf => cNil ?_
  replace hc := (hc.drop k1).drop k0
  exact hK5 ((out ++ [e_1.From]),W (x + 1)) _ _ (sj hF).symm ⟨p_4,c_4,hf.kp rfl,hc⟩
 ·refine wp_exit ?_
  refine xThen ?_
  refine xThen ?_
  have he := sj hF
  rw [← he] at hfin5
  refine cHit ?_
  exact hr5 _ _ _ hfin5 ⟨p_1,c_1,hf.kp rfl,hc⟩

def crew_Cable_beyond (c_ : crew_Cable) (load : Int) : Bool :=
 (decide ((W (c_.Most * c_.Sag)) < (W ((W (load * c_.Wide)) * 25))))
theorem crew_Cable_beyond_ok {G : Pers} {Lf : List Ent} {w : World} (c_ : crew_Cable) (load : Int) {c__Rides_p : Option Addr} {c__Rides_c : Nat} (h_c__Rides : Rd G 4 c__Rides_p c__Rides_c (c_.Rides.map enc_crew_Ride)) (hc : Ctx G (Lf) w) {res : Bool} (hF : crew_Cable_beyond c_ load = res) : Calls Tryz.prog 99 #[.agg #[i6 c_.Car,i6 c_.Wide,i6 c_.Sag,i6 c_.Most,.slice c__Rides_p c_.Rides.length c__Rides_c],i6 load] w (fun e w => e = .returned (.bool res) ∧ Ctx G (Lf) w) := by
 unfold crew_Cable_beyond at hF
 refine fnIn Tryz.func99 rfl Tryz.ntmps99 rfl fun a hf => zS fun K h => zB hf hc rfl fun b_1 a w hf hc => sp 1 hf rfl fun a hf => zT h ?_
 refine zS fun K h => sp 1 hf rfl fun a hf => zP hf rfl (pFA fa_54_1 rfl) fun a hf => zL hf hc sc_3 m0 rfl fun a w hf hc => sp 2 hf rfl fun a hf => zP hf rfl (pFA fa_54_3 rfl) fun a hf => zL hf hc sc_3 m0 rfl fun a w hf hc => zP hf rfl (pFA fa_54_2 rfl) fun a hf => zL hf hc sc_3 m0 rfl fun a w hf hc => sp 3 hf rfl fun a hf => zT h ?_
 refine wp_ret ?_
 obtain rfl := hF
 replace hc := hc.drop k0
 exact zO1 Tryz.results99 hf rfl ⟨rfl,hc⟩

def crew_Beyond_1_1 (N : Nat) (n : Int) (x : crew_Cable) : Option (Bool) :=
 Option.bind (crew_Cable_load_s2 N (⟨x.Car,x.Wide,x.Sag,x.Most,x.Rides⟩ : crew_Cable) n) fun r =>
 some (crew_Cable_beyond (⟨x.Car,x.Wide,x.Sag,x.Most,x.Rides⟩ : crew_Cable) r)
theorem crew_Beyond_1_1_ok {N : Nat} {G : Pers} {Lf : List Ent} {w : World} (n : Int) (x : crew_Cable) {b_ : Nat} {x_Rides_p : Option Addr} {x_Rides_c : Nat} {b__1 : Nat} (h_x_Rides : Rd G 4 x_Rides_p x_Rides_c (x.Rides.map enc_crew_Ride)) (hc : Ctx G (.box b_ [i6 x.Car,i6 x.Wide,i6 x.Sag,i6 x.Most,.slice x_Rides_p x.Rides.length x_Rides_c] 54::.box b__1 [.func (.func 156) #[] #[]] 147::Lf) w) {res : Bool} (hF : crew_Beyond_1_1 N n x = some res) : Calls Tryz.prog 98 #[i6 n,pq b_,pq b__1] w (fun e w => e = .returned (.bool res) ∧ Ctx G (.box b_ [i6 x.Car,i6 x.Wide,i6 x.Sag,i6 x.Most,.slice x_Rides_p x.Rides.length x_Rides_c] 54::.box b__1 [.func (.func 156) #[] #[]] 147::Lf) w) := by
 unfold crew_Beyond_1_1 at hF
 refine fnIn Tryz.func98 rfl Tryz.ntmps98 rfl fun a hf => zS fun K h => sp 1 hf rfl fun a hf => zT h ?_
 refine wp_seq_k fun K2 h2 => ?_
 obtain ⟨r,hr,hF⟩ := bnd_some hF
 refine cQ hc follows_mx (by kernel_rfl) ?_
 refine qE hf rfl rfl rfl (eLdN (vs := [i6 x.Car,i6 x.Wide,i6 x.Sag,i6 x.Most,.slice x_Rides_p x.Rides.length x_Rides_c]) ag_54 rfl rfl (cells_box (n := 5) m0 rfl)) fun a hf => qE hf rfl rfl rfl (eLdN (vs := [i6 x.Car,i6 x.Wide,i6 x.Sag,i6 x.Most,.slice x_Rides_p x.Rides.length x_Rides_c]) ag_54 rfl rfl (cells_box (n := 5) m0 rfl)) fun a hf => qE hf rfl rfl rfl (Pu.ev (pM rfl)) fun a hf => qE hf rfl rfl rfl (eLdN (vs := [.func (.func 156) #[] #[]]) ag_147 rfl rfl (cells_box (n := 1) m1 rfl)) fun a hf => qE hf rfl rfl rfl (eC (v := i6 r) (vs := [.agg #[i6 x.Car,i6 x.Wide,i6 x.Sag,i6 x.Most,.slice x_Rides_p x.Rides.length x_Rides_c],i6 n,.agg #[.func (.func 156) #[] #[]]]) (caps := []) en_93 rfl rfl rfl rfl (fun w hc => crew_Cable_load_s2_ok (⟨x.Car,x.Wide,x.Sag,x.Most,x.Rides⟩ : crew_Cable) n h_x_Rides hc hr)) fun a hf => qE hf rfl rfl rfl (eC (v := .bool (crew_Cable_beyond (⟨x.Car,x.Wide,x.Sag,x.Most,x.Rides⟩ : crew_Cable) r)) (vs := [.agg #[i6 x.Car,i6 x.Wide,i6 x.Sag,i6 x.Most,.slice x_Rides_p x.Rides.length x_Rides_c],i6 r]) (caps := []) en_99 rfl rfl rfl rfl (fun w hc => crew_Cable_beyond_ok (⟨x.Car,x.Wide,x.Sag,x.Most,x.Rides⟩ : crew_Cable) r h_x_Rides hc rfl)) fun a hf => qE hf rfl rfl rfl (Pu.ev (pA rfl)) fun a hf => ?_
 intro w hc
 refine h2 _ _ ?_
 refine wp_ret ?_
 obtain rfl := sj hF
 exact zO1 Tryz.results98 hf rfl ⟨rfl,hc⟩

def slices_IndexFunc_Lint_int_s6_b4 (N : Nat) (s_ : List Int) (f_ : crew_Cable) (x : Int) : Option (Step (Int) (Int)) :=
 cond (decide (x < ((s_.length : Nat) : Int)))
 (Option.bind (getI s_ x) fun e_1 =>
 Option.bind (crew_Beyond_1_1 N e_1 f_) fun r =>
 cond r
 (some (.ret x))
 (some (.cont (W (x + 1)))))
 (some (.brk x))
def slices_IndexFunc_Lint_int_s6 (N : Nat) (s_ : List Int) (f_ : crew_Cable) : Option (Int) :=
 Option.bind (loopO (fun s4 => slices_IndexFunc_Lint_int_s6_b4 N s_ f_ s4) N 0) fun x4 =>
 exK x4 (fun s4 => some (-1)) some
theorem slices_IndexFunc_Lint_int_s6_ok {N : Nat} {G : Pers} {Lf : List Ent} {w : World} (s_ : List Int) (f_ : crew_Cable) {s__p : Option Addr} {s__c : Nat} {b_ : Nat} {f__Rides_p : Option Addr} {f__Rides_c : Nat} {b__1 : Nat} (h_s_ : Rd G 1 s__p s__c (s_.map encI_i64)) (h_f__Rides : Rd G 4 f__Rides_p f__Rides_c (f_.Rides.map enc_crew_Ride)) (hc : Ctx G (.box b_ [i6 f_.Car,i6 f_.Wide,i6 f_.Sag,i6 f_.Most,.slice f__Rides_p f_.Rides.length f__Rides_c] 54::.box b__1 [.func (.func 156) #[] #[]] 147::Lf) w) {res : Int} (hF : slices_IndexFunc_Lint_int_s6 N s_ f_ = some res) : Calls Tryz.prog 97 #[.slice s__p s_.length s__c,.func (.func 98) #[] #[pq b_,pq b__1]] w (fun e w => e = .returned (i6 res) ∧ Ctx G (.box b_ [i6 f_.Car,i6 f_.Wide,i6 f_.Sag,i6 f_.Most,.slice f__Rides_p f_.Rides.length f__Rides_c] 54::.box b__1 [.func (.func 156) #[] #[]] 147::Lf) w) := by
 unfold slices_IndexFunc_Lint_int_s6 at hF
 refine fnIn Tryz.func97 rfl Tryz.ntmps97 rfl fun a hf => zS fun K h => sp 1 hf rfl fun a hf => zT h ?_
 refine wp_seq_k fun K2 h2 => zS fun K h => sp 1 hf rfl fun a hf => zP hf rfl (pLenS Tryz.underlying25 rfl) fun a hf => sp 1 hf rfl fun a hf => zT h ?_
 refine wp_block ?_
 obtain ⟨x4,hx4,hF⟩ := bnd_some hF
 let S4 : Int → Act → World → Prop := (fun (zz : Int) a w => Has 19 a [(0,.slice s__p s_.length s__c),(1,.func (.func 98) #[] #[pq b_,pq b__1]),(7,i6 ((s_.length : Nat) : Int)),(8,i6 zz)] ∧ Ctx G (.box b_ [i6 f_.Car,i6 f_.Wide,i6 f_.Sag,i6 f_.Most,.slice f__Rides_p f_.Rides.length f__Rides_c] 54::.box b__1 [.func (.func 156) #[] #[]] 147::Lf) w)
 have hr4 : ∀ (zz : Int) a w,x4 = .go zz → S4 zz a w → K2 a w := by
  rintro x a w rfl ⟨hf,hc⟩
  replace hF := exK_go hF
  refine h2 _ _ ?_
  refine zS fun K h => sp 1 hf rfl fun a hf => zT h ?_
  refine wp_ret ?_
  obtain rfl := sj hF
  exact zO1 Tryz.results97 hf rfl ⟨rfl,hc⟩
 have ho4 : ∀ r,x4 = .out r → r = res := by
  rintro r rfl
  exact sj hF
 refine cLoop N (loopW (S := S4) (x := x4) ?_ N 0 _ _ ⟨hf.kp rfl,hc⟩ hx4)
 clear hF hf hc
 rintro x st4 a w KB4 ⟨hf,hc⟩ hF hfin4 hK4
 unfold slices_IndexFunc_Lint_int_s6_b4 at hF
 refine zS fun K h => sp 1 hf rfl fun a hf => zT h ?_
 refine wp_seq_k fun K7 h7 => zI hf rfl hF ?_ ?_ <;> clear hF <;> intro hF
 ·refine wp_skip ?_
  refine h7 _ _ ?_
  refine wp_seq_k fun K8 h8 => wp_block ?_
  refine zS fun K h => sp 2 hf rfl fun a hf => zT h ?_
  refine zS fun K h => sp 3 hf rfl fun a hf => ?_
  obtain ⟨e_1,he_1,hF⟩ := bnd_some hF
  obtain ⟨b_1,o,qa,qp⟩ := h_s_.atm he_1
  refine zP hf rfl (pIA Tryz.underlying25 sz_3 rfl rfl qa) fun a hf => zE hf hc rfl (eLd1 sc_3 rfl (cell_pc (j := 0) qp rfl)) fun a w hf hc => ?_
  obtain ⟨r,hr,hF⟩ := bnd_some hF
  refine zQ (v := .bool r) hf hc en_98 rfl (fun w hc => (crew_Beyond_1_1_ok e_1 f_ h_f__Rides ((hc.pick k1).pick k1) hr).mono fun e w h => ⟨h.1,((h.2.unpick k1).unpick k1)⟩) fun a w hf hc => zT h ?_
  refine zI hf rfl hF ?_ ?_ <;> clear hF <;> intro hF
  ·refine zS fun K h => sp 2 hf rfl fun a hf => zT h ?_
   refine wp_ret ?_
   refine xBlkR ?_
   refine xThenR ?_
   refine xThenR ?_
   have he := sj hF
   rw [← he] at hfin4
   replace hF := ho4 _ hfin4
   refine xBlkR ?_
   refine xThenR ?_
   obtain rfl := hF
   exact zO1 Tryz.results97 hf rfl ⟨rfl,hc⟩
  ·refine wp_skip ?_
   refine h8 _ _ ?_
   refine cReg ?_
   refine sp 2 hf rfl fun a hf => cNil ?_
   exact hK4 (W (x + 1)) _ _ (sj hF).symm ⟨hf.kp rfl,hc⟩
 ·refine wp_exit ?_
  refine xThen ?_
  refine xThen ?_
  have he := sj hF
  rw [← he] at hfin4
  refine cHit ?_
  exact hr4 _ _ _ hfin4 ⟨hf.kp rfl,hc⟩

def crew_Beyond_1 (N : Nat) (x : List Int) (x_1 : crew_Cable) : Option (Int) :=
 Option.bind (slices_IndexFunc_Lint_int_s6 N x x_1) fun r =>
 cond (r == (-1))
 (some (-1))
 (Option.bind (getI x r) fun e_1 =>
 some e_1)
theorem crew_Beyond_1_ok {N : Nat} {G : Pers} {Lf : List Ent} {w : World} (x : List Int) (x_1 : crew_Cable) {b_ : Nat} {x_p : Option Addr} {x_c : Nat} {b__1 : Nat} {x_1_Rides_p : Option Addr} {x_1_Rides_c : Nat} (h_x : Rd G 1 x_p x_c (x.map encI_i64)) (h_x_1_Rides : Rd G 4 x_1_Rides_p x_1_Rides_c (x_1.Rides.map enc_crew_Ride)) (hc : Ctx G (.box b_ [.slice x_p x.length x_c] 25::.box b__1 [i6 x_1.Car,i6 x_1.Wide,i6 x_1.Sag,i6 x_1.Most,.slice x_1_Rides_p x_1.Rides.length x_1_Rides_c] 54::Lf) w) {res : Int} (hF : crew_Beyond_1 N x x_1 = some res) : Calls Tryz.prog 96 #[.agg #[.func (.func 156) #[] #[]],pq b_,pq b__1] w (fun e w => e = .returned (i6 res) ∧ Ctx G (.box b_ [.slice x_p x.length x_c] 25::.box b__1 [i6 x_1.Car,i6 x_1.Wide,i6 x_1.Sag,i6 x_1.Most,.slice x_1_Rides_p x_1.Rides.length x_1_Rides_c] 54::Lf) w) := by
 unfold crew_Beyond_1 at hF
 refine fnIn Tryz.func96 rfl Tryz.ntmps96 rfl fun a hf => zS fun K h => zB hf hc rfl fun b_1 a w hf hc => sp 1 hf rfl fun a hf => zT h ?_
 refine zS fun K h => zL hf hc sc_25 m1 rfl fun a w hf hc => zP hf rfl (pMF (us := [pq b__1,pq b_1]) rfl rfl) fun a hf => ?_
 obtain ⟨r,hr,hF⟩ := bnd_some hF
 refine zQ (v := i6 r) hf hc en_97 rfl (fun w hc => (slices_IndexFunc_Lint_int_s6_ok x x_1 h_x h_x_1_Rides ((hc.pick k0).pick k2) hr).mono fun e w h => ⟨h.1,((h.2.unpick k2).unpick k0)⟩) fun a w hf hc => sp 1 hf rfl fun a hf => zT h ?_
 refine wp_seq_k fun K3 h3 => zS fun K h => sp 2 hf rfl fun a hf => zT h ?_
 refine zI hf rfl hF ?_ ?_ <;> clear hF <;> intro hF
 ·refine zS fun K h => sp 1 hf rfl fun a hf => zT h ?_
  refine wp_ret ?_
  refine xThenR ?_
  obtain rfl := sj hF
  replace hc := hc.drop k0
  exact zO1 Tryz.results96 hf rfl ⟨rfl,hc⟩
 ·refine wp_skip ?_
  refine h3 _ _ ?_
  refine zS fun K h => zL hf hc sc_25 m1 rfl fun a w hf hc => sp 1 hf rfl fun a hf => ?_
  obtain ⟨e_1,he_1,hF⟩ := bnd_some hF
  obtain ⟨b_2,o,qa,qp⟩ := h_x.atm he_1
  refine zP hf rfl (pIA Tryz.underlying25 sz_3 rfl rfl qa) fun a hf => zE hf hc rfl (eLd1 sc_3 rfl (cell_pc (j := 0) qp rfl)) fun a w hf hc => sp 1 hf rfl fun a hf => zT h ?_
  refine wp_ret ?_
  obtain rfl := sj hF
  replace hc := hc.drop k0
  exact zO1 Tryz.results96 hf rfl ⟨rfl,hc⟩

def crew_Beyond_1_1_s2 (N : Nat) (n : Int) (x : crew_Cable) : Option (Bool) :=
 Option.bind (crew_Cable_load N (⟨x.Car,x.Wide,x.Sag,x.Most,x.Rides⟩ : crew_Cable) n) fun r =>
 some (crew_Cable_beyond (⟨x.Car,x.Wide,x.Sag,x.Most,x.Rides⟩ : crew_Cable) r)
theorem crew_Beyond_1_1_s2_ok {N : Nat} {G : Pers} {Lf : List Ent} {w : World} (n : Int) (x : crew_Cable) {b_ : Nat} {x_Rides_p : Option Addr} {x_Rides_c : Nat} {b__1 : Nat} (h_x_Rides : Rd G 4 x_Rides_p x_Rides_c (x.Rides.map enc_crew_Ride)) (hc : Ctx G (.box b_ [i6 x.Car,i6 x.Wide,i6 x.Sag,i6 x.Most,.slice x_Rides_p x.Rides.length x_Rides_c] 54::.box b__1 [.func (.func 155) #[] #[]] 147::Lf) w) {res : Bool} (hF : crew_Beyond_1_1_s2 N n x = some res) : Calls Tryz.prog 98 #[i6 n,pq b_,pq b__1] w (fun e w => e = .returned (.bool res) ∧ Ctx G (.box b_ [i6 x.Car,i6 x.Wide,i6 x.Sag,i6 x.Most,.slice x_Rides_p x.Rides.length x_Rides_c] 54::.box b__1 [.func (.func 155) #[] #[]] 147::Lf) w) := by
 unfold crew_Beyond_1_1_s2 at hF
 refine fnIn Tryz.func98 rfl Tryz.ntmps98 rfl fun a hf => zS fun K h => sp 1 hf rfl fun a hf => zT h ?_
 refine wp_seq_k fun K2 h2 => ?_
 obtain ⟨r,hr,hF⟩ := bnd_some hF
 refine cQ hc follows_mx (by kernel_rfl) ?_
 refine qE hf rfl rfl rfl (eLdN (vs := [i6 x.Car,i6 x.Wide,i6 x.Sag,i6 x.Most,.slice x_Rides_p x.Rides.length x_Rides_c]) ag_54 rfl rfl (cells_box (n := 5) m0 rfl)) fun a hf => qE hf rfl rfl rfl (eLdN (vs := [i6 x.Car,i6 x.Wide,i6 x.Sag,i6 x.Most,.slice x_Rides_p x.Rides.length x_Rides_c]) ag_54 rfl rfl (cells_box (n := 5) m0 rfl)) fun a hf => qE hf rfl rfl rfl (Pu.ev (pM rfl)) fun a hf => qE hf rfl rfl rfl (eLdN (vs := [.func (.func 155) #[] #[]]) ag_147 rfl rfl (cells_box (n := 1) m1 rfl)) fun a hf => qE hf rfl rfl rfl (eC (v := i6 r) (vs := [.agg #[i6 x.Car,i6 x.Wide,i6 x.Sag,i6 x.Most,.slice x_Rides_p x.Rides.length x_Rides_c],i6 n,.agg #[.func (.func 155) #[] #[]]]) (caps := []) en_93 rfl rfl rfl rfl (fun w hc => crew_Cable_load_ok (⟨x.Car,x.Wide,x.Sag,x.Most,x.Rides⟩ : crew_Cable) n h_x_Rides hc hr)) fun a hf => qE hf rfl rfl rfl (eC (v := .bool (crew_Cable_beyond (⟨x.Car,x.Wide,x.Sag,x.Most,x.Rides⟩ : crew_Cable) r)) (vs := [.agg #[i6 x.Car,i6 x.Wide,i6 x.Sag,i6 x.Most,.slice x_Rides_p x.Rides.length x_Rides_c],i6 r]) (caps := []) en_99 rfl rfl rfl rfl (fun w hc => crew_Cable_beyond_ok (⟨x.Car,x.Wide,x.Sag,x.Most,x.Rides⟩ : crew_Cable) r h_x_Rides hc rfl)) fun a hf => qE hf rfl rfl rfl (Pu.ev (pA rfl)) fun a hf => ?_
 intro w hc
 refine h2 _ _ ?_
 refine wp_ret ?_
 obtain rfl := sj hF
 exact zO1 Tryz.results98 hf rfl ⟨rfl,hc⟩

def slices_IndexFunc_Lint_int_s7_b4 (N : Nat) (s_ : List Int) (f_ : crew_Cable) (x : Int) : Option (Step (Int) (Int)) :=
 cond (decide (x < ((s_.length : Nat) : Int)))
 (Option.bind (getI s_ x) fun e_1 =>
 Option.bind (crew_Beyond_1_1_s2 N e_1 f_) fun r =>
 cond r
 (some (.ret x))
 (some (.cont (W (x + 1)))))
 (some (.brk x))
def slices_IndexFunc_Lint_int_s7 (N : Nat) (s_ : List Int) (f_ : crew_Cable) : Option (Int) :=
 Option.bind (loopO (fun s4 => slices_IndexFunc_Lint_int_s7_b4 N s_ f_ s4) N 0) fun x4 =>
 exK x4 (fun s4 => some (-1)) some
theorem slices_IndexFunc_Lint_int_s7_ok {N : Nat} {G : Pers} {Lf : List Ent} {w : World} (s_ : List Int) (f_ : crew_Cable) {s__p : Option Addr} {s__c : Nat} {b_ : Nat} {f__Rides_p : Option Addr} {f__Rides_c : Nat} {b__1 : Nat} (h_s_ : Rd G 1 s__p s__c (s_.map encI_i64)) (h_f__Rides : Rd G 4 f__Rides_p f__Rides_c (f_.Rides.map enc_crew_Ride)) (hc : Ctx G (.box b_ [i6 f_.Car,i6 f_.Wide,i6 f_.Sag,i6 f_.Most,.slice f__Rides_p f_.Rides.length f__Rides_c] 54::.box b__1 [.func (.func 155) #[] #[]] 147::Lf) w) {res : Int} (hF : slices_IndexFunc_Lint_int_s7 N s_ f_ = some res) : Calls Tryz.prog 97 #[.slice s__p s_.length s__c,.func (.func 98) #[] #[pq b_,pq b__1]] w (fun e w => e = .returned (i6 res) ∧ Ctx G (.box b_ [i6 f_.Car,i6 f_.Wide,i6 f_.Sag,i6 f_.Most,.slice f__Rides_p f_.Rides.length f__Rides_c] 54::.box b__1 [.func (.func 155) #[] #[]] 147::Lf) w) := by
 unfold slices_IndexFunc_Lint_int_s7 at hF
 refine fnIn Tryz.func97 rfl Tryz.ntmps97 rfl fun a hf => zS fun K h => sp 1 hf rfl fun a hf => zT h ?_
 refine wp_seq_k fun K2 h2 => zS fun K h => sp 1 hf rfl fun a hf => zP hf rfl (pLenS Tryz.underlying25 rfl) fun a hf => sp 1 hf rfl fun a hf => zT h ?_
 refine wp_block ?_
 obtain ⟨x4,hx4,hF⟩ := bnd_some hF
 let S4 : Int → Act → World → Prop := (fun (zz : Int) a w => Has 19 a [(0,.slice s__p s_.length s__c),(1,.func (.func 98) #[] #[pq b_,pq b__1]),(7,i6 ((s_.length : Nat) : Int)),(8,i6 zz)] ∧ Ctx G (.box b_ [i6 f_.Car,i6 f_.Wide,i6 f_.Sag,i6 f_.Most,.slice f__Rides_p f_.Rides.length f__Rides_c] 54::.box b__1 [.func (.func 155) #[] #[]] 147::Lf) w)
 have hr4 : ∀ (zz : Int) a w,x4 = .go zz → S4 zz a w → K2 a w := by
  rintro x a w rfl ⟨hf,hc⟩
  replace hF := exK_go hF
  refine h2 _ _ ?_
  refine zS fun K h => sp 1 hf rfl fun a hf => zT h ?_
  refine wp_ret ?_
  obtain rfl := sj hF
  exact zO1 Tryz.results97 hf rfl ⟨rfl,hc⟩
 have ho4 : ∀ r,x4 = .out r → r = res := by
  rintro r rfl
  exact sj hF
 refine cLoop N (loopW (S := S4) (x := x4) ?_ N 0 _ _ ⟨hf.kp rfl,hc⟩ hx4)
 clear hF hf hc
 rintro x st4 a w KB4 ⟨hf,hc⟩ hF hfin4 hK4
 unfold slices_IndexFunc_Lint_int_s7_b4 at hF
 refine zS fun K h => sp 1 hf rfl fun a hf => zT h ?_
 refine wp_seq_k fun K7 h7 => zI hf rfl hF ?_ ?_ <;> clear hF <;> intro hF
 ·refine wp_skip ?_
  refine h7 _ _ ?_
  refine wp_seq_k fun K8 h8 => wp_block ?_
  refine zS fun K h => sp 2 hf rfl fun a hf => zT h ?_
  refine zS fun K h => sp 3 hf rfl fun a hf => ?_
  obtain ⟨e_1,he_1,hF⟩ := bnd_some hF
  obtain ⟨b_1,o,qa,qp⟩ := h_s_.atm he_1
  refine zP hf rfl (pIA Tryz.underlying25 sz_3 rfl rfl qa) fun a hf => zE hf hc rfl (eLd1 sc_3 rfl (cell_pc (j := 0) qp rfl)) fun a w hf hc => ?_
  obtain ⟨r,hr,hF⟩ := bnd_some hF
  refine zQ (v := .bool r) hf hc en_98 rfl (fun w hc => (crew_Beyond_1_1_s2_ok e_1 f_ h_f__Rides ((hc.pick k1).pick k1) hr).mono fun e w h => ⟨h.1,((h.2.unpick k1).unpick k1)⟩) fun a w hf hc => zT h ?_
  refine zI hf rfl hF ?_ ?_ <;> clear hF <;> intro hF
  ·refine zS fun K h => sp 2 hf rfl fun a hf => zT h ?_
   refine wp_ret ?_
   refine xBlkR ?_
   refine xThenR ?_
   refine xThenR ?_
   have he := sj hF
   rw [← he] at hfin4
   replace hF := ho4 _ hfin4
   refine xBlkR ?_
   refine xThenR ?_
   obtain rfl := hF
   exact zO1 Tryz.results97 hf rfl ⟨rfl,hc⟩
  ·refine wp_skip ?_
   refine h8 _ _ ?_
   refine cReg ?_
   refine sp 2 hf rfl fun a hf => cNil ?_
   exact hK4 (W (x + 1)) _ _ (sj hF).symm ⟨hf.kp rfl,hc⟩
 ·refine wp_exit ?_
  refine xThen ?_
  refine xThen ?_
  have he := sj hF
  rw [← he] at hfin4
  refine cHit ?_
  exact hr4 _ _ _ hfin4 ⟨hf.kp rfl,hc⟩

def crew_Beyond_1_s2 (N : Nat) (x : List Int) (x_1 : crew_Cable) : Option (Int) :=
 Option.bind (slices_IndexFunc_Lint_int_s7 N x x_1) fun r =>
 cond (r == (-1))
 (some (-1))
 (Option.bind (getI x r) fun e_1 =>
 some e_1)
theorem crew_Beyond_1_s2_ok {N : Nat} {G : Pers} {Lf : List Ent} {w : World} (x : List Int) (x_1 : crew_Cable) {b_ : Nat} {x_p : Option Addr} {x_c : Nat} {b__1 : Nat} {x_1_Rides_p : Option Addr} {x_1_Rides_c : Nat} (h_x : Rd G 1 x_p x_c (x.map encI_i64)) (h_x_1_Rides : Rd G 4 x_1_Rides_p x_1_Rides_c (x_1.Rides.map enc_crew_Ride)) (hc : Ctx G (.box b_ [.slice x_p x.length x_c] 25::.box b__1 [i6 x_1.Car,i6 x_1.Wide,i6 x_1.Sag,i6 x_1.Most,.slice x_1_Rides_p x_1.Rides.length x_1_Rides_c] 54::Lf) w) {res : Int} (hF : crew_Beyond_1_s2 N x x_1 = some res) : Calls Tryz.prog 96 #[.agg #[.func (.func 155) #[] #[]],pq b_,pq b__1] w (fun e w => e = .returned (i6 res) ∧ Ctx G (.box b_ [.slice x_p x.length x_c] 25::.box b__1 [i6 x_1.Car,i6 x_1.Wide,i6 x_1.Sag,i6 x_1.Most,.slice x_1_Rides_p x_1.Rides.length x_1_Rides_c] 54::Lf) w) := by
 unfold crew_Beyond_1_s2 at hF
 refine fnIn Tryz.func96 rfl Tryz.ntmps96 rfl fun a hf => zS fun K h => zB hf hc rfl fun b_1 a w hf hc => sp 1 hf rfl fun a hf => zT h ?_
 refine zS fun K h => zL hf hc sc_25 m1 rfl fun a w hf hc => zP hf rfl (pMF (us := [pq b__1,pq b_1]) rfl rfl) fun a hf => ?_
 obtain ⟨r,hr,hF⟩ := bnd_some hF
 refine zQ (v := i6 r) hf hc en_97 rfl (fun w hc => (slices_IndexFunc_Lint_int_s7_ok x x_1 h_x h_x_1_Rides ((hc.pick k0).pick k2) hr).mono fun e w h => ⟨h.1,((h.2.unpick k2).unpick k0)⟩) fun a w hf hc => sp 1 hf rfl fun a hf => zT h ?_
 refine wp_seq_k fun K3 h3 => zS fun K h => sp 2 hf rfl fun a hf => zT h ?_
 refine zI hf rfl hF ?_ ?_ <;> clear hF <;> intro hF
 ·refine zS fun K h => sp 1 hf rfl fun a hf => zT h ?_
  refine wp_ret ?_
  refine xThenR ?_
  obtain rfl := sj hF
  replace hc := hc.drop k0
  exact zO1 Tryz.results96 hf rfl ⟨rfl,hc⟩
 ·refine wp_skip ?_
  refine h3 _ _ ?_
  refine zS fun K h => zL hf hc sc_25 m1 rfl fun a w hf hc => sp 1 hf rfl fun a hf => ?_
  obtain ⟨e_1,he_1,hF⟩ := bnd_some hF
  obtain ⟨b_2,o,qa,qp⟩ := h_x.atm he_1
  refine zP hf rfl (pIA Tryz.underlying25 sz_3 rfl rfl qa) fun a hf => zE hf hc rfl (eLd1 sc_3 rfl (cell_pc (j := 0) qp rfl)) fun a w hf hc => sp 1 hf rfl fun a hf => zT h ?_
  refine wp_ret ?_
  obtain rfl := sj hF
  replace hc := hc.drop k0
  exact zO1 Tryz.results96 hf rfl ⟨rfl,hc⟩

def crew_Beyond (N : Nat) (c_ : crew_Cable) : Option (Int × Int × Int) :=
 Option.bind (crew_CheckCable N c_) fun r =>
 cond (r != 0)
 (some (0,0,r))
 (Option.bind (crew_Cable_starts N c_) fun r_1 =>
 Option.bind (crew_Beyond_1 N r_1 c_) fun r_2 =>
 Option.bind (crew_Beyond_1_s2 N r_1 c_) fun r_3 =>
 some (r_2,r_3,0))
theorem crew_Beyond_ok {N : Nat} {G : Pers} {Lf : List Ent} {w : World} (c_ : crew_Cable) {c__Rides_p : Option Addr} {c__Rides_c : Nat} (h_c__Rides : Rd G 4 c__Rides_p c__Rides_c (c_.Rides.map enc_crew_Ride)) (hc : Ctx G (Lf) w) {res : Int × Int × Int} (hF : crew_Beyond N c_ = some res) : Calls Tryz.prog 36 #[.agg #[i6 c_.Car,i6 c_.Wide,i6 c_.Sag,i6 c_.Most,.slice c__Rides_p c_.Rides.length c__Rides_c]] w (fun e w => e = .returned (.tuple #[i6 res.1,i6 res.2.1,i6 res.2.2]) ∧ Ctx G (Lf) w) := by
 unfold crew_Beyond at hF
 refine fnIn Tryz.func36 rfl Tryz.ntmps36 rfl fun a hf => zS fun K h => zB hf hc rfl fun b_1 a w hf hc => sp 3 hf rfl fun a hf => zT h ?_
 refine wp_seq_k fun K2 h2 => zS fun K h => zN hf hc ag_54 m0 rfl fun a w hf hc => ?_
 obtain ⟨r,hr,hF⟩ := bnd_some hF
 refine zQ (v := i6 r) hf hc en_31 rfl (fun w hc => crew_CheckCable_ok c_ h_c__Rides hc hr) fun a w hf hc => sp 1 hf rfl fun a hf => zT h ?_
 refine zS fun K h => sp 2 hf rfl fun a hf => zT h ?_
 refine zI hf rfl hF ?_ ?_ <;> clear hF <;> intro hF
 ·refine zS fun K h => sp 4 hf rfl fun a hf => zT h ?_
  refine wp_ret ?_
  refine xThenR ?_
  obtain rfl := sj hF
  replace hc := hc.drop k0
  exact zO3 Tryz.results36 hf rfl rfl rfl ⟨rfl,hc⟩
 ·refine wp_skip ?_
  refine h2 _ _ ?_
  refine zS fun K h => zN hf hc ag_54 m0 rfl fun a w hf hc => ?_
  obtain ⟨r_1,hr_1,hF⟩ := bnd_some hF
  refine zC hf en_95 rfl (crew_Cable_starts_ok c_ h_c__Rides hc hr_1) ?_
  rintro _ w ⟨p_1,c_1,rfl,hc⟩
  refine ⟨_,rfl,fun a hf => ?_⟩
  refine zA hf hc zr_25 rfl fun b_2 a w hf hc => zW hf hc sz_25 u0 rfl fun w hc => zT h ?_
  refine zS fun K h => zP hf rfl (pMF (us := [pq b_2,pq b_1]) rfl rfl) fun a hf => sp 1 hf rfl fun a hf => zT h ?_
  refine zS fun K h => sp 1 hf rfl fun a hf => zQ (v := .agg #[.func (.func 156) #[] #[]]) hf hc en_83 rfl (fun w hc => crew_high_ok hc rfl) fun a w hf hc => ?_
  obtain ⟨r_2,hr_2,hF⟩ := bnd_some hF
  refine zQ (v := i6 r_2) hf hc en_96 rfl (fun w hc => by obtain ⟨G1,hle1,hrd1,hc,hth1⟩ := lend hc k1; exact (crew_Beyond_1_ok r_1 c_ hrd1 (h_c__Rides.mono hle1) ((hc.pick k1).pick k1) hr_2).mono fun e w h => ⟨h.1,((hth1 _ _ ((h.2.unpick k1).unpick k1)).unpick k1)⟩) fun a w hf hc => sp 1 hf rfl fun a hf => zQ (v := .agg #[.func (.func 155) #[] #[]]) hf hc en_82 rfl (fun w hc => crew_low_ok hc rfl) fun a w hf hc => ?_
  obtain ⟨r_3,hr_3,hF⟩ := bnd_some hF
  refine zQ (v := i6 r_3) hf hc en_96 rfl (fun w hc => by obtain ⟨G1,hle1,hrd1,hc,hth1⟩ := lend hc k1; exact (crew_Beyond_1_s2_ok r_1 c_ hrd1 (h_c__Rides.mono hle1) ((hc.pick k1).pick k1) hr_3).mono fun e w h => ⟨h.1,((hth1 _ _ ((h.2.unpick k1).unpick k1)).unpick k1)⟩) fun a w hf hc => sp 3 hf rfl fun a hf => zT h ?_
  refine wp_ret ?_
  obtain rfl := sj hF
  replace hc := ((hc.drop k2).drop k1).drop k0
  exact zO3 Tryz.results36 hf rfl rfl rfl ⟨rfl,hc⟩

def crew_Queue_1 (r : crew_Ride) (x : crew_Cable) : Bool :=
 (!(crew_Cable_beyond (⟨x.Car,x.Wide,x.Sag,x.Most,x.Rides⟩ : crew_Cable) (W (x.Car + r.Weight.Hi))))
theorem crew_Queue_1_ok {G : Pers} {Lf : List Ent} {w : World} (r : crew_Ride) (x : crew_Cable) {b_ : Nat} {x_Rides_p : Option Addr} {x_Rides_c : Nat} (h_x_Rides : Rd G 4 x_Rides_p x_Rides_c (x.Rides.map enc_crew_Ride)) (hc : Ctx G (.box b_ [i6 x.Car,i6 x.Wide,i6 x.Sag,i6 x.Most,.slice x_Rides_p x.Rides.length x_Rides_c] 54::Lf) w) {res : Bool} (hF : crew_Queue_1 r x = res) : Calls Tryz.prog 101 #[.agg #[i6 r.From,i6 r.Long,i6 r.Weight.Lo,i6 r.Weight.Hi],pq b_] w (fun e w => e = .returned (.bool res) ∧ Ctx G (.box b_ [i6 x.Car,i6 x.Wide,i6 x.Sag,i6 x.Most,.slice x_Rides_p x.Rides.length x_Rides_c] 54::Lf) w) := by
 unfold crew_Queue_1 at hF
 refine fnIn Tryz.func101 rfl Tryz.ntmps101 rfl fun a hf => zS fun K h => zB hf hc rfl fun b_1 a w hf hc => sp 1 hf rfl fun a hf => zT h ?_
 refine zS fun K h => zN hf hc ag_54 m1 rfl fun a w hf hc => zP hf rfl (pFA fa_54_0 rfl) fun a hf => zL hf hc sc_3 m1 rfl fun a w hf hc => zP hf rfl (pFA fa_72_2 rfl) fun a hf => zP hf rfl (pFA fa_29_1 rfl) fun a hf => zL hf hc sc_3 m0 rfl fun a w hf hc => sp 1 hf rfl fun a hf => zQ (v := .bool (crew_Cable_beyond (⟨x.Car,x.Wide,x.Sag,x.Most,x.Rides⟩ : crew_Cable) (W (x.Car + r.Weight.Hi)))) hf hc en_99 rfl (fun w hc => crew_Cable_beyond_ok (⟨x.Car,x.Wide,x.Sag,x.Most,x.Rides⟩ : crew_Cable) (W (x.Car + r.Weight.Hi)) h_x_Rides hc rfl) fun a w hf hc => sp 2 hf rfl fun a hf => zT h ?_
 refine wp_ret ?_
 obtain rfl := hF
 replace hc := hc.drop k0
 exact zO1 Tryz.results101 hf rfl ⟨rfl,hc⟩

def crew_every_crew_Ride_1_s2 (x : crew_Ride) (x_1 : crew_Cable) : Bool :=
 (!(crew_Queue_1 (⟨x.From,x.Long,x.Weight⟩ : crew_Ride) x_1))
theorem crew_every_crew_Ride_1_s2_ok {G : Pers} {Lf : List Ent} {w : World} (x : crew_Ride) (x_1 : crew_Cable) {b_ : Nat} {b__1 : Nat} {x_1_Rides_p : Option Addr} {x_1_Rides_c : Nat} (h_x_1_Rides : Rd G 4 x_1_Rides_p x_1_Rides_c (x_1.Rides.map enc_crew_Ride)) (hc : Ctx G (.box b_ [.func (.func 101) #[] #[pq b__1]] 155::.box b__1 [i6 x_1.Car,i6 x_1.Wide,i6 x_1.Sag,i6 x_1.Most,.slice x_1_Rides_p x_1.Rides.length x_1_Rides_c] 54::Lf) w) {res : Bool} (hF : crew_every_crew_Ride_1_s2 x x_1 = res) : Calls Tryz.prog 159 #[.agg #[i6 x.From,i6 x.Long,i6 x.Weight.Lo,i6 x.Weight.Hi],pq b_] w (fun e w => e = .returned (.bool res) ∧ Ctx G (.box b_ [.func (.func 101) #[] #[pq b__1]] 155::.box b__1 [i6 x_1.Car,i6 x_1.Wide,i6 x_1.Sag,i6 x_1.Most,.slice x_1_Rides_p x_1.Rides.length x_1_Rides_c] 54::Lf) w) := by
 unfold crew_every_crew_Ride_1_s2 at hF
 refine fnIn Tryz.func159 rfl Tryz.ntmps159 rfl fun a hf => zS fun K h => zB hf hc rfl fun b_1 a w hf hc => sp 1 hf rfl fun a hf => zT h ?_
 refine zS fun K h => zL hf hc sc_155 m1 rfl fun a w hf hc => zN hf hc ag_72 m0 rfl fun a w hf hc => zQ (v := .bool (crew_Queue_1 (⟨x.From,x.Long,x.Weight⟩ : crew_Ride) x_1)) hf hc en_101 rfl (fun w hc => (crew_Queue_1_ok (⟨x.From,x.Long,x.Weight⟩ : crew_Ride) x_1 h_x_1_Rides (hc.pick k2) rfl).mono fun e w h => ⟨h.1,(h.2.unpick k2)⟩) fun a w hf hc => sp 2 hf rfl fun a hf => zT h ?_
 refine wp_ret ?_
 obtain rfl := hF
 replace hc := hc.drop k0
 exact zO1 Tryz.results159 hf rfl ⟨rfl,hc⟩

def slices_IndexFunc_Lcrew_Ride_crew_Ride_s2_b4 (N : Nat) (s_ : List crew_Ride) (f_ : crew_Cable) (x : Int) : Option (Step (Int) (Int)) :=
 cond (decide (x < ((s_.length : Nat) : Int)))
 (Option.bind (getI s_ x) fun e_1 =>
 cond (crew_every_crew_Ride_1_s2 e_1 f_)
 (some (.ret x))
 (some (.cont (W (x + 1)))))
 (some (.brk x))
def slices_IndexFunc_Lcrew_Ride_crew_Ride_s2 (N : Nat) (s_ : List crew_Ride) (f_ : crew_Cable) : Option (Int) :=
 Option.bind (loopO (fun s4 => slices_IndexFunc_Lcrew_Ride_crew_Ride_s2_b4 N s_ f_ s4) N 0) fun x4 =>
 exK x4 (fun s4 => some (-1)) some
theorem slices_IndexFunc_Lcrew_Ride_crew_Ride_s2_ok {N : Nat} {G : Pers} {Lf : List Ent} {w : World} (s_ : List crew_Ride) (f_ : crew_Cable) {s__p : Option Addr} {s__c : Nat} {b_ : Nat} {b__1 : Nat} {f__Rides_p : Option Addr} {f__Rides_c : Nat} (h_s_ : Rd G 4 s__p s__c (s_.map enc_crew_Ride)) (h_f__Rides : Rd G 4 f__Rides_p f__Rides_c (f_.Rides.map enc_crew_Ride)) (hc : Ctx G (.box b_ [.func (.func 101) #[] #[pq b__1]] 155::.box b__1 [i6 f_.Car,i6 f_.Wide,i6 f_.Sag,i6 f_.Most,.slice f__Rides_p f_.Rides.length f__Rides_c] 54::Lf) w) {res : Int} (hF : slices_IndexFunc_Lcrew_Ride_crew_Ride_s2 N s_ f_ = some res) : Calls Tryz.prog 185 #[.slice s__p s_.length s__c,.func (.func 159) #[] #[pq b_]] w (fun e w => e = .returned (i6 res) ∧ Ctx G (.box b_ [.func (.func 101) #[] #[pq b__1]] 155::.box b__1 [i6 f_.Car,i6 f_.Wide,i6 f_.Sag,i6 f_.Most,.slice f__Rides_p f_.Rides.length f__Rides_c] 54::Lf) w) := by
 unfold slices_IndexFunc_Lcrew_Ride_crew_Ride_s2 at hF
 refine fnIn Tryz.func185 rfl Tryz.ntmps185 rfl fun a hf => zS fun K h => sp 1 hf rfl fun a hf => zT h ?_
 refine wp_seq_k fun K2 h2 => zS fun K h => sp 1 hf rfl fun a hf => zP hf rfl (pLenS Tryz.underlying52 rfl) fun a hf => sp 1 hf rfl fun a hf => zT h ?_
 refine wp_block ?_
 obtain ⟨x4,hx4,hF⟩ := bnd_some hF
 let S4 : Int → Act → World → Prop := (fun (zz : Int) a w => Has 19 a [(0,.slice s__p s_.length s__c),(1,.func (.func 159) #[] #[pq b_]),(7,i6 ((s_.length : Nat) : Int)),(8,i6 zz)] ∧ Ctx G (.box b_ [.func (.func 101) #[] #[pq b__1]] 155::.box b__1 [i6 f_.Car,i6 f_.Wide,i6 f_.Sag,i6 f_.Most,.slice f__Rides_p f_.Rides.length f__Rides_c] 54::Lf) w)
 have hr4 : ∀ (zz : Int) a w,x4 = .go zz → S4 zz a w → K2 a w := by
  rintro x a w rfl ⟨hf,hc⟩
  replace hF := exK_go hF
  refine h2 _ _ ?_
  refine zS fun K h => sp 1 hf rfl fun a hf => zT h ?_
  refine wp_ret ?_
  obtain rfl := sj hF
  exact zO1 Tryz.results185 hf rfl ⟨rfl,hc⟩
 have ho4 : ∀ r,x4 = .out r → r = res := by
  rintro r rfl
  exact sj hF
 refine cLoop N (loopW (S := S4) (x := x4) ?_ N 0 _ _ ⟨hf.kp rfl,hc⟩ hx4)
 clear hF hf hc
 rintro x st4 a w KB4 ⟨hf,hc⟩ hF hfin4 hK4
 unfold slices_IndexFunc_Lcrew_Ride_crew_Ride_s2_b4 at hF
 refine zS fun K h => sp 1 hf rfl fun a hf => zT h ?_
 refine wp_seq_k fun K7 h7 => zI hf rfl hF ?_ ?_ <;> clear hF <;> intro hF
 ·refine wp_skip ?_
  refine h7 _ _ ?_
  refine wp_seq_k fun K8 h8 => wp_block ?_
  refine zS fun K h => sp 2 hf rfl fun a hf => zT h ?_
  refine zS fun K h => sp 3 hf rfl fun a hf => ?_
  obtain ⟨e_1,he_1,hF⟩ := bnd_some hF
  obtain ⟨b_1,o,qa,qp⟩ := h_s_.atm he_1
  refine zP hf rfl (pIA Tryz.underlying52 sz_72 rfl rfl qa) fun a hf => zE hf hc rfl (eLdN (vs := [i6 e_1.From,i6 e_1.Long,i6 e_1.Weight.Lo,i6 e_1.Weight.Hi]) ag_72 rfl rfl (cells_pc qp (n := 4) (o' := 0) rfl)) fun a w hf hc => zQ (v := .bool (crew_every_crew_Ride_1_s2 e_1 f_)) hf hc en_159 rfl (fun w hc => (crew_every_crew_Ride_1_s2_ok e_1 f_ h_f__Rides ((hc.pick k1).pick k1) rfl).mono fun e w h => ⟨h.1,((h.2.unpick k1).unpick k1)⟩) fun a w hf hc => zT h ?_
  refine zI hf rfl hF ?_ ?_ <;> clear hF <;> intro hF
  ·refine zS fun K h => sp 2 hf rfl fun a hf => zT h ?_
   refine wp_ret ?_
   refine xBlkR ?_
   refine xThenR ?_
   refine xThenR ?_
   have he := sj hF
   rw [← he] at hfin4
   replace hF := ho4 _ hfin4
   refine xBlkR ?_
   refine xThenR ?_
   obtain rfl := hF
   exact zO1 Tryz.results185 hf rfl ⟨rfl,hc⟩
  ·refine wp_skip ?_
   refine h8 _ _ ?_
   refine cReg ?_
   refine sp 2 hf rfl fun a hf => cNil ?_
   exact hK4 (W (x + 1)) _ _ (sj hF).symm ⟨hf.kp rfl,hc⟩
 ·refine wp_exit ?_
  refine xThen ?_
  refine xThen ?_
  have he := sj hF
  rw [← he] at hfin4
  refine cHit ?_
  exact hr4 _ _ _ hfin4 ⟨hf.kp rfl,hc⟩

def slices_ContainsFunc_Lcrew_Ride_crew_Ride_s2 (N : Nat) (s_ : List crew_Ride) (f_ : crew_Cable) : Option (Bool) :=
 Option.bind (slices_IndexFunc_Lcrew_Ride_crew_Ride_s2 N s_ f_) fun r =>
 some (decide (0 ≤ r))
theorem slices_ContainsFunc_Lcrew_Ride_crew_Ride_s2_ok {N : Nat} {G : Pers} {Lf : List Ent} {w : World} (s_ : List crew_Ride) (f_ : crew_Cable) {s__p : Option Addr} {s__c : Nat} {b_ : Nat} {b__1 : Nat} {f__Rides_p : Option Addr} {f__Rides_c : Nat} (h_s_ : Rd G 4 s__p s__c (s_.map enc_crew_Ride)) (h_f__Rides : Rd G 4 f__Rides_p f__Rides_c (f_.Rides.map enc_crew_Ride)) (hc : Ctx G (.box b_ [.func (.func 101) #[] #[pq b__1]] 155::.box b__1 [i6 f_.Car,i6 f_.Wide,i6 f_.Sag,i6 f_.Most,.slice f__Rides_p f_.Rides.length f__Rides_c] 54::Lf) w) {res : Bool} (hF : slices_ContainsFunc_Lcrew_Ride_crew_Ride_s2 N s_ f_ = some res) : Calls Tryz.prog 158 #[.slice s__p s_.length s__c,.func (.func 159) #[] #[pq b_]] w (fun e w => e = .returned (.bool res) ∧ Ctx G (.box b_ [.func (.func 101) #[] #[pq b__1]] 155::.box b__1 [i6 f_.Car,i6 f_.Wide,i6 f_.Sag,i6 f_.Most,.slice f__Rides_p f_.Rides.length f__Rides_c] 54::Lf) w) := by
 unfold slices_ContainsFunc_Lcrew_Ride_crew_Ride_s2 at hF
 refine fnIn Tryz.func158 rfl Tryz.ntmps158 rfl fun a hf => zS fun K h => sp 1 hf rfl fun a hf => zT h ?_
 refine zS fun K h => sp 2 hf rfl fun a hf => ?_
 obtain ⟨r,hr,hF⟩ := bnd_some hF
 refine zQ (v := i6 r) hf hc en_185 rfl (fun w hc => (slices_IndexFunc_Lcrew_Ride_crew_Ride_s2_ok s_ f_ h_s_ h_f__Rides ((hc.pick k1).pick k1) hr).mono fun e w h => ⟨h.1,((h.2.unpick k1).unpick k1)⟩) fun a w hf hc => sp 2 hf rfl fun a hf => zT h ?_
 refine wp_ret ?_
 obtain rfl := sj hF
 exact zO1 Tryz.results158 hf rfl ⟨rfl,hc⟩

def crew_every_crew_Ride_s2 (N : Nat) (l : List crew_Ride) (so : crew_Cable) : Option (Bool) :=
 Option.bind (slices_ContainsFunc_Lcrew_Ride_crew_Ride_s2 N l so) fun r =>
 some (!r)
theorem crew_every_crew_Ride_s2_ok {N : Nat} {G : Pers} {Lf : List Ent} {w : World} (l : List crew_Ride) (so : crew_Cable) {l_p : Option Addr} {l_c : Nat} {b_ : Nat} {so_Rides_p : Option Addr} {so_Rides_c : Nat} (h_l : Rd G 4 l_p l_c (l.map enc_crew_Ride)) (h_so_Rides : Rd G 4 so_Rides_p so_Rides_c (so.Rides.map enc_crew_Ride)) (hc : Ctx G (.box b_ [i6 so.Car,i6 so.Wide,i6 so.Sag,i6 so.Most,.slice so_Rides_p so.Rides.length so_Rides_c] 54::Lf) w) {res : Bool} (hF : crew_every_crew_Ride_s2 N l so = some res) : Calls Tryz.prog 90 #[.slice l_p l.length l_c,.func (.func 101) #[] #[pq b_]] w (fun e w => e = .returned (.bool res) ∧ Ctx G (.box b_ [i6 so.Car,i6 so.Wide,i6 so.Sag,i6 so.Most,.slice so_Rides_p so.Rides.length so_Rides_c] 54::Lf) w) := by
 unfold crew_every_crew_Ride_s2 at hF
 refine fnIn Tryz.func90 rfl Tryz.ntmps90 rfl fun a hf => zS fun K h => zB hf hc rfl fun b_1 a w hf hc => sp 1 hf rfl fun a hf => zT h ?_
 refine zS fun K h => sp 1 hf rfl fun a hf => zP hf rfl (pMF (us := [pq b_1]) rfl rfl) fun a hf => ?_
 obtain ⟨r,hr,hF⟩ := bnd_some hF
 refine zQ (v := .bool r) hf hc en_158 rfl (fun w hc => (slices_ContainsFunc_Lcrew_Ride_crew_Ride_s2_ok l so h_l h_so_Rides ((hc.pick k1).pick k1) hr).mono fun e w h => ⟨h.1,((h.2.unpick k1).unpick k1)⟩) fun a w hf hc => sp 2 hf rfl fun a hf => zT h ?_
 refine wp_ret ?_
 obtain rfl := sj hF
 replace hc := hc.drop k0
 exact zO1 Tryz.results90 hf rfl ⟨rfl,hc⟩

def slices_Clone_Lcrew_Ride_crew_Ride (N : Nat) (s_ : List crew_Ride) : Option ((List crew_Ride)) :=
 Option.bind (room (s_).length) fun un =>
 some s_
theorem slices_Clone_Lcrew_Ride_crew_Ride_ok {N : Nat} {G : Pers} {Lf : List Ent} {w : World} (s_ : List crew_Ride) {s__p : Option Addr} {s__c : Nat} (h_s_ : Rd G 4 s__p s__c (s_.map enc_crew_Ride)) (hc : Ctx G (Lf) w) {res : (List crew_Ride)} (hF : slices_Clone_Lcrew_Ride_crew_Ride N s_ = some res) : Calls Tryz.prog 102 #[.slice s__p s_.length s__c] w (fun e w => ∃ (p'1 : Option Addr) (c'1 : Nat),e = .returned (.slice p'1 res.length c'1) ∧ Ctx G (.row p'1 c'1 (res.map enc_crew_Ride) 72 4::Lf) w) := by
 unfold slices_Clone_Lcrew_Ride_crew_Ride at hF
 refine fnIn Tryz.func102 rfl Tryz.ntmps102 rfl fun a hf => zS fun K h => sp 1 hf rfl fun a hf => zT h ?_
 refine wp_seq_k fun K2 h2 => zS fun K h => sp 1 hf rfl fun a hf => zP hf rfl (pEqN Tryz.underlying52 rfl rfl) fun a hf => zT h ?_
 rcases rd_nilq h_s_ with ⟨hp,hx⟩ | hp
 ·rw [hp] at hf
  replace hF : (some ([] : List crew_Ride)) = some res := by
   try rw [hx] at hF
   exact hF
  refine cCondT hf rfl ?_
  refine zS fun K h => sp 1 hf rfl fun a hf => zT h ?_
  refine wp_ret ?_
  refine xThenR ?_
  obtain rfl := sj hF
  replace hc := hc.nilRow 72 4
  exact zO1 Tryz.results102 hf rfl ⟨none,0,rfl,hc⟩
 ·rw [hp] at hf
  refine cCondF hf rfl ?_
  refine wp_skip ?_
  refine h2 _ _ ?_
  refine zS fun K h => stBS (rows := ([] : List crew_Ride).map enc_crew_Ride) (vs := []) hf hc rfl rfl sl_52 rfl trivial rfl rfl fun b_1 a w hf hc => sp 1 hf rfl fun a hf => ?_
  obtain ⟨un,hun,hF⟩ := bnd_some hF
  refine stApm (xs := ([] : List crew_Ride)) (ys := s_) hf hc rfl rfl sl_52 rfl rfl rfl rfl rfl one_enc_crew_Ride (src_rd hc h_s_) (fun _ _ => u0) (by simpa using room_spec hun) fun p_1 c_1 a w hf hc => sp 1 hf rfl fun a hf => zT h ?_
  refine wp_ret ?_
  obtain rfl := sj hF
  exact zO1 Tryz.results102 hf rfl ⟨p_1,c_1,rfl,hc⟩

def crew_Cable_full (N : Nat) (c_ : crew_Cable) (r : crew_Ride) : Option (Bool) :=
 Option.bind (crew_Cable_load_s2 N c_ r.From) fun r_0 =>
 some (crew_Cable_beyond c_ r_0)
theorem crew_Cable_full_ok {N : Nat} {G : Pers} {Lf : List Ent} {w : World} (c_ : crew_Cable) (r : crew_Ride) {c__Rides_p : Option Addr} {c__Rides_c : Nat} (h_c__Rides : Rd G 4 c__Rides_p c__Rides_c (c_.Rides.map enc_crew_Ride)) (hc : Ctx G (Lf) w) {res : Bool} (hF : crew_Cable_full N c_ r = some res) : Calls Tryz.prog 103 #[.agg #[i6 c_.Car,i6 c_.Wide,i6 c_.Sag,i6 c_.Most,.slice c__Rides_p c_.Rides.length c__Rides_c],.agg #[i6 r.From,i6 r.Long,i6 r.Weight.Lo,i6 r.Weight.Hi]] w (fun e w => e = .returned (.bool res) ∧ Ctx G (Lf) w) := by
 unfold crew_Cable_full at hF
 refine fnIn Tryz.func103 rfl Tryz.ntmps103 rfl fun a hf => zS fun K h => zB hf hc rfl fun b_1 a w hf hc => zB hf hc rfl fun b_2 a w hf hc => sp 1 hf rfl fun a hf => zT h ?_
 refine wp_seq_k fun K2 h2 => ?_
 obtain ⟨r_0,hr_0,hF⟩ := bnd_some hF
 refine cQ hc follows_mx (by kernel_rfl) ?_
 refine qE hf rfl rfl rfl (eLdN (vs := [i6 c_.Car,i6 c_.Wide,i6 c_.Sag,i6 c_.Most,.slice c__Rides_p c_.Rides.length c__Rides_c]) ag_54 rfl rfl (cells_box (n := 5) m1 rfl)) fun a hf => qE hf rfl rfl rfl (eLdN (vs := [i6 c_.Car,i6 c_.Wide,i6 c_.Sag,i6 c_.Most,.slice c__Rides_p c_.Rides.length c__Rides_c]) ag_54 rfl rfl (cells_box (n := 5) m1 rfl)) fun a hf => qE hf rfl rfl rfl (Pu.ev (pFA fa_72_0 rfl)) fun a hf => qE hf rfl rfl rfl (eLd1 sc_3 rfl (cell_box m0 rfl)) fun a hf => qE hf rfl rfl rfl (eC (v := .agg #[.func (.func 156) #[] #[]]) (vs := []) (caps := []) en_83 rfl rfl rfl rfl (fun w hc => crew_high_ok hc rfl)) fun a hf => qE hf rfl rfl rfl (eC (v := i6 r_0) (vs := [.agg #[i6 c_.Car,i6 c_.Wide,i6 c_.Sag,i6 c_.Most,.slice c__Rides_p c_.Rides.length c__Rides_c],i6 r.From,.agg #[.func (.func 156) #[] #[]]]) (caps := []) en_93 rfl rfl rfl rfl (fun w hc => crew_Cable_load_s2_ok c_ r.From h_c__Rides hc hr_0)) fun a hf => qE hf rfl rfl rfl (eC (v := .bool (crew_Cable_beyond c_ r_0)) (vs := [.agg #[i6 c_.Car,i6 c_.Wide,i6 c_.Sag,i6 c_.Most,.slice c__Rides_p c_.Rides.length c__Rides_c],i6 r_0]) (caps := []) en_99 rfl rfl rfl rfl (fun w hc => crew_Cable_beyond_ok c_ r_0 h_c__Rides hc rfl)) fun a hf => qE hf rfl rfl rfl (Pu.ev (pA rfl)) fun a hf => ?_
 intro w hc
 refine h2 _ _ ?_
 refine wp_ret ?_
 obtain rfl := sj hF
 replace hc := (hc.drop k1).drop k0
 exact zO1 Tryz.results103 hf rfl ⟨rfl,hc⟩

def crew_Queue_j38 (N : Nat) (x_4 : Int) (next__1 : Int) : Option (Step (Int × Int) (Step (Int × Int × (List crew_Ride)) (Step ((List Int) × Int × Int × (List crew_Ride)) ((List Int) × Int)))) :=
 some (.cont (next__1,W (x_4 + 1)))
def crew_Queue_b33 (N : Nat) (x_1 : List crew_Ride) (at__1 : Int) (next_ : Int) (x_4 : Int) : Option (Step (Int × Int) (Step (Int × Int × (List crew_Ride)) (Step ((List Int) × Int × Int × (List crew_Ride)) ((List Int) × Int)))) :=
 cond (decide (x_4 < ((x_1.length : Nat) : Int)))
 (Option.bind (getI x_1 x_4) fun e_3 =>
 cond ((crew_Ride_on e_3 at__1) && ((next_ == (-1)) || (decide ((W (e_3.From + e_3.Long)) < next_))))
 (crew_Queue_j38 N x_4 (W (e_3.From + e_3.Long)))
 (crew_Queue_j38 N x_4 next_))
 (some (.brk (next_,x_4)))
def crew_Queue_b25 (N : Nat) (c_ : crew_Cable) (x_1 : List crew_Ride) (e_1 : crew_Ride) (at__1 : Int) (x_2 : Int) (x_3 : List crew_Ride) : Option (Step (Int × Int × (List crew_Ride)) (Step ((List Int) × Int × Int × (List crew_Ride)) ((List Int) × Int))) :=
 Option.bind (crew_Cable_full N (⟨c_.Car,c_.Wide,c_.Sag,c_.Most,x_3⟩ : crew_Cable) (⟨x_2,e_1.Long,e_1.Weight⟩ : crew_Ride)) fun r_3 =>
 cond r_3
 (Option.bind (loopO (fun s33 => crew_Queue_b33 N x_1 at__1 s33.1 s33.2) N ((-1),0)) fun x33 =>
 exK x33 (fun s33 => Option.bind (getI x_3 (W (((x_3.length : Nat) : Int) - 1))) fun e_2 =>
 some (.cont (s33.1,s33.1,(x_3.set (W (((x_3.length : Nat) : Int) - 1)).toNat (⟨s33.1,e_1.Long,e_1.Weight⟩ : crew_Ride))))) some)
 (some (.brk (at__1,x_2,x_3)))
def crew_Queue_b14 (N : Nat) (c_ : crew_Cable) (out : List Int) (at_ : Int) (x : Int) (x_1 : List crew_Ride) : Option (Step ((List Int) × Int × Int × (List crew_Ride)) ((List Int) × Int)) :=
 cond (decide (x < ((c_.Rides.length : Nat) : Int)))
 (Option.bind (getI c_.Rides x) fun e_1 =>
 Option.bind (slices_Clone_Lcrew_Ride_crew_Ride N x_1) fun r_2 =>
 Option.bind (room ((r_2 ++ [(⟨max at_ e_1.From,e_1.Long,e_1.Weight⟩ : crew_Ride)])).length) fun un =>
 Option.bind (loopO (fun s25 => crew_Queue_b25 N c_ x_1 e_1 s25.1 s25.2.1 s25.2.2) N (max at_ e_1.From,max at_ e_1.From,(r_2 ++ [(⟨max at_ e_1.From,e_1.Long,e_1.Weight⟩ : crew_Ride)]))) fun x25 =>
 exK x25 (fun s25 => Option.bind (room ((out ++ [s25.1])).length) fun un_1 =>
 some (.cont ((out ++ [s25.1]),s25.1,W (x + 1),s25.2.2))) some)
 (some (.brk (out,at_,x,x_1)))
def crew_Queue (N : Nat) (c_ : crew_Cable) : Option ((List Int) × Int) :=
 Option.bind (crew_CheckCable N c_) fun r =>
 cond (r != 0)
 (some (([] : List Int),r))
 (Option.bind (cond (crew_Cable_beyond c_ c_.Car) (some true) (Option.bind (crew_every_crew_Ride_s2 N c_.Rides c_) fun r_1 =>
 some (!r_1))) fun t_1 =>
 cond t_1
 (some (([] : List Int),6))
 (Option.bind (loopO (fun s14 => crew_Queue_b14 N c_ s14.1 s14.2.1 s14.2.2.1 s14.2.2.2) N (([] : List Int),0,0,([] : List crew_Ride))) fun x14 =>
 exK x14 (fun s14 => some (s14.1,0)) some))
theorem crew_Queue_ok {N : Nat} {G : Pers} {Lf : List Ent} {w : World} (c_ : crew_Cable) {c__Rides_p : Option Addr} {c__Rides_c : Nat} (h_c__Rides : Rd G 4 c__Rides_p c__Rides_c (c_.Rides.map enc_crew_Ride)) (hc : Ctx G (Lf) w) {res : (List Int) × Int} (hF : crew_Queue N c_ = some res) : Calls Tryz.prog 38 #[.agg #[i6 c_.Car,i6 c_.Wide,i6 c_.Sag,i6 c_.Most,.slice c__Rides_p c_.Rides.length c__Rides_c]] w (fun e w => ∃ (p'1 : Option Addr) (c'1 : Nat),e = .returned (.tuple #[.slice p'1 res.1.length c'1,i6 res.2]) ∧ Ctx G (.row p'1 c'1 (res.1.map encI_i64) 3 1::Lf) w) := by
 unfold crew_Queue at hF
 refine fnIn Tryz.func38 rfl Tryz.ntmps38 rfl fun a hf => zS fun K h => zB hf hc rfl fun b_1 a w hf hc => sp 2 hf rfl fun a hf => zT h ?_
 refine zS fun K h => zN hf hc ag_54 m0 rfl fun a w hf hc => ?_
 obtain ⟨r,hr,hF⟩ := bnd_some hF
 refine zQ (v := i6 r) hf hc en_31 rfl (fun w hc => crew_CheckCable_ok c_ h_c__Rides hc hr) fun a w hf hc => sp 1 hf rfl fun a hf => zT h ?_
 refine wp_seq_k fun K3 h3 => wp_block ?_
 refine zS fun K h => sp 3 hf rfl fun a hf => zT h ?_
 refine zI hf rfl hF ?_ ?_ <;> clear hF <;> intro hF
 ·refine zS fun K h => sp 3 hf rfl fun a hf => zT h ?_
  refine wp_ret ?_
  refine xBlkR ?_
  refine xThenR ?_
  obtain rfl := sj hF
  replace hc := hc.nilRow 3 1
  replace hc := hc.drop k1
  exact zO2 Tryz.results38 hf rfl rfl ⟨none,0,rfl,hc⟩
 ·refine zS fun K h => zN hf hc ag_54 m0 rfl fun a w hf hc => zP hf rfl (pFA fa_54_0 rfl) fun a hf => zL hf hc sc_3 m0 rfl fun a w hf hc => zQ (v := .bool (crew_Cable_beyond c_ c_.Car)) hf hc en_99 rfl (fun w hc => crew_Cable_beyond_ok c_ c_.Car h_c__Rides hc rfl) fun a w hf hc => sp 1 hf rfl fun a hf => ?_
  obtain ⟨t_1,ht_1,hF⟩ := bnd_some hF
  refine stCc 6 (fun a => Has 105 a [(1,pq b_1),(21,.agg #[i6 c_.Car,i6 c_.Wide,i6 c_.Sag,i6 c_.Most,.slice c__Rides_p c_.Rides.length c__Rides_c]),(22,pq b_1),(23,i6 c_.Car),(24,.bool (crew_Cable_beyond c_ c_.Car)),(25,.bool (crew_Cable_beyond c_ c_.Car)),(31,.bool t_1)]) hc ?_ ?_
  ·cases hb : (crew_Cable_beyond c_ c_.Car)
   ·rw [hb] at hf
    have hF := condF hb ht_1
    refine zP hf rfl (pFA fa_54_4 rfl) fun a hf => zL hf hc sc_52 m0 rfl fun a w hf hc => zP hf rfl (pMF (us := [pq b_1]) rfl rfl) fun a hf => ?_
    obtain ⟨r_1,hr_1,hF⟩ := bnd_some hF
    refine zQ (v := .bool r_1) hf hc en_90 rfl (fun w hc => (crew_every_crew_Ride_s2_ok c_.Rides c_ h_c__Rides h_c__Rides (hc.pick k0) hr_1).mono fun e w h => ⟨h.1,(h.2.unpick k0)⟩) fun a w hf hc => sp 2 hf rfl fun a hf => ?_
    obtain rfl := sj hF
    exact cNil ⟨hf.kp rfl,hc⟩
   ·rw [hb] at hf
    have hF := condT hb ht_1
    obtain rfl := sj hF
    refine stS hf rfl rfl rfl fun a hf => stS hf rfl rfl rfl fun a hf => stS hf rfl rfl rfl fun a hf => stS hf rfl rfl rfl fun a hf => stS hf rfl rfl rfl fun a hf => sp 1 hf rfl fun a hf => cNil ⟨hf.kp rfl,hc⟩
  intro a w ⟨hf,hc⟩
  refine sp 1 hf rfl fun a hf => zT h ?_
  refine zI hf rfl hF ?_ ?_ <;> clear hF <;> intro hF
  ·refine zS fun K h => sp 2 hf rfl fun a hf => zT h ?_
   refine wp_ret ?_
   refine xBlkR ?_
   refine xThenR ?_
   obtain rfl := sj hF
   replace hc := hc.nilRow 3 1
   replace hc := hc.drop k1
   exact zO2 Tryz.results38 hf rfl rfl ⟨none,0,rfl,hc⟩
  ·refine wp_skip ?_
   refine h3 _ _ ?_
   refine zS fun K h => zN hf hc ag_54 m0 rfl fun a w hf hc => zA hf hc zr_54 rfl fun b_2 a w hf hc => zW hf hc sz_54 u0 rfl fun w hc => zT h ?_
   refine zS fun K h => zP hf rfl (pFA fa_54_4 rfl) fun a hf => zW hf hc sz_52 u0 rfl fun w hc => zT h ?_
   refine zS fun K h => sp 1 hf rfl fun a hf => zT h ?_
   refine zS fun K h => sp 1 hf rfl fun a hf => zT h ?_
   refine wp_seq_k fun K12 h12 => zS fun K h => zP hf rfl (pFA fa_54_4 rfl) fun a hf => zL hf hc sc_52 m1 rfl fun a w hf hc => zP hf rfl (pLenS Tryz.underlying52 rfl) fun a hf => sp 1 hf rfl fun a hf => zT h ?_
   refine wp_block ?_
   obtain ⟨x14,hx14,hF⟩ := bnd_some hF
   let S14 : ((List Int) × Int × Int × (List crew_Ride)) → Act → World → Prop := (fun (zz : (List Int) × Int × Int × (List crew_Ride)) a w => ∃ (p_1 : Option Addr) (c_1 : Nat) (p_2 : Option Addr) (c_2 : Nat),Has 105 a [(5,pq b_2),(6,.slice p_1 zz.1.length c_1),(7,i6 zz.2.1),(35,.slice c__Rides_p c_.Rides.length c__Rides_c),(36,i6 ((c_.Rides.length : Nat) : Int)),(37,i6 zz.2.2.1)] ∧ Ctx G (.row p_2 c_2 (zz.2.2.2.map enc_crew_Ride) 72 4::.row p_1 c_1 (zz.1.map encI_i64) 3 1::.box b_2 [i6 c_.Car,i6 c_.Wide,i6 c_.Sag,i6 c_.Most,.slice p_2 zz.2.2.2.length c_2] 54::Lf) w)
   have hr14 : ∀ (zz : (List Int) × Int × Int × (List crew_Ride)) a w,x14 = .go zz → S14 zz a w → K12 a w := by
    rintro ⟨out,at_,x,x_1⟩ a w rfl ⟨p_1,c_1,p_2,c_2,hf,hc⟩
    replace hF := exK_go hF
    refine h12 _ _ ?_
    refine zS fun K h => sp 3 hf rfl fun a hf => zT h ?_
    refine wp_ret ?_
    obtain rfl := sj hF
    replace hc := (hc.drop k2).drop k0
    exact zO2 Tryz.results38 hf rfl rfl ⟨p_1,c_1,rfl,hc⟩
   have ho14 : ∀ r,x14 = .out r → r = res := by
    rintro r rfl
    exact sj hF
   replace hc := hc.nilRow 3 1
   replace hc := hc.nilRow 72 4
   replace hc := hc.drop k3
   refine cLoop N (loopW (S := S14) (x := x14) ?_ N (([] : List Int),0,0,([] : List crew_Ride)) _ _ ⟨none,0,none,0,hf.kp rfl,hc⟩ hx14)
   clear hF hf hc
   rintro ⟨out,at_,x,x_1⟩ st14 a w KB14 ⟨p_1,c_1,p_2,c_2,hf,hc⟩ hF hfin14 hK14
   unfold crew_Queue_b14 at hF
   refine zS fun K h => sp 1 hf rfl fun a hf => zT h ?_
   refine wp_seq_k fun K17 h17 => zI hf rfl hF ?_ ?_ <;> clear hF <;> intro hF
   ·refine wp_skip ?_
    refine h17 _ _ ?_
    refine wp_seq_k fun K18 h18 => wp_block ?_
    refine zS fun K h => ?_
    obtain ⟨e_1,he_1,hF⟩ := bnd_some hF
    obtain ⟨b_3,o,qa,qp⟩ := h_c__Rides.atm he_1
    refine zP hf rfl (pIA Tryz.underlying52 sz_72 rfl rfl qa) fun a hf => zE hf hc rfl (eLdN (vs := [i6 e_1.From,i6 e_1.Long,i6 e_1.Weight.Lo,i6 e_1.Weight.Hi]) ag_72 rfl rfl (cells_pc qp (n := 4) (o' := 0) rfl)) fun a w hf hc => zA hf hc zr_72 rfl fun b_4 a w hf hc => zW hf hc sz_72 u0 rfl fun w hc => zT h ?_
    refine zS fun K h => sp 1 hf rfl fun a hf => zP hf rfl (pFA fa_72_0 rfl) fun a hf => zL hf hc sc_3 m0 rfl fun a w hf hc => zP hf rfl (pMax2 rfl rfl) fun a hf => sp 1 hf rfl fun a hf => zT h ?_
    refine zS fun K h => sp 1 hf rfl fun a hf => zP hf rfl (pFA fa_72_0 rfl) fun a hf => zW hf hc sz_3 u0 rfl fun w hc => zT h ?_
    refine zS fun K h => zN hf hc ag_54 m3 rfl fun a w hf hc => zA hf hc zr_54 rfl fun b_5 a w hf hc => zW hf hc sz_54 u0 rfl fun w hc => zT h ?_
    refine wp_seq_k fun K23 h23 => ?_
    obtain ⟨r_2,hr_2,hF⟩ := bnd_some hF
    obtain ⟨un,hun,hF⟩ := bnd_some hF
    replace hc := hc.nilRow 0 0
    replace hc := hc.nilRow 0 0
    refine regionE (fun θ => [⟨none,none,5,pq b_2⟩,⟨none,none,6,.slice p_1 out.length c_1⟩,⟨none,none,7,i6 (max at_ e_1.From)⟩,⟨none,none,9,pq b_4⟩,⟨none,none,10,pq b_5⟩,⟨none,none,35,.slice c__Rides_p c_.Rides.length c__Rides_c⟩,⟨none,none,36,i6 ((c_.Rides.length : Nat) : Int)⟩,⟨none,none,37,i6 x⟩,⟨some 0,none,48,.pointer (some ⟨b_2,4,none⟩)⟩,⟨some 1,none,49,.slice p_2 x_1.length c_2⟩,⟨some 2,none,50,.slice ((θ 16).p) r_2.length ((θ 16).c)⟩,⟨some 3,none,51,.agg #[i6 (max at_ e_1.From),i6 e_1.Long,i6 e_1.Weight.Lo,i6 e_1.Weight.Hi]⟩,⟨some 4,none,52,.slice (some ⟨(θ 32).b,0,none⟩) 1 1⟩,⟨some 5,none,53,.slice ((θ 40).p) ((r_2 ++ [(⟨max at_ e_1.From,e_1.Long,e_1.Weight⟩ : crew_Ride)]).length) ((θ 40).c)⟩,⟨some 6,none,54,.pointer (some ⟨b_5,4,none⟩)⟩]) (fun E θ => (bif E 4 then .row (some ⟨(θ 32).b,0,none⟩) 1 (([(⟨max at_ e_1.From,e_1.Long,e_1.Weight⟩ : crew_Ride)] : List crew_Ride).map enc_crew_Ride) 72 4 else .row none 0 [] 0 0)::(bif E 5 then .row ((θ 40).p) ((θ 40).c) ((r_2 ++ [(⟨max at_ e_1.From,e_1.Long,e_1.Weight⟩ : crew_Ride)]).map enc_crew_Ride) 72 4 else bif E 2 then .row ((θ 16).p) ((θ 16).c) (r_2.map enc_crew_Ride) 72 4 else .row none 0 [] 0 0)::(bif E 7 then .box b_5 [i6 c_.Car,i6 c_.Wide,i6 c_.Sag,i6 c_.Most,.slice ((θ 40).p) ((r_2 ++ [(⟨max at_ e_1.From,e_1.Long,e_1.Weight⟩ : crew_Ride)]).length) ((θ 40).c)] 54 else .box b_5 [i6 c_.Car,i6 c_.Wide,i6 c_.Sag,i6 c_.Most,.slice p_2 x_1.length c_2] 54)::.box b_4 [i6 (max at_ e_1.From),i6 e_1.Long,i6 e_1.Weight.Lo,i6 e_1.Weight.Hi] 72::.row p_2 c_2 (x_1.map enc_crew_Ride) 72 4::.row p_1 c_1 (out.map encI_i64) 3 1::.box b_2 [i6 c_.Car,i6 c_.Wide,i6 c_.Sag,i6 c_.Most,.slice p_2 x_1.length c_2] 54::Lf) [(5,2),(7,5)] (fun a w => ∃ (b_7 : Nat) (p_5 : Option Addr) (c_5 : Nat),Has 105 a [(5,pq b_2),(6,.slice p_1 out.length c_1),(7,i6 (max at_ e_1.From)),(9,pq b_4),(10,pq b_5),(35,.slice c__Rides_p c_.Rides.length c__Rides_c),(36,i6 ((c_.Rides.length : Nat) : Int)),(37,i6 x)] ∧ Ctx G (.row (some ⟨b_7,0,none⟩) 1 (([(⟨max at_ e_1.From,e_1.Long,e_1.Weight⟩ : crew_Ride)] : List crew_Ride).map enc_crew_Ride) 72 4::.row p_5 c_5 ((r_2 ++ [(⟨max at_ e_1.From,e_1.Long,e_1.Weight⟩ : crew_Ride)]).map enc_crew_Ride) 72 4::.box b_5 [i6 c_.Car,i6 c_.Wide,i6 c_.Sag,i6 c_.Most,.slice p_5 ((r_2 ++ [(⟨max at_ e_1.From,e_1.Long,e_1.Weight⟩ : crew_Ride)]).length) c_5] 54::.box b_4 [i6 (max at_ e_1.From),i6 e_1.Long,i6 e_1.Weight.Lo,i6 e_1.Weight.Hi] 72::.row p_2 c_2 (x_1.map enc_crew_Ride) 72 4::.row p_1 c_1 (out.map encI_i64) 3 1::.box b_2 [i6 c_.Car,i6 c_.Wide,i6 c_.Sag,i6 c_.Most,.slice p_2 x_1.length c_2] 54::Lf) w) follows_mx (by kernel_rfl) (by kernel_rfl) (HasE.of hf ⟨rfl,rfl,rfl,rfl,rfl,rfl,rfl,rfl,trivial,trivial,trivial,trivial,trivial,trivial,trivial,trivial⟩) hc ⟨?_,?_,?_,?_,?_,?_,?_,?_,trivial⟩ ?_ ?_
    ·intro E θ a w hD hi hp he hc
     have hf := he.h0.mT he 0 rfl
     refine zP hf rfl (pFA fa_54_4 rfl) fun a hf => zD θ he hi hf 8 rfl rfl rfl hc
    ·intro E θ a w hD hi hp he hc
     have e0 := hp.o 0 rfl
     have hf := he.h0.mP he 8 rfl e0
     refine zL hf hc sc_52 m6 rfl fun a w hf hc => zD θ he hi hf 9 rfl rfl rfl hc
    ·intro E θ a w hD hi hp he hc
     have e1 := hp.o 1 rfl
     have e5 := hD.f 0 rfl hi
     try dsimp only at hc
     rw [hi,e5] at hc
     have hf := he.h0.mP he 9 rfl e1
     obtain ⟨G1,hle1,hrd1,hc,hth1⟩ := lend hc k4
     refine zC hf en_102 rfl (slices_Clone_Lcrew_Ride_crew_Ride_ok x_1 hrd1 hc hr_2) ?_
     rintro _ w ⟨p_3,c_3,rfl,hc⟩
     refine ⟨_,rfl,fun a hf => ?_⟩
     replace hc := hth1 _ _ hc
     refine cNil ?_
     refine xThenN ?_
     intro ds u hau
     replace hc := (((((hc.drop k3).pick k0).pick k4).pick k4).pick k3).pick k4
     refine ⟨(setT θ 16 ⟨0,p_3,c_3,(fun _ => (none,0))⟩),he.put hi hau hf rfl [] trivial ⟨qq,qq,qq,qq,qq,qq,qq,qq,qq,qq,qq,qq,qq,qq,qq,trivial⟩,?_⟩
     try dsimp only
     rw [updE_self E 2,updE_fls 2 e5 rfl]
     exact hc
    ·intro E θ a w hD hi hp he hc
     have hf := he.h0.mT he 3 rfl
     refine zN hf hc ag_72 m3 rfl fun a w hf hc => zD θ he hi hf 11 rfl rfl rfl hc
    ·intro E θ a w hD hi hp he hc
     have e3 := hp.o 3 rfl
     try dsimp only at hc
     rw [hi] at hc
     have hf := he.h0.mP he 11 rfl e3
     refine stBS (rows := ([(⟨max at_ e_1.From,e_1.Long,e_1.Weight⟩ : crew_Ride)] : List crew_Ride).map enc_crew_Ride) (vs := [(0,.agg #[i6 (max at_ e_1.From),i6 e_1.Long,i6 e_1.Weight.Lo,i6 e_1.Weight.Hi])]) hf hc rfl rfl sl_52 rfl ⟨rfl,rfl,rfl,trivial⟩ rfl rfl fun b_6 a w hf hc => cNil ?_
     refine xThenN ?_
     intro ds u hau
     replace hc := hc.drop k1
     refine ⟨(setT θ 32 ⟨b_6,none,0,(fun _ => (none,0))⟩),he.put hi hau hf rfl [] trivial ⟨qq,qq,qq,qq,qq,qq,qq,qq,qq,qq,qq,qq,qq,qq,qq,trivial⟩,?_⟩
     try dsimp only
     rw [updE_self E 4]
     exact hc
    ·intro E θ a w hD hi hp he hc
     have e2 := hp.o 2 rfl
     have e4 := hp.o 4 rfl
     have e7 := hD.f 1 rfl hi
     try dsimp only at hc
     rw [e4,e2,hi,e7] at hc
     have hf := (he.h0.mP he 10 rfl e2).mP he 12 rfl e4
     refine stApm (xs := r_2) (ys := ([(⟨max at_ e_1.From,e_1.Long,e_1.Weight⟩ : crew_Ride)] : List crew_Ride)) hf hc rfl rfl sl_52 rfl rfl rfl rfl rfl one_enc_crew_Ride (src_row hc m0) (fun _ _ => u1) (by simpa using room_spec hun) fun p_4 c_4 a w hf hc => cNil ?_
     refine xThenN ?_
     intro ds u hau
     refine ⟨(setT θ 40 ⟨0,p_4,c_4,(fun _ => (none,0))⟩),he.put hi hau hf rfl [] trivial ⟨qq,qq,qq,qq,qq,qq,qq,qq,qq,qq,qq,qq,qq,qq,qq,trivial⟩,?_⟩
     try dsimp only
     rw [updE_tru 5 e4,updE_tru 5 e2,updE_self E 5,updE_fls 5 e7 rfl]
     exact hc
    ·intro E θ a w hD hi hp he hc
     have hf := he.h0.mT he 4 rfl
     refine zP hf rfl (pFA fa_54_4 rfl) fun a hf => zD θ he hi hf 14 rfl rfl rfl hc
    ·intro E θ a w hD hi hp he hc
     have e5 := hp.o 5 rfl
     have e6 := hp.o 6 rfl
     try dsimp only at hc
     rw [hi] at hc
     have hf := (he.h0.mP he 13 rfl e5).mP he 14 rfl e6
     refine zW hf hc sz_52 u2 rfl fun w hc => zG θ he hi hf rfl ?_
     try dsimp only
     rw [updE_self E 7]
     exact hc
    ·intro E θ a w hall he hc
     have hf := he.h0
     have e2 := hall 2 rfl
     have e4 := hall 4 rfl
     have e5 := hall 5 rfl
     have e7 := hall 7 rfl
     replace hf := hf.more he 7 rfl (onT)
     replace hf := hf.more he 6 rfl (onT)
     replace hf := hf.more he 5 rfl (onT)
     replace hf := hf.more he 4 rfl (onT)
     replace hf := hf.more he 3 rfl (onT)
     replace hf := hf.more he 2 rfl (onT)
     replace hf := hf.more he 1 rfl (onT)
     replace hf := hf.more he 0 rfl (onT)
     try dsimp only at hc
     rw [e2,e4,e5,e7] at hc
     exact ⟨(θ 32).b,(θ 40).p,(θ 40).c,hf.kp rfl,hc⟩
    rintro a w ⟨b_7,p_5,c_5,hf,hc⟩
    refine h23 _ _ ?_
    refine wp_seq_k fun K24 h24 => wp_block ?_
    obtain ⟨x25,hx25,hF⟩ := bnd_some hF
    let S25 : (Int × Int × (List crew_Ride)) → Act → World → Prop := (fun (zz : Int × Int × (List crew_Ride)) a w => ∃ (p_6 : Option Addr) (c_6 : Nat) (p_7 : Option Addr) (c_7 : Nat),Has 105 a [(5,pq b_2),(6,.slice p_1 out.length c_1),(7,i6 zz.1),(9,pq b_4),(10,pq b_5),(35,.slice c__Rides_p c_.Rides.length c__Rides_c),(36,i6 ((c_.Rides.length : Nat) : Int)),(37,i6 x)] ∧ Ctx G (.row p_7 c_7 (zz.2.2.map enc_crew_Ride) 72 4::.box b_5 [i6 c_.Car,i6 c_.Wide,i6 c_.Sag,i6 c_.Most,.slice p_7 zz.2.2.length c_7] 54::.box b_4 [i6 zz.2.1,i6 e_1.Long,i6 e_1.Weight.Lo,i6 e_1.Weight.Hi] 72::.row p_6 c_6 (x_1.map enc_crew_Ride) 72 4::.row p_1 c_1 (out.map encI_i64) 3 1::.box b_2 [i6 c_.Car,i6 c_.Wide,i6 c_.Sag,i6 c_.Most,.slice p_6 x_1.length c_6] 54::Lf) w)
    have hr25 : ∀ (zz : Int × Int × (List crew_Ride)) a w,x25 = .go zz → S25 zz a w → K24 a w := by
     rintro ⟨at__1,x_2,x_3⟩ a w rfl ⟨p_6,c_6,p_7,c_7,hf,hc⟩
     replace hF := exK_go hF
     refine h24 _ _ ?_
     refine zS fun K h => zN hf hc ag_54 m1 rfl fun a w hf hc => zW hf hc sz_54 u5 rfl fun w hc => zT h ?_
     refine cReg ?_
     refine sp 2 hf rfl fun a hf => stBS (rows := ([at__1] : List Int).map encI_i64) (vs := [(0,i6 at__1)]) hf hc rfl rfl sl_25 rfl ⟨rfl,rfl,rfl,trivial⟩ rfl rfl fun b_8 a w hf hc => ?_
     obtain ⟨un_1,hun_1,hF⟩ := bnd_some hF
     refine stApm (xs := out) (ys := ([at__1] : List Int)) hf hc rfl rfl sl_25 rfl rfl rfl rfl rfl one_encI_i64 (src_row hc m0) (fun _ _ => u5) (by simpa using room_spec hun_1) fun p_8 c_8 a w hf hc => sp 1 hf rfl fun a hf => cNil ?_
     refine h18 _ _ ?_
     refine cReg ?_
     refine sp 2 hf rfl fun a hf => cNil ?_
     replace hc := (((hc.drop k4).drop k3).drop k2).drop k0
     exact hK14 ((out ++ [at__1]),at__1,W (x + 1),x_3) _ _ (sj hF).symm ⟨p_8,c_8,p_7,c_7,hf.kp rfl,hc⟩
    have ho25 : ∀ r,x25 = .out r → r = st14 := by
     rintro r rfl
     exact sj hF
    replace hc := hc.drop k0
    refine cLoop N (loopW (S := S25) (x := x25) ?_ N (max at_ e_1.From,max at_ e_1.From,(r_2 ++ [(⟨max at_ e_1.From,e_1.Long,e_1.Weight⟩ : crew_Ride)])) _ _ ⟨p_2,c_2,p_5,c_5,hf.kp rfl,hc⟩ hx25)
    clear hF hf hc
    rintro ⟨at__1,x_2,x_3⟩ st25 a w KB25 ⟨p_6,c_6,p_7,c_7,hf,hc⟩ hF hfin25 hK25
    unfold crew_Queue_b25 at hF
    refine wp_seq_k fun K27 h27 => zS fun K h => zN hf hc ag_54 m1 rfl fun a w hf hc => zN hf hc ag_72 m2 rfl fun a w hf hc => ?_
    obtain ⟨r_3,hr_3,hF⟩ := bnd_some hF
    refine zQ (v := .bool r_3) hf hc en_103 rfl (fun w hc => by obtain ⟨G1,hle1,hrd1,hc,hth1⟩ := lend hc k0; exact (crew_Cable_full_ok (⟨c_.Car,c_.Wide,c_.Sag,c_.Most,x_3⟩ : crew_Cable) (⟨x_2,e_1.Long,e_1.Weight⟩ : crew_Ride) hrd1 hc hr_3).mono fun e w h => ⟨h.1,((hth1 _ _ h.2).unpick k0)⟩) fun a w hf hc => zT h ?_
    refine zI hf rfl hF ?_ ?_ <;> clear hF <;> intro hF
    ·refine wp_skip ?_
     refine h27 _ _ ?_
     refine wp_thenK fun K29 h29 => wp_block ?_
     refine zS fun K h => sp 1 hf rfl fun a hf => zT h ?_
     refine wp_seq_k fun K31 h31 => zS fun K h => zP hf rfl (pFA fa_54_4 rfl) fun a hf => zL hf hc sc_52 m5 rfl fun a w hf hc => zP hf rfl (pLenS Tryz.underlying52 rfl) fun a hf => sp 1 hf rfl fun a hf => zT h ?_
     refine wp_block ?_
     obtain ⟨x33,hx33,hF⟩ := bnd_some hF
     let S33 : (Int × Int) → Act → World → Prop := (fun (zz : Int × Int) a w => ∃ (p_9 : Option Addr) (c_9 : Nat),Has 105 a [(5,pq b_2),(6,.slice p_1 out.length c_1),(7,i6 at__1),(9,pq b_4),(10,pq b_5),(11,i6 zz.1),(35,.slice c__Rides_p c_.Rides.length c__Rides_c),(36,i6 ((c_.Rides.length : Nat) : Int)),(37,i6 x),(59,.slice p_9 x_1.length c_9),(60,i6 ((x_1.length : Nat) : Int)),(61,i6 zz.2)] ∧ Ctx G (.row p_7 c_7 (x_3.map enc_crew_Ride) 72 4::.box b_5 [i6 c_.Car,i6 c_.Wide,i6 c_.Sag,i6 c_.Most,.slice p_7 x_3.length c_7] 54::.box b_4 [i6 x_2,i6 e_1.Long,i6 e_1.Weight.Lo,i6 e_1.Weight.Hi] 72::.row p_9 c_9 (x_1.map enc_crew_Ride) 72 4::.row p_1 c_1 (out.map encI_i64) 3 1::.box b_2 [i6 c_.Car,i6 c_.Wide,i6 c_.Sag,i6 c_.Most,.slice p_9 x_1.length c_9] 54::Lf) w)
     have hr33 : ∀ (zz : Int × Int) a w,x33 = .go zz → S33 zz a w → K31 a w := by
      rintro ⟨next_,x_4⟩ a w rfl ⟨p_9,c_9,hf,hc⟩
      replace hF := exK_go hF
      refine h31 _ _ ?_
      refine zS fun K h => sp 2 hf rfl fun a hf => zT h ?_
      refine zS fun K h => sp 1 hf rfl fun a hf => zP hf rfl (pFA fa_72_0 rfl) fun a hf => zW hf hc sz_3 u2 rfl fun w hc => zT h ?_
      refine cReg ?_
      refine zP hf rfl (pFA fa_54_4 rfl) fun a hf => zL hf hc sc_52 m1 rfl fun a w hf hc => zP hf rfl (pFA fa_54_4 rfl) fun a hf => zL hf hc sc_52 m1 rfl fun a w hf hc => zP hf rfl (pLenS Tryz.underlying52 rfl) fun a hf => sp 1 hf rfl fun a hf => zN hf hc ag_72 m2 rfl fun a w hf hc => ?_
      obtain ⟨e_2,he_2,hF⟩ := bnd_some hF
      obtain ⟨g,rfl,qa_1,qr⟩ := row_atm hc m0 he_2
      refine zP hf rfl (pIA Tryz.underlying52 sz_72 rfl rfl qa_1) fun a hf => stRw (vs := [i6 next_,i6 e_1.Long,i6 e_1.Weight.Lo,i6 e_1.Weight.Hi]) (o' := 0) (z := (⟨next_,e_1.Long,e_1.Weight⟩ : crew_Ride)) (xs := x_3) hf hc rfl rfl rfl rfl sz_72 rfl (fun x => (one_enc_crew_Ride x).1) (getI_lt he_2) (fun _ _ => rfl) rfl u0 fun w hc => cNil ?_
      refine h29 _ _ ?_
      replace hc : Ctx G (.row (some ⟨g,0,none⟩) c_7 ((x_3.set (W (((x_3.length : Nat) : Int) - 1)).toNat (⟨next_,e_1.Long,e_1.Weight⟩ : crew_Ride)).map enc_crew_Ride) 72 4::.box b_5 [i6 c_.Car,i6 c_.Wide,i6 c_.Sag,i6 c_.Most,.slice (some ⟨g,0,none⟩) ((x_3.set (W (((x_3.length : Nat) : Int) - 1)).toNat (⟨next_,e_1.Long,e_1.Weight⟩ : crew_Ride)).length) c_7] 54::.box b_4 [i6 next_,i6 e_1.Long,i6 e_1.Weight.Lo,i6 e_1.Weight.Hi] 72::.row p_9 c_9 (x_1.map enc_crew_Ride) 72 4::.row p_1 c_1 (out.map encI_i64) 3 1::.box b_2 [i6 c_.Car,i6 c_.Wide,i6 c_.Sag,i6 c_.Most,.slice p_9 x_1.length c_9] 54::Lf) w := by simp only [List.length_set] at hc ⊢; exact hc
      exact hK25 (next_,next_,(x_3.set (W (((x_3.length : Nat) : Int) - 1)).toNat (⟨next_,e_1.Long,e_1.Weight⟩ : crew_Ride))) _ _ (sj hF).symm ⟨p_9,c_9,(some ⟨g,0,none⟩),c_7,hf.kp rfl,hc⟩
     have ho33 : ∀ r,x33 = .out r → r = st25 := by
      rintro r rfl
      exact sj hF
     refine cLoop N (loopW (S := S33) (x := x33) ?_ N ((-1),0) _ _ ⟨p_6,c_6,hf.kp rfl,hc⟩ hx33)
     clear hF hf hc
     rintro ⟨next_,x_4⟩ st33 a w KB33 ⟨p_9,c_9,hf,hc⟩ hF hfin33 hK33
     unfold crew_Queue_b33 at hF
     refine zS fun K h => sp 1 hf rfl fun a hf => zT h ?_
     refine wp_seq_k fun K37 h37 => zI hf rfl hF ?_ ?_ <;> clear hF <;> intro hF
     ·refine wp_skip ?_
      refine h37 _ _ ?_
      refine wp_seq_k fun K38 h38 => ?_
      have hj38 : ∀ (next__1 : Int) (p_10 : Option Addr) (c_10 : Nat) a w,Has 105 a [(5,pq b_2),(6,.slice p_1 out.length c_1),(7,i6 at__1),(9,pq b_4),(10,pq b_5),(11,i6 next__1),(35,.slice c__Rides_p c_.Rides.length c__Rides_c),(36,i6 ((c_.Rides.length : Nat) : Int)),(37,i6 x),(59,.slice p_10 x_1.length c_10),(60,i6 ((x_1.length : Nat) : Int)),(61,i6 x_4)] → Ctx G (.row p_7 c_7 (x_3.map enc_crew_Ride) 72 4::.box b_5 [i6 c_.Car,i6 c_.Wide,i6 c_.Sag,i6 c_.Most,.slice p_7 x_3.length c_7] 54::.box b_4 [i6 x_2,i6 e_1.Long,i6 e_1.Weight.Lo,i6 e_1.Weight.Hi] 72::.row p_10 c_10 (x_1.map enc_crew_Ride) 72 4::.row p_1 c_1 (out.map encI_i64) 3 1::.box b_2 [i6 c_.Car,i6 c_.Wide,i6 c_.Sag,i6 c_.Most,.slice p_10 x_1.length c_10] 54::Lf) w → crew_Queue_j38 N x_4 next__1 = some st33 → K38 a w := by
       repeat (clear hF)
       repeat (clear hc)
       repeat (clear hf)
       intro next__1 p_10 c_10 a w hf hc hF
       unfold crew_Queue_j38 at hF
       refine h38 _ _ ?_
       refine cReg ?_
       refine sp 2 hf rfl fun a hf => cNil ?_
       exact hK33 (next__1,W (x_4 + 1)) _ _ (sj hF).symm ⟨p_10,c_10,hf.kp rfl,hc⟩
      refine wp_block ?_
      refine zS fun K h => ?_
      obtain ⟨e_3,he_3,hF⟩ := bnd_some hF
      obtain ⟨g_1,rfl,qa_2,qr_1⟩ := row_atm hc m3 he_3
      refine zP hf rfl (pIA Tryz.underlying52 sz_72 rfl rfl qa_2) fun a hf => zE hf hc rfl (eLdN (vs := [i6 e_3.From,i6 e_3.Long,i6 e_3.Weight.Lo,i6 e_3.Weight.Hi]) ag_72 rfl rfl (cells_rw (sz := 4) (i := x_4.toNat) m3 qr_1 (n := 4) (o' := 0) rfl)) fun a w hf hc => zA hf hc zr_72 rfl fun b_9 a w hf hc => zW hf hc sz_72 u0 rfl fun w hc => zT h ?_
      refine zS fun K h => zN hf hc ag_72 m0 rfl fun a w hf hc => sp 1 hf rfl fun a hf => zQ (v := .bool (crew_Ride_on e_3 at__1)) hf hc en_104 rfl (fun w hc => crew_Ride_on_ok e_3 at__1 hc rfl) fun a w hf hc => sp 1 hf rfl fun a hf => stCc 12 (fun a => Has 105 a [(5,pq b_2),(6,.slice p_1 out.length c_1),(7,i6 at__1),(9,pq b_4),(10,pq b_5),(11,i6 next_),(35,.slice c__Rides_p c_.Rides.length c__Rides_c),(36,i6 ((c_.Rides.length : Nat) : Int)),(37,i6 x),(59,.slice (some ⟨g_1,0,none⟩) x_1.length c_9),(60,i6 ((x_1.length : Nat) : Int)),(61,i6 x_4),(13,pq b_9),(65,.agg #[i6 e_3.From,i6 e_3.Long,i6 e_3.Weight.Lo,i6 e_3.Weight.Hi]),(66,i6 at__1),(67,.bool (crew_Ride_on e_3 at__1)),(68,.bool (crew_Ride_on e_3 at__1)),(80,.bool ((crew_Ride_on e_3 at__1) && ((next_ == (-1)) || (decide ((W (e_3.From + e_3.Long)) < next_)))))]) hc ?_ ?_
      ·cases hb : (crew_Ride_on e_3 at__1)
       ·rw [hb] at hf
        refine stS hf rfl rfl rfl fun a hf => stS hf rfl rfl rfl fun a hf => stS hf rfl rfl rfl fun a hf => stS hf rfl rfl rfl fun a hf => stS hf rfl rfl rfl fun a hf => stS hf rfl rfl rfl fun a hf => stS hf rfl rfl rfl fun a hf => stS hf rfl rfl rfl fun a hf => stS hf rfl rfl rfl fun a hf => stS hf rfl rfl rfl fun a hf => stS hf rfl rfl rfl fun a hf => sp 1 hf rfl fun a hf => cNil ⟨hf.kp rfl,hc⟩
       ·rw [hb] at hf
        refine sp 3 hf rfl fun a hf => stCc 8 (fun a => Has 105 a [(5,pq b_2),(6,.slice p_1 out.length c_1),(7,i6 at__1),(9,pq b_4),(10,pq b_5),(11,i6 next_),(35,.slice c__Rides_p c_.Rides.length c__Rides_c),(36,i6 ((c_.Rides.length : Nat) : Int)),(37,i6 x),(59,.slice (some ⟨g_1,0,none⟩) x_1.length c_9),(60,i6 ((x_1.length : Nat) : Int)),(61,i6 x_4),(13,pq b_9),(65,.agg #[i6 e_3.From,i6 e_3.Long,i6 e_3.Weight.Lo,i6 e_3.Weight.Hi]),(66,i6 at__1),(67,.bool true),(68,.bool true),(69,i6 next_),(70,.bool (next_ == (-1))),(71,.bool (next_ == (-1))),(79,.bool ((next_ == (-1)) || (decide ((W (e_3.From + e_3.Long)) < next_))))]) hc ?_ ?_
        ·cases hb : (next_ == (-1))
         ·rw [hb] at hf
          refine zP hf rfl (pFA fa_72_0 rfl) fun a hf => zL hf hc sc_3 m0 rfl fun a w hf hc => zP hf rfl (pFA fa_72_1 rfl) fun a hf => zL hf hc sc_3 m0 rfl fun a w hf hc => sp 4 hf rfl fun a hf => cNil ⟨hf.kp rfl,hc⟩
         ·rw [hb] at hf
          refine stS hf rfl rfl rfl fun a hf => stS hf rfl rfl rfl fun a hf => stS hf rfl rfl rfl fun a hf => stS hf rfl rfl rfl fun a hf => stS hf rfl rfl rfl fun a hf => stS hf rfl rfl rfl fun a hf => stS hf rfl rfl rfl fun a hf => sp 1 hf rfl fun a hf => cNil ⟨hf.kp rfl,hc⟩
        intro a w ⟨hf,hc⟩
        refine sp 1 hf rfl fun a hf => cNil ⟨hf.kp rfl,hc⟩
      intro a w ⟨hf,hc⟩
      refine zT h ?_
      refine zI hf rfl hF ?_ ?_ <;> clear hF <;> intro hF
      ·refine cReg ?_
       refine zP hf rfl (pFA fa_72_0 rfl) fun a hf => zL hf hc sc_3 m0 rfl fun a w hf hc => zP hf rfl (pFA fa_72_1 rfl) fun a hf => zL hf hc sc_3 m0 rfl fun a w hf hc => sp 2 hf rfl fun a hf => cNil ?_
       replace hc := hc.drop k0
       exact hj38 (W (e_3.From + e_3.Long)) (some ⟨g_1,0,none⟩) c_9 _ _  (hf.kp rfl) hc hF
      ·refine wp_skip ?_
       replace hc := hc.drop k0
       exact hj38 next_ (some ⟨g_1,0,none⟩) c_9 _ _  (hf.kp rfl) hc hF
     ·refine wp_exit ?_
      refine xThen ?_
      refine xThen ?_
      have he := sj hF
      rw [← he] at hfin33
      refine cHit ?_
      exact hr33 _ _ _ hfin33 ⟨p_9,c_9,hf.kp rfl,hc⟩
    ·refine wp_exit ?_
     refine xThen ?_
     refine xThen ?_
     have he := sj hF
     rw [← he] at hfin25
     refine cHit ?_
     exact hr25 _ _ _ hfin25 ⟨p_6,c_6,p_7,c_7,hf.kp rfl,hc⟩
   ·refine wp_exit ?_
    refine xThen ?_
    refine xThen ?_
    have he := sj hF
    rw [← he] at hfin14
    refine cHit ?_
    exact hr14 _ _ _ hfin14 ⟨p_1,c_1,p_2,c_2,hf.kp rfl,hc⟩

def crew_Paid_1 (n : Int) : Bool :=
 (crew_in n 0 1440)
theorem crew_Paid_1_ok {G : Pers} {Lf : List Ent} {w : World} (n : Int)   (hc : Ctx G (Lf) w) {res : Bool} (hF : crew_Paid_1 n = res) : Calls Tryz.prog 88 #[i6 n] w (fun e w => e = .returned (.bool res) ∧ Ctx G (Lf) w) := by
 unfold crew_Paid_1 at hF
 refine fnIn Tryz.func88 rfl Tryz.ntmps88 rfl fun a hf => zS fun K h => sp 1 hf rfl fun a hf => zT h ?_
 refine zS fun K h => sp 1 hf rfl fun a hf => zQ (v := .bool (crew_in n 0 1440)) hf hc en_86 rfl (fun w hc => crew_in_ok n 0 1440 hc rfl) fun a w hf hc => sp 1 hf rfl fun a hf => zT h ?_
 refine wp_ret ?_
 obtain rfl := hF
 exact zO1 Tryz.results88 hf rfl ⟨rfl,hc⟩

end Go.Nilo
