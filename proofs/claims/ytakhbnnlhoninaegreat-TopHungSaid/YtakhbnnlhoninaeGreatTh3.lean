/-
 What functions of the Go text compute, as plain functions, and that they do, part 3 of 4. Conditions: what each theorem names.
-/
import Derived.Test.YtakhbnnlhoninaeGreatTh2
import Derived.Test.YtakhbnnlhoninaeGreatProg
set_option linter.unusedVariables false
set_option linter.unusedSimpArgs false
set_option maxRecDepth 100000
set_option maxHeartbeats 4000000
namespace Go.Nilo
open Go.Proofs


def crew_every_crew_Station_1_s2 (N : Nat) (x : crew_Station) : Option (Bool) :=
 Option.bind (crew_Check_3 N x) fun r =>
 some (!r)
theorem crew_every_crew_Station_1_s2_ok {N : Nat} {G : Pers} {Lf : List Ent} {w : World} (x : crew_Station) {x_Order_p : Option Addr} {x_Order_c : Nat} {b_ : Nat} (h_x_Order : Rd G 1 x_Order_p x_Order_c (x.Order.map encI_i64)) (hc : Ctx G (.box b_ [.func (.func 120) #[] #[]] 170::Lf) w) {res : Bool} (hF : crew_every_crew_Station_1_s2 N x = some res) : Calls Tryz.prog 140 #[.agg #[i6 x.Places,.slice x_Order_p x.Order.length x_Order_c],pq b_] w (fun e w => e = .returned (.bool res) ∧ Ctx G (.box b_ [.func (.func 120) #[] #[]] 170::Lf) w) := by
 unfold crew_every_crew_Station_1_s2 at hF
 refine fnIn Tryz.func140 rfl Tryz.ntmps140 rfl fun a hf => zS fun K h => zB hf hc rfl fun b_1 a w hf hc => sp 1 hf rfl fun a hf => zT h ?_
 refine zS fun K h => zL hf hc sc_170 m1 rfl fun a w hf hc => zN hf hc ag_118 m0 rfl fun a w hf hc => ?_
 obtain ⟨r,hr,hF⟩ := bnd_some hF
 refine zQ (v := .bool r) hf hc en_120 rfl (fun w hc => crew_Check_3_ok x h_x_Order hc hr) fun a w hf hc => sp 2 hf rfl fun a hf => zT h ?_
 refine wp_ret ?_
 obtain rfl := sj hF
 replace hc := hc.drop k0
 exact zO1 Tryz.results140 hf rfl ⟨rfl,hc⟩

def slices_IndexFunc_Lcrew_Station_crew_Station_s2_b4 (N : Nat) (s_ : List crew_Station) (x : Int) : Option (Step (Int) (Int)) :=
 cond (decide (x < ((s_.length : Nat) : Int)))
 (Option.bind (getI s_ x) fun e_1 =>
 Option.bind (crew_every_crew_Station_1_s2 N e_1) fun r =>
 cond r
 (some (.ret x))
 (some (.cont (W (x + 1)))))
 (some (.brk x))
def slices_IndexFunc_Lcrew_Station_crew_Station_s2 (N : Nat) (s_ : List crew_Station) : Option (Int) :=
 Option.bind (loopO (fun s4 => slices_IndexFunc_Lcrew_Station_crew_Station_s2_b4 N s_ s4) N 0) fun x4 =>
 exK x4 (fun s4 => some (-1)) some
theorem slices_IndexFunc_Lcrew_Station_crew_Station_s2_ok {N : Nat} {G : Pers} {Lf : List Ent} {w : World} (s_ : List crew_Station) {s__p : Option Addr} {s__c : Nat} {b_ : Nat} (h_s_ : RdT kd_118 G 2 s__p s__c s_) (hc : Ctx G (.box b_ [.func (.func 120) #[] #[]] 170::Lf) w) {res : Int} (hF : slices_IndexFunc_Lcrew_Station_crew_Station_s2 N s_ = some res) : Calls Tryz.prog 147 #[.slice s__p s_.length s__c,.func (.func 140) #[] #[pq b_]] w (fun e w => e = .returned (i6 res) ∧ Ctx G (.box b_ [.func (.func 120) #[] #[]] 170::Lf) w) := by
 unfold slices_IndexFunc_Lcrew_Station_crew_Station_s2 at hF
 refine fnIn Tryz.func147 rfl Tryz.ntmps147 rfl fun a hf => zS fun K h => sp 1 hf rfl fun a hf => zT h ?_
 refine wp_seq_k fun K2 h2 => zS fun K h => sp 1 hf rfl fun a hf => zP hf rfl (pLenS Tryz.underlying93 rfl) fun a hf => sp 1 hf rfl fun a hf => zT h ?_
 refine wp_block ?_
 obtain ⟨x4,hx4,hF⟩ := bnd_some hF
 let S4 : Int → Act → World → Prop := (fun (zz : Int) a w => Has 19 a [(0,.slice s__p s_.length s__c),(1,.func (.func 140) #[] #[pq b_]),(7,i6 ((s_.length : Nat) : Int)),(8,i6 zz)] ∧ Ctx G (.box b_ [.func (.func 120) #[] #[]] 170::Lf) w)
 have hr4 : ∀ (zz : Int) a w,x4 = .go zz → S4 zz a w → K2 a w := by
  rintro x a w rfl ⟨hf,hc⟩
  replace hF := exK_go hF
  refine h2 _ _ ?_
  refine zS fun K h => sp 1 hf rfl fun a hf => zT h ?_
  refine wp_ret ?_
  obtain rfl := sj hF
  exact zO1 Tryz.results147 hf rfl ⟨rfl,hc⟩
 have ho4 : ∀ r,x4 = .out r → r = res := by
  rintro r rfl
  exact sj hF
 refine cLoop N (loopW (S := S4) (x := x4) ?_ N 0 _ _ ⟨hf.kp rfl,hc⟩ hx4)
 clear hF hf hc
 rintro x st4 a w KB4 ⟨hf,hc⟩ hF hfin4 hK4
 unfold slices_IndexFunc_Lcrew_Station_crew_Station_s2_b4 at hF
 refine zS fun K h => sp 1 hf rfl fun a hf => zT h ?_
 refine wp_seq_k fun K7 h7 => zI hf rfl hF ?_ ?_ <;> clear hF <;> intro hF
 ·refine wp_skip ?_
  refine h7 _ _ ?_
  refine wp_seq_k fun K8 h8 => wp_block ?_
  refine zS fun K h => sp 2 hf rfl fun a hf => zT h ?_
  refine zS fun K h => sp 3 hf rfl fun a hf => ?_
  obtain ⟨e_1,he_1,hF⟩ := bnd_some hF
  obtain ⟨b_1,o,hd,qa,qp,qr⟩ := h_s_.atm he_1
  refine zP hf rfl (pIA Tryz.underlying93 sz_118 rfl rfl qa) fun a hf => zE hf hc rfl (eLdN (vs := [i6 e_1.Places,.slice hd.1 e_1.Order.length hd.2]) ag_118 rfl rfl (cells_pc qp (n := 2) (o' := 0) rfl)) fun a w hf hc => ?_
  obtain ⟨r,hr,hF⟩ := bnd_some hF
  refine zQ (v := .bool r) hf hc en_140 rfl (fun w hc => (crew_every_crew_Station_1_s2_ok e_1 qr (hc.pick k0) hr).mono fun e w h => ⟨h.1,(h.2.unpick k0)⟩) fun a w hf hc => zT h ?_
  refine zI hf rfl hF ?_ ?_ <;> clear hF <;> intro hF
  ·refine zS fun K h => sp 2 hf rfl fun a hf => zT h ?_
   refine wp_ret ?_
   refine xBlkR ?_
   refine xThenR ?_
   refine xThenR ?_
   have he := sj hF
   rw [← he] at hfin4
   replace hF := ho4 _ hfin4
   refine xBlkR ?_
   refine xThenR ?_
   obtain rfl := hF
   exact zO1 Tryz.results147 hf rfl ⟨rfl,hc⟩
  ·refine wp_skip ?_
   refine h8 _ _ ?_
   refine cReg ?_
   refine sp 2 hf rfl fun a hf => cNil ?_
   exact hK4 (W (x + 1)) _ _ (sj hF).symm ⟨hf.kp rfl,hc⟩
 ·refine wp_exit ?_
  refine xThen ?_
  refine xThen ?_
  have he := sj hF
  rw [← he] at hfin4
  refine cHit ?_
  exact hr4 _ _ _ hfin4 ⟨hf.kp rfl,hc⟩

def slices_ContainsFunc_Lcrew_Station_crew_Station_s2 (N : Nat) (s_ : List crew_Station) : Option (Bool) :=
 Option.bind (slices_IndexFunc_Lcrew_Station_crew_Station_s2 N s_) fun r =>
 some (decide (0 ≤ r))
theorem slices_ContainsFunc_Lcrew_Station_crew_Station_s2_ok {N : Nat} {G : Pers} {Lf : List Ent} {w : World} (s_ : List crew_Station) {s__p : Option Addr} {s__c : Nat} {b_ : Nat} (h_s_ : RdT kd_118 G 2 s__p s__c s_) (hc : Ctx G (.box b_ [.func (.func 120) #[] #[]] 170::Lf) w) {res : Bool} (hF : slices_ContainsFunc_Lcrew_Station_crew_Station_s2 N s_ = some res) : Calls Tryz.prog 139 #[.slice s__p s_.length s__c,.func (.func 140) #[] #[pq b_]] w (fun e w => e = .returned (.bool res) ∧ Ctx G (.box b_ [.func (.func 120) #[] #[]] 170::Lf) w) := by
 unfold slices_ContainsFunc_Lcrew_Station_crew_Station_s2 at hF
 refine fnIn Tryz.func139 rfl Tryz.ntmps139 rfl fun a hf => zS fun K h => sp 1 hf rfl fun a hf => zT h ?_
 refine zS fun K h => sp 2 hf rfl fun a hf => ?_
 obtain ⟨r,hr,hF⟩ := bnd_some hF
 refine zQ (v := i6 r) hf hc en_147 rfl (fun w hc => (slices_IndexFunc_Lcrew_Station_crew_Station_s2_ok s_ h_s_ (hc.pick k0) hr).mono fun e w h => ⟨h.1,(h.2.unpick k0)⟩) fun a w hf hc => sp 2 hf rfl fun a hf => zT h ?_
 refine wp_ret ?_
 obtain rfl := sj hF
 exact zO1 Tryz.results139 hf rfl ⟨rfl,hc⟩

def crew_every_crew_Station_s2 (N : Nat) (l : List crew_Station) : Option (Bool) :=
 Option.bind (slices_ContainsFunc_Lcrew_Station_crew_Station_s2 N l) fun r =>
 some (!r)
theorem crew_every_crew_Station_s2_ok {N : Nat} {G : Pers} {Lf : List Ent} {w : World} (l : List crew_Station) {l_p : Option Addr} {l_c : Nat} (h_l : RdT kd_118 G 2 l_p l_c l) (hc : Ctx G (Lf) w) {res : Bool} (hF : crew_every_crew_Station_s2 N l = some res) : Calls Tryz.prog 116 #[.slice l_p l.length l_c,.func (.func 120) #[] #[]] w (fun e w => e = .returned (.bool res) ∧ Ctx G (Lf) w) := by
 unfold crew_every_crew_Station_s2 at hF
 refine fnIn Tryz.func116 rfl Tryz.ntmps116 rfl fun a hf => zS fun K h => zB hf hc rfl fun b_1 a w hf hc => sp 1 hf rfl fun a hf => zT h ?_
 refine zS fun K h => sp 1 hf rfl fun a hf => zP hf rfl (pMF (us := [pq b_1]) rfl rfl) fun a hf => ?_
 obtain ⟨r,hr,hF⟩ := bnd_some hF
 refine zQ (v := .bool r) hf hc en_139 rfl (fun w hc => (slices_ContainsFunc_Lcrew_Station_crew_Station_s2_ok l h_l (hc.pick k0) hr).mono fun e w h => ⟨h.1,(h.2.unpick k0)⟩) fun a w hf hc => sp 2 hf rfl fun a hf => zT h ?_
 refine wp_ret ?_
 obtain rfl := sj hF
 replace hc := hc.drop k0
 exact zO1 Tryz.results116 hf rfl ⟨rfl,hc⟩

def crew_Check (N : Nat) (r : crew_Roster) : Option (Int) :=
 cond ((!(crew_in ((r.People.length : Nat) : Int) 1 12)) || (!(crew_in ((r.Stations.length : Nat) : Int) 1 12)))
 (some 3)
 (Option.bind (crew_every_Lint N r.People r) fun r_0 =>
 Option.bind (cond (!r_0) (some true) (Option.bind (crew_every_crew_Station N r.Stations r) fun r_1 =>
 some (!r_1))) fun t_1 =>
 cond t_1
 (some 120)
 (Option.bind (crew_every_Lint_s2 N r.People) fun r_2 =>
 Option.bind (cond (!r_2) (some true) (Option.bind (crew_every_crew_Station_s2 N r.Stations) fun r_3 =>
 some (!r_3))) fun t_2 =>
 cond t_2
 (some 10)
 (some 0)))
theorem crew_Check_ok {N : Nat} {G : Pers} {Lf : List Ent} {w : World} (r : crew_Roster) {r_People_p : Option Addr} {r_People_c : Nat} {r_Stations_p : Option Addr} {r_Stations_c : Nat} (h_r_People : RdT kd_35 G 1 r_People_p r_People_c r.People) (h_r_Stations : RdT kd_118 G 2 r_Stations_p r_Stations_c r.Stations) (hc : Ctx G (Lf) w) {res : Int} (hF : crew_Check N r = some res) : Calls Tryz.prog 85 #[.agg #[.slice r_People_p r.People.length r_People_c,.slice r_Stations_p r.Stations.length r_Stations_c]] w (fun e w => e = .returned (i6 res) ∧ Ctx G (Lf) w) := by
 unfold crew_Check at hF
 refine fnIn Tryz.func85 rfl Tryz.ntmps85 rfl fun a hf => zS fun K h => zB hf hc rfl fun b_1 a w hf hc => sp 1 hf rfl fun a hf => zT h ?_
 refine wp_seq_k fun K2 h2 => wp_block ?_
 refine zS fun K h => zP hf rfl (pFA fa_95_0 rfl) fun a hf => zL hf hc sc_92 m0 rfl fun a w hf hc => zP hf rfl (pLenS Tryz.underlying92 rfl) fun a hf => zQ (v := .bool (crew_in ((r.People.length : Nat) : Int) 1 12)) hf hc en_56 rfl (fun w hc => crew_in_ok ((r.People.length : Nat) : Int) 1 12 hc rfl) fun a w hf hc => sp 2 hf rfl fun a hf => stCc 6 (fun a => Has 40 a [(1,pq b_1),(4,pq b_1),(5,.slice r_People_p r.People.length r_People_c),(6,i6 ((r.People.length : Nat) : Int)),(7,.bool (crew_in ((r.People.length : Nat) : Int) 1 12)),(8,.bool (!(crew_in ((r.People.length : Nat) : Int) 1 12))),(9,.bool (!(crew_in ((r.People.length : Nat) : Int) 1 12))),(15,.bool ((!(crew_in ((r.People.length : Nat) : Int) 1 12)) || (!(crew_in ((r.Stations.length : Nat) : Int) 1 12))))]) hc ?_ ?_
 ·cases hb : (!(crew_in ((r.People.length : Nat) : Int) 1 12))
  ·rw [hb] at hf
   refine zP hf rfl (pFA fa_95_1 rfl) fun a hf => zL hf hc sc_93 m0 rfl fun a w hf hc => zP hf rfl (pLenS Tryz.underlying93 rfl) fun a hf => zQ (v := .bool (crew_in ((r.Stations.length : Nat) : Int) 1 12)) hf hc en_56 rfl (fun w hc => crew_in_ok ((r.Stations.length : Nat) : Int) 1 12 hc rfl) fun a w hf hc => sp 2 hf rfl fun a hf => cNil ⟨hf.kp rfl,hc⟩
  ·rw [hb] at hf
   refine stS hf rfl rfl rfl fun a hf => stS hf rfl rfl rfl fun a hf => stS hf rfl rfl rfl fun a hf => stS hf rfl rfl rfl fun a hf => stS hf rfl rfl rfl fun a hf => sp 1 hf rfl fun a hf => cNil ⟨hf.kp rfl,hc⟩
 intro a w ⟨hf,hc⟩
 refine sp 1 hf rfl fun a hf => zT h ?_
 refine zI hf rfl hF ?_ ?_ <;> clear hF <;> intro hF
 ·refine zS fun K h => sp 1 hf rfl fun a hf => zT h ?_
  refine wp_ret ?_
  refine xBlkR ?_
  refine xThenR ?_
  obtain rfl := sj hF
  replace hc := hc.drop k0
  exact zO1 Tryz.results85 hf rfl ⟨rfl,hc⟩
 ·refine zS fun K h => zP hf rfl (pFA fa_95_0 rfl) fun a hf => zL hf hc sc_92 m0 rfl fun a w hf hc => zP hf rfl (pMF (us := [pq b_1]) rfl rfl) fun a hf => ?_
  obtain ⟨r_0,hr_0,hF⟩ := bnd_some hF
  refine zQ (v := .bool r_0) hf hc en_112 rfl (fun w hc => (crew_every_Lint_ok r.People r h_r_People h_r_People h_r_Stations (hc.pick k0) hr_0).mono fun e w h => ⟨h.1,(h.2.unpick k0)⟩) fun a w hf hc => sp 2 hf rfl fun a hf => ?_
  obtain ⟨t_1,ht_1,hF⟩ := bnd_some hF
  refine stCc 6 (fun a => Has 40 a [(1,pq b_1),(17,pq b_1),(18,.slice r_People_p r.People.length r_People_c),(19,.func (.func 113) #[] #[pq b_1]),(20,.bool r_0),(21,.bool (!r_0)),(22,.bool (!r_0)),(28,.bool t_1)]) hc ?_ ?_
  ·cases hb : (!r_0)
   ·rw [hb] at hf
    have hF := condF hb ht_1
    refine zP hf rfl (pFA fa_95_1 rfl) fun a hf => zL hf hc sc_93 m0 rfl fun a w hf hc => zP hf rfl (pMF (us := [pq b_1]) rfl rfl) fun a hf => ?_
    obtain ⟨r_1,hr_1,hF⟩ := bnd_some hF
    refine zQ (v := .bool r_1) hf hc en_116 rfl (fun w hc => (crew_every_crew_Station_ok r.Stations r h_r_Stations h_r_People h_r_Stations (hc.pick k0) hr_1).mono fun e w h => ⟨h.1,(h.2.unpick k0)⟩) fun a w hf hc => sp 2 hf rfl fun a hf => ?_
    obtain rfl := sj hF
    exact cNil ⟨hf.kp rfl,hc⟩
   ·rw [hb] at hf
    have hF := condT hb ht_1
    obtain rfl := sj hF
    refine stS hf rfl rfl rfl fun a hf => stS hf rfl rfl rfl fun a hf => stS hf rfl rfl rfl fun a hf => stS hf rfl rfl rfl fun a hf => stS hf rfl rfl rfl fun a hf => sp 1 hf rfl fun a hf => cNil ⟨hf.kp rfl,hc⟩
  intro a w ⟨hf,hc⟩
  refine sp 1 hf rfl fun a hf => zT h ?_
  refine zI hf rfl hF ?_ ?_ <;> clear hF <;> intro hF
  ·refine zS fun K h => sp 1 hf rfl fun a hf => zT h ?_
   refine wp_ret ?_
   refine xBlkR ?_
   refine xThenR ?_
   obtain rfl := sj hF
   replace hc := hc.drop k0
   exact zO1 Tryz.results85 hf rfl ⟨rfl,hc⟩
  ·refine zS fun K h => zP hf rfl (pFA fa_95_0 rfl) fun a hf => zL hf hc sc_92 m0 rfl fun a w hf hc => ?_
   obtain ⟨r_2,hr_2,hF⟩ := bnd_some hF
   refine zQ (v := .bool r_2) hf hc en_112 rfl (fun w hc => crew_every_Lint_s2_ok r.People h_r_People hc hr_2) fun a w hf hc => sp 2 hf rfl fun a hf => ?_
   obtain ⟨t_2,ht_2,hF⟩ := bnd_some hF
   refine stCc 5 (fun a => Has 40 a [(1,pq b_1),(30,pq b_1),(31,.slice r_People_p r.People.length r_People_c),(32,.bool r_2),(33,.bool (!r_2)),(34,.bool (!r_2)),(39,.bool t_2)]) hc ?_ ?_
   ·cases hb : (!r_2)
    ·rw [hb] at hf
     have hF := condF hb ht_2
     refine zP hf rfl (pFA fa_95_1 rfl) fun a hf => zL hf hc sc_93 m0 rfl fun a w hf hc => ?_
     obtain ⟨r_3,hr_3,hF⟩ := bnd_some hF
     refine zQ (v := .bool r_3) hf hc en_116 rfl (fun w hc => crew_every_crew_Station_s2_ok r.Stations h_r_Stations hc hr_3) fun a w hf hc => sp 2 hf rfl fun a hf => ?_
     obtain rfl := sj hF
     exact cNil ⟨hf.kp rfl,hc⟩
    ·rw [hb] at hf
     have hF := condT hb ht_2
     obtain rfl := sj hF
     refine stS hf rfl rfl rfl fun a hf => stS hf rfl rfl rfl fun a hf => stS hf rfl rfl rfl fun a hf => stS hf rfl rfl rfl fun a hf => sp 1 hf rfl fun a hf => cNil ⟨hf.kp rfl,hc⟩
   intro a w ⟨hf,hc⟩
   refine sp 1 hf rfl fun a hf => zT h ?_
   refine zI hf rfl hF ?_ ?_ <;> clear hF <;> intro hF
   ·refine zS fun K h => sp 1 hf rfl fun a hf => zT h ?_
    refine wp_ret ?_
    refine xBlkR ?_
    refine xThenR ?_
    obtain rfl := sj hF
    replace hc := hc.drop k0
    exact zO1 Tryz.results85 hf rfl ⟨rfl,hc⟩
   ·refine wp_skip ?_
    refine h2 _ _ ?_
    refine zS fun K h => sp 1 hf rfl fun a hf => zT h ?_
    refine wp_ret ?_
    obtain rfl := sj hF
    replace hc := hc.drop k0
    exact zO1 Tryz.results85 hf rfl ⟨rfl,hc⟩

def crew_opened_b17 (N : Nat) (r : crew_Roster) (x : Int) (e_1 : crew_Station) (x_2 : Int) (x_3 : Nat → Int) : Option (Step (Int × (Nat → Int)) (Step (Int × (Nat → Int)) ((Int) ⊕ ((Nat → Int) × Int)))) :=
 cond (decide (x_2 < ((r.People.length : Nat) : Int)))
 (Option.bind (slices_Index_Lint_int N e_1.Order x_2) fun r_1 =>
 Option.bind (inR x 12) fun un =>
 Option.bind (inR x_2 12) fun un_1 =>
 some (.cont (W (x_2 + 1),(setF x_3 (x * 12 + x_2).toNat r_1))))
 (some (.brk (x_2,x_3)))
def crew_opened_b9 (N : Nat) (r : crew_Roster) (x : Int) (x_1 : Nat → Int) : Option (Step (Int × (Nat → Int)) ((Int) ⊕ ((Nat → Int) × Int))) :=
 cond (decide (x < ((r.Stations.length : Nat) : Int)))
 (Option.bind (getI r.Stations x) fun e_1 =>
 Option.bind (loopO (fun s17 => crew_opened_b17 N r x e_1 s17.1 s17.2) N (0,x_1)) fun x17 =>
 exK x17 (fun s17 => some (.cont (W (x + 1),s17.2))) some)
 (some (.brk (x,x_1)))
def crew_opened (N : Nat) (r : crew_Roster) : Option ((Int) ⊕ ((Nat → Int) × Int)) :=
 Option.bind (crew_Check N r) fun r_0 =>
 cond (r_0 != 0)
 (some (.inl r_0))
 (Option.bind (loopO (fun s9 => crew_opened_b9 N r s9.1 s9.2) N (0,(fun _ => 0))) fun x9 =>
 exK x9 (fun s9 => some (.inr (s9.2,0))) some)
theorem crew_opened_ok {N : Nat} {G : Pers} {Lf : List Ent} {w : World} (r : crew_Roster) {r_People_p : Option Addr} {r_People_c : Nat} {r_Stations_p : Option Addr} {r_Stations_c : Nat} (h_r_People : RdT kd_35 G 1 r_People_p r_People_c r.People) (h_r_Stations : RdT kd_118 G 2 r_Stations_p r_Stations_c r.Stations) (hc : Ctx G (Lf) w) {res : (Int) ⊕ ((Nat → Int) × Int)} (hF : crew_opened N r = some res) : Calls Tryz.prog 67 #[.agg #[.slice r_People_p r.People.length r_People_c,.slice r_Stations_p r.Stations.length r_Stations_c]] w (fun e w => sumK (fun rr => e = .returned (.tuple #[.pointer none,i6 rr]) ∧ Ctx G (Lf) w) (fun rr => ∃ (b'1 : Nat),e = .returned (.tuple #[pq b'1,i6 rr.2]) ∧ Ctx G (.box b'1 (catc [.slice r_People_p r.People.length r_People_c,.slice r_Stations_p r.Stations.length r_Stations_c] 144 encI_i64 rr.1 []) 136::Lf) w) res) := by
 unfold crew_opened at hF
 refine fnIn Tryz.func67 rfl Tryz.ntmps67 rfl fun a hf => zS fun K h => zB hf hc rfl fun b_1 a w hf hc => sp 2 hf rfl fun a hf => zT h ?_
 refine wp_seq_k fun K2 h2 => zS fun K h => zN hf hc ag_95 m0 rfl fun a w hf hc => ?_
 obtain ⟨r_0,hr_0,hF⟩ := bnd_some hF
 refine zQ (v := i6 r_0) hf hc en_85 rfl (fun w hc => crew_Check_ok r h_r_People h_r_Stations hc hr_0) fun a w hf hc => sp 1 hf rfl fun a hf => zT h ?_
 refine zS fun K h => sp 2 hf rfl fun a hf => zT h ?_
 refine zI hf rfl hF ?_ ?_ <;> clear hF <;> intro hF
 ·refine zS fun K h => sp 3 hf rfl fun a hf => zT h ?_
  refine wp_ret ?_
  refine xThenR ?_
  obtain rfl := sj hF
  replace hc := hc.drop k0
  exact zO2 Tryz.results67 hf rfl rfl ⟨rfl,hc⟩
 ·refine wp_skip ?_
  refine h2 _ _ ?_
  refine zS fun K h => zN hf hc ag_95 m0 rfl fun a w hf hc => zP hf rfl (pBuildS (cells := (catc [.slice r_People_p r.People.length r_People_c,.slice r_Stations_p r.Stations.length r_Stations_c] 144 encI_i64 (fun _ => 0) [])) bt_136 rfl rfl) fun a hf => stBx (cs := (catc [.slice r_People_p r.People.length r_People_c,.slice r_Stations_p r.Stations.length r_Stations_c] 144 encI_i64 (fun _ => 0) [])) hf hc rfl rfl rfl rfl fun b_2 a w hf hc => sp 1 hf rfl fun a hf => zT h ?_
  refine wp_seq_k fun K7 h7 => zS fun K h => zP hf rfl (pFA fa_95_1 rfl) fun a hf => zL hf hc sc_93 m1 rfl fun a w hf hc => zP hf rfl (pLenS Tryz.underlying93 rfl) fun a hf => sp 1 hf rfl fun a hf => zT h ?_
  refine wp_block ?_
  obtain ⟨x9,hx9,hF⟩ := bnd_some hF
  let S9 : (Int × (Nat → Int)) → Act → World → Prop := (fun (zz : Int × (Nat → Int)) a w => Has 45 a [(1,pq b_1),(5,pq b_2),(18,.slice r_Stations_p r.Stations.length r_Stations_c),(19,i6 ((r.Stations.length : Nat) : Int)),(20,i6 zz.1)] ∧ Ctx G (.box b_2 (catc [.slice r_People_p r.People.length r_People_c,.slice r_Stations_p r.Stations.length r_Stations_c] 144 encI_i64 zz.2 []) 136::.box b_1 [.slice r_People_p r.People.length r_People_c,.slice r_Stations_p r.Stations.length r_Stations_c] 95::Lf) w)
  have hr9 : ∀ (zz : Int × (Nat → Int)) a w,x9 = .go zz → S9 zz a w → K7 a w := by
   rintro ⟨x,x_1⟩ a w rfl ⟨hf,hc⟩
   replace hF := exK_go hF
   refine h7 _ _ ?_
   refine zS fun K h => sp 3 hf rfl fun a hf => zT h ?_
   refine wp_ret ?_
   obtain rfl := sj hF
   replace hc := hc.drop k1
   exact zO2 Tryz.results67 hf rfl rfl ⟨b_2,rfl,hc⟩
  have ho9 : ∀ r,x9 = .out r → r = res := by
   rintro r rfl
   exact sj hF
  refine cLoop N (loopW (S := S9) (x := x9) ?_ N (0,(fun _ => 0)) _ _ ⟨hf.kp rfl,hc⟩ hx9)
  clear hF hf hc
  rintro ⟨x,x_1⟩ st9 a w KB9 ⟨hf,hc⟩ hF hfin9 hK9
  unfold crew_opened_b9 at hF
  refine zS fun K h => sp 1 hf rfl fun a hf => zT h ?_
  refine wp_seq_k fun K12 h12 => zI hf rfl hF ?_ ?_ <;> clear hF <;> intro hF
  ·refine wp_skip ?_
   refine h12 _ _ ?_
   refine wp_seq_k fun K13 h13 => wp_block ?_
   refine zS fun K h => sp 1 hf rfl fun a hf => ?_
   obtain ⟨e_1,he_1,hF⟩ := bnd_some hF
   obtain ⟨b_3,o,hd,qa,qp,qr⟩ := h_r_Stations.atm he_1
   refine zP hf rfl (pIA Tryz.underlying93 sz_118 rfl rfl qa) fun a hf => zE hf hc rfl (eLdN (vs := [i6 e_1.Places,.slice hd.1 e_1.Order.length hd.2]) ag_118 rfl rfl (cells_pc qp (n := 2) (o' := 0) rfl)) fun a w hf hc => zA hf hc zr_118 rfl fun b_4 a w hf hc => sp 1 hf rfl fun a hf => zW hf hc sz_118 u0 rfl fun w hc => zT h ?_
   refine zS fun K h => zP hf rfl (pFA fa_95_0 rfl) fun a hf => zL hf hc sc_92 m2 rfl fun a w hf hc => zP hf rfl (pLenS Tryz.underlying92 rfl) fun a hf => sp 1 hf rfl fun a hf => zT h ?_
   refine wp_thenK fun K16 h16 => wp_block ?_
   obtain ⟨x17,hx17,hF⟩ := bnd_some hF
   let S17 : (Int × (Nat → Int)) → Act → World → Prop := (fun (zz : Int × (Nat → Int)) a w => Has 45 a [(1,pq b_1),(5,pq b_2),(6,i6 x),(7,pq b_4),(18,.slice r_Stations_p r.Stations.length r_Stations_c),(19,i6 ((r.Stations.length : Nat) : Int)),(20,i6 x),(27,i6 ((r.People.length : Nat) : Int)),(28,i6 zz.1)] ∧ Ctx G (.box b_4 [i6 e_1.Places,.slice hd.1 e_1.Order.length hd.2] 118::.box b_2 (catc [.slice r_People_p r.People.length r_People_c,.slice r_Stations_p r.Stations.length r_Stations_c] 144 encI_i64 zz.2 []) 136::.box b_1 [.slice r_People_p r.People.length r_People_c,.slice r_Stations_p r.Stations.length r_Stations_c] 95::Lf) w)
   have hr17 : ∀ (zz : Int × (Nat → Int)) a w,x17 = .go zz → S17 zz a w → K16 a w := by
    rintro ⟨x_2,x_3⟩ a w rfl ⟨hf,hc⟩
    replace hF := exK_go hF
    refine h16 _ _ ?_
    refine h13 _ _ ?_
    refine cReg ?_
    refine sp 2 hf rfl fun a hf => cNil ?_
    replace hc := hc.drop k0
    exact hK9 (W (x + 1),x_3) _ _ (sj hF).symm ⟨hf.kp rfl,hc⟩
   have ho17 : ∀ r,x17 = .out r → r = st9 := by
    rintro r rfl
    exact sj hF
   refine cLoop N (loopW (S := S17) (x := x17) ?_ N (0,x_1) _ _ ⟨hf.kp rfl,hc⟩ hx17)
   clear hF hf hc
   rintro ⟨x_2,x_3⟩ st17 a w KB17 ⟨hf,hc⟩ hF hfin17 hK17
   unfold crew_opened_b17 at hF
   refine zS fun K h => sp 1 hf rfl fun a hf => zT h ?_
   refine wp_seq_k fun K19 h19 => zI hf rfl hF ?_ ?_ <;> clear hF <;> intro hF
   ·refine wp_skip ?_
    refine h19 _ _ ?_
    refine wp_seq_k fun K20 h20 => wp_block ?_
    refine zS fun K h => sp 2 hf rfl fun a hf => zT h ?_
    obtain ⟨r_1,hr_1,hF⟩ := bnd_some hF
    obtain ⟨un,hun,hF⟩ := bnd_some hF
    obtain ⟨un_1,hun_1,hF⟩ := bnd_some hF
    refine regionE (fun θ => [⟨none,none,1,pq b_1⟩,⟨none,none,5,pq b_2⟩,⟨none,none,6,i6 x⟩,⟨none,none,7,pq b_4⟩,⟨none,none,8,i6 x_2⟩,⟨none,none,18,.slice r_Stations_p r.Stations.length r_Stations_c⟩,⟨none,none,19,i6 ((r.Stations.length : Nat) : Int)⟩,⟨none,none,20,i6 x⟩,⟨none,none,27,i6 ((r.People.length : Nat) : Int)⟩,⟨none,none,28,i6 x_2⟩,⟨some 0,none,31,pq b_2⟩,⟨some 1,none,32,i6 x⟩,⟨some 2,none,33,i6 x_2⟩,⟨some 3,none,34,.pointer (some ⟨b_4,1,none⟩)⟩,⟨some 4,none,35,.slice hd.1 e_1.Order.length hd.2⟩,⟨some 5,none,36,i6 x_2⟩,⟨some 6,none,37,i6 r_1⟩,⟨some 7,none,38,pq b_2⟩,⟨some 8,none,39,.pointer (some ⟨b_2,2,none⟩)⟩,⟨some 9,none,40,.pointer (some ⟨b_2,2 + x.toNat * 12,none⟩)⟩,⟨some 10,none,41,.pointer (some ⟨b_2,2 + (x * 12 + x_2).toNat * 1,none⟩)⟩]) (fun E θ => .box b_4 [i6 e_1.Places,.slice hd.1 e_1.Order.length hd.2] 118::(bif E 11 then .box b_2 (catc [.slice r_People_p r.People.length r_People_c,.slice r_Stations_p r.Stations.length r_Stations_c] 144 encI_i64 (setF x_3 (x * 12 + x_2).toNat r_1) []) 136 else .box b_2 (catc [.slice r_People_p r.People.length r_People_c,.slice r_Stations_p r.Stations.length r_Stations_c] 144 encI_i64 x_3 []) 136)::.box b_1 [.slice r_People_p r.People.length r_People_c,.slice r_Stations_p r.Stations.length r_Stations_c] 95::Lf) [] (fun a w => Has 45 a [(1,pq b_1),(5,pq b_2),(6,i6 x),(7,pq b_4),(18,.slice r_Stations_p r.Stations.length r_Stations_c),(19,i6 ((r.Stations.length : Nat) : Int)),(20,i6 x),(27,i6 ((r.People.length : Nat) : Int)),(28,i6 x_2)] ∧ Ctx G (.box b_4 [i6 e_1.Places,.slice hd.1 e_1.Order.length hd.2] 118::.box b_2 (catc [.slice r_People_p r.People.length r_People_c,.slice r_Stations_p r.Stations.length r_Stations_c] 144 encI_i64 (setF x_3 (x * 12 + x_2).toNat r_1) []) 136::.box b_1 [.slice r_People_p r.People.length r_People_c,.slice r_Stations_p r.Stations.length r_Stations_c] 95::Lf) w) follows_mx (by kernel_rfl) (by kernel_rfl) (HasE.of hf ⟨rfl,rfl,rfl,rfl,rfl,rfl,rfl,rfl,rfl,rfl,trivial,trivial,trivial,trivial,trivial,trivial,trivial,trivial,trivial,trivial,trivial,trivial⟩) hc ⟨?_,?_,?_,?_,?_,?_,?_,?_,?_,?_,?_,?_,trivial⟩ ?_ ?_
    ·intro E θ a w hD hi hp he hc
     have hf := he.h0.mT he 1 rfl
     refine sp 1 hf rfl fun a hf => zD θ he hi hf 10 rfl rfl rfl hc
    ·intro E θ a w hD hi hp he hc
     have hf := he.h0.mT he 2 rfl
     refine sp 1 hf rfl fun a hf => zD θ he hi hf 11 rfl rfl rfl hc
    ·intro E θ a w hD hi hp he hc
     have hf := he.h0.mT he 4 rfl
     refine sp 1 hf rfl fun a hf => zD θ he hi hf 12 rfl rfl rfl hc
    ·intro E θ a w hD hi hp he hc
     have hf := he.h0.mT he 3 rfl
     refine zP hf rfl (pFA fa_118_1 rfl) fun a hf => zD θ he hi hf 13 rfl rfl rfl hc
    ·intro E θ a w hD hi hp he hc
     have e3 := hp.o 3 rfl
     have hf := he.h0.mP he 13 rfl e3
     refine zL hf hc sc_35 m0 rfl fun a w hf hc => zD θ he hi hf 14 rfl rfl rfl hc
    ·intro E θ a w hD hi hp he hc
     have hf := he.h0.mT he 4 rfl
     refine sp 1 hf rfl fun a hf => zD θ he hi hf 15 rfl rfl rfl hc
    ·intro E θ a w hD hi hp he hc
     have e4 := hp.o 4 rfl
     have e5 := hp.o 5 rfl
     have hf := (he.h0.mP he 14 rfl e4).mP he 15 rfl e5
     refine zQ (v := i6 r_1) hf hc en_86 rfl (fun w hc => slices_Index_Lint_int_ok e_1.Order x_2 qr hc hr_1) fun a w hf hc => zD θ he hi hf 16 rfl rfl rfl hc
    ·intro E θ a w hD hi hp he hc
     have e0 := hp.o 0 rfl
     have hf := he.h0.mP he 10 rfl e0
     refine sp 1 hf rfl fun a hf => zD θ he hi hf 17 rfl rfl rfl hc
    ·intro E θ a w hD hi hp he hc
     have e7 := hp.o 7 rfl
     have hf := he.h0.mP he 17 rfl e7
     refine zP hf rfl (pFA fa_136_1 rfl) fun a hf => zD θ he hi hf 18 rfl rfl rfl hc
    ·intro E θ a w hD hi hp he hc
     have e1 := hp.o 1 rfl
     have e8 := hp.o 8 rfl
     have hf := (he.h0.mP he 11 rfl e1).mP he 18 rfl e8
     refine zP hf rfl (pIAA Tryz.underlying134 sz_133 rfl rfl (inR_spec hun).1 (inR_spec hun).2) fun a hf => zD θ he hi hf 19 rfl rfl rfl hc
    ·intro E θ a w hD hi hp he hc
     have e2 := hp.o 2 rfl
     have e9 := hp.o 9 rfl
     have hf := (he.h0.mP he 12 rfl e2).mP he 19 rfl e9
     refine zP hf rfl (Pu.cast (pIAA Tryz.underlying133 sz_3 rfl rfl (inR_spec hun_1).1 (inR_spec hun_1).2) (congrArg (fun k => Value.pointer (some ⟨b_2,k,none⟩)) (flat_off (M := 12) (2) hun hun_1 rfl))) fun a hf => zD θ he hi hf 20 rfl rfl rfl hc
    ·intro E θ a w hD hi hp he hc
     have e6 := hp.o 6 rfl
     have e10 := hp.o 10 rfl
     try dsimp only at hc
     rw [hi] at hc
     have hf := (he.h0.mP he 16 rfl e6).mP he 20 rfl e10
     refine stAr (vs := [i6 r_1]) (o' := 0) (z := r_1) hf hc rfl rfl rfl rfl sz_3 rfl (fun x => (one_encI_i64 x).1) rfl (inR2 hun hun_1 rfl) rfl rfl u1 fun w hc => zG θ he hi hf rfl ?_
     try dsimp only
     rw [updE_self E 11]
     exact hc
    ·intro E θ a w hall he hc
     have hf := he.h0
     have e11 := hall 11 rfl
     replace hf := hf.more he 9 rfl (onT)
     replace hf := hf.more he 8 rfl (onT)
     replace hf := hf.more he 7 rfl (onT)
     replace hf := hf.more he 6 rfl (onT)
     replace hf := hf.more he 5 rfl (onT)
     replace hf := hf.more he 3 rfl (onT)
     replace hf := hf.more he 2 rfl (onT)
     replace hf := hf.more he 1 rfl (onT)
     replace hf := hf.more he 0 rfl (onT)
     try dsimp only at hc
     rw [e11] at hc
     exact ⟨hf.kp rfl,hc⟩
    rintro a w ⟨hf,hc⟩
    refine h20 _ _ ?_
    refine cReg ?_
    refine sp 2 hf rfl fun a hf => cNil ?_
    exact hK17 (W (x_2 + 1),(setF x_3 (x * 12 + x_2).toNat r_1)) _ _ (sj hF).symm ⟨hf.kp rfl,hc⟩
   ·refine wp_exit ?_
    refine xThen ?_
    refine xThen ?_
    have he := sj hF
    rw [← he] at hfin17
    refine cHit ?_
    exact hr17 _ _ _ hfin17 ⟨hf.kp rfl,hc⟩
  ·refine wp_exit ?_
   refine xThen ?_
   refine xThen ?_
   have he := sj hF
   rw [← he] at hfin9
   refine cHit ?_
   exact hr9 _ _ _ hfin9 ⟨hf.kp rfl,hc⟩

def math_bits_Mul (N : Nat) (x : Int) (y : Int) : Option (Int × Int) :=
 mulU x y
/-! ### Walks of the library -/

theorem math_bits_Mul_ok {N : Nat} {G : Pers} {Lf : List Ent} {w : World} (x : Int) (y : Int)   (hc : Ctx G (Lf) w) {res : Int × Int} (hF : math_bits_Mul N x y = some res) : Calls Tryz.prog 121 #[.int .u64 x,.int .u64 y] w (fun e w => e = .returned (.tuple #[.int .u64 res.1,.int .u64 res.2]) ∧ Ctx G (Lf) w) := by
 unfold math_bits_Mul at hF
 exact mul_ctx (fun x y h1 h2 w => Go.Proofs.Any.bits_Mul Go.Proofs.Tryz.lays212 x y h1 h2 w) hc hF

def slices_Repeat_Lint_int_b10 (N : Nat) (newslice : List Int) (n : Int) : Option (Step ((List Int) × Int) ((List Int))) :=
 cond (decide (n < ((newslice.length : Nat) : Int)))
 (Option.bind (subO newslice n ((newslice.length : Nat) : Int)) fun sub =>
 Option.bind (subO newslice 0 n) fun sub_1 =>
 Option.bind (cpOk sub_1.length sub.length) fun un_2 =>
 some (.cont ((cpL newslice n.toNat sub.length sub_1),W (n + ((Nat.min sub_1.length sub.length : Nat) : Int)))))
 (some (.brk (newslice,n)))
def slices_Repeat_Lint_int (N : Nat) (x : List Int) (count : Int) : Option ((List Int)) :=
 cond (decide (count < 0))
 (none)
 (Option.bind (math_bits_Mul N (IntKind.u64.wrap (((x.length : Nat) : Int))) (IntKind.u64.wrap (count))) fun r =>
 cond ((decide (0 < r.1)) || (decide (9223372036854775807 < r.2)))
 (none)
 (Option.bind (inM (W (r.2))) fun un =>
 Option.bind (cpOk x.length ((List.replicate (W (r.2)).toNat (0 : Int)).length)) fun un_1 =>
 Option.bind (loopO (fun s10 => slices_Repeat_Lint_int_b10 N s10.1 s10.2) N ((cpL (List.replicate (W (r.2)).toNat (0 : Int)) 0 ((List.replicate (W (r.2)).toNat (0 : Int)).length) x),((Nat.min x.length ((List.replicate (W (r.2)).toNat (0 : Int)).length) : Nat) : Int))) fun x10 =>
 exK x10 (fun s10 => some s10.1) some))
theorem slices_Repeat_Lint_int_ok {N : Nat} {G : Pers} {Lf : List Ent} {w : World} (x : List Int) (count : Int) {x_p : Option Addr} {x_c : Nat} (h_x : Rd G 1 x_p x_c (x.map encI_i64)) (hc : Ctx G (Lf) w) {res : (List Int)} (hF : slices_Repeat_Lint_int N x count = some res) : Calls Tryz.prog 87 #[.slice x_p x.length x_c,i6 count] w (fun e w => ∃ (p'1 : Option Addr) (c'1 : Nat),e = .returned (.slice p'1 res.length c'1) ∧ Ctx G (.row p'1 c'1 (res.map encI_i64) 3 1::Lf) w) := by
 unfold slices_Repeat_Lint_int at hF
 refine fnIn Tryz.func87 rfl Tryz.ntmps87 rfl fun a hf => zS fun K h => sp 1 hf rfl fun a hf => zT h ?_
 refine wp_seq_k fun K2 h2 => zS fun K h => sp 2 hf rfl fun a hf => zT h ?_
 refine zI hf rfl hF ?_ ?_ <;> clear hF <;> intro hF
 ·exact noneO hF
 ·refine wp_skip ?_
  refine h2 _ _ ?_
  refine zS fun K h => sp 1 hf rfl fun a hf => zP hf rfl (pLenS Tryz.underlying35 rfl) fun a hf => zP hf rfl (pCv Tryz.underlying3 Tryz.underlying127 rfl) fun a hf => sp 1 hf rfl fun a hf => zP hf rfl (pCv Tryz.underlying3 Tryz.underlying127 rfl) fun a hf => ?_
  obtain ⟨r,hr,hF⟩ := bnd_some hF
  refine zQ (v := .tuple #[.int .u64 r.1,.int .u64 r.2]) hf hc en_121 rfl (fun w hc => math_bits_Mul_ok (IntKind.u64.wrap (((x.length : Nat) : Int))) (IntKind.u64.wrap (count)) hc hr) fun a w hf hc => sp 5 hf rfl fun a hf => zT h ?_
  refine wp_seq_k fun K5 h5 => zS fun K h => sp 3 hf rfl fun a hf => stCc 3 (fun a => Has 48 a [(0,.slice x_p x.length x_c),(5,.int .u64 r.1),(6,.int .u64 r.2),(21,.int .u64 r.1),(22,.bool (decide (0 < r.1))),(23,.bool (decide (0 < r.1))),(26,.bool ((decide (0 < r.1)) || (decide (9223372036854775807 < r.2))))]) hc ?_ ?_
  ·cases hb : (decide (0 < r.1))
   ·rw [hb] at hf
    refine sp 3 hf rfl fun a hf => cNil ⟨hf.kp rfl,hc⟩
   ·rw [hb] at hf
    refine stS hf rfl rfl rfl fun a hf => stS hf rfl rfl rfl fun a hf => sp 1 hf rfl fun a hf => cNil ⟨hf.kp rfl,hc⟩
  intro a w ⟨hf,hc⟩
  refine zT h ?_
  refine zI hf rfl hF ?_ ?_ <;> clear hF <;> intro hF
  ·exact noneO hF
  ·refine wp_skip ?_
   refine h5 _ _ ?_
   refine zS fun K h => sp 1 hf rfl fun a hf => zP hf rfl (pCv Tryz.underlying127 Tryz.underlying3 rfl) fun a hf => ?_
   obtain ⟨un,hun,hF⟩ := bnd_some hF
   refine stMk (m := (List.replicate (W (r.2)).toNat (0 : Int)).length) (rows := (List.replicate (W (r.2)).toNat (0 : Int)).map encI_i64) hf hc rfl rfl sl_35 rfl rfl (inM_spec hun) rfl rfl (by simp [List.map_replicate,Value.cells]) (by simp) fun b_1 a w hf hc => sp 1 hf rfl fun a hf => zT h ?_
   refine zS fun K h => sp 2 hf rfl fun a hf => ?_
   obtain ⟨un_1,hun_1,hF⟩ := bnd_some hF
   refine stCp (enc := encI_i64) (R := (List.replicate (W (r.2)).toNat (0 : Int))) (S := x) (lo := 0) hf hc rfl rfl Tryz.underlying35 sz_3 rfl (by simp) rfl rfl one_encI_i64 (src_rd hc h_x) (cpOk_spec hun_1) (by simp) u0 fun a w hf hc => sp 1 hf rfl fun a hf => zT h ?_
   refine wp_seq_k fun K9 h9 => wp_block ?_
   obtain ⟨x10,hx10,hF⟩ := bnd_some hF
   let S10 : ((List Int) × Int) → Act → World → Prop := (fun (zz : (List Int) × Int) a w => Has 48 a [(7,.slice (some ⟨b_1,0,none⟩) zz.1.length ((W (r.2)).toNat)),(8,i6 zz.2)] ∧ Ctx G (.row (some ⟨b_1,0,none⟩) ((W (r.2)).toNat) (zz.1.map encI_i64) 3 1::Lf) w)
   have hr10 : ∀ (zz : (List Int) × Int) a w,x10 = .go zz → S10 zz a w → K9 a w := by
    rintro ⟨newslice,n⟩ a w rfl ⟨hf,hc⟩
    replace hF := exK_go hF
    refine h9 _ _ ?_
    refine zS fun K h => sp 2 hf rfl fun a hf => zT h ?_
    refine wp_ret ?_
    obtain rfl := sj hF
    exact zO1 Tryz.results87 hf rfl ⟨(some ⟨b_1,0,none⟩),(W (r.2)).toNat,rfl,hc⟩
   have ho10 : ∀ r,x10 = .out r → r = res := by
    rintro r rfl
    exact sj hF
   replace hf := hf.castAt 7 (v' := .slice (some ⟨b_1,0,none⟩) ((cpL (List.replicate (W (r.2)).toNat (0 : Int)) 0 ((List.replicate (W (r.2)).toNat (0 : Int)).length) x).length) ((W (r.2)).toNat)) rfl (congrArg (fun k => Value.slice (some ⟨b_1,0,none⟩) k ((W (r.2)).toNat)) (by simp))
   refine cLoop N (loopW (S := S10) (x := x10) ?_ N ((cpL (List.replicate (W (r.2)).toNat (0 : Int)) 0 ((List.replicate (W (r.2)).toNat (0 : Int)).length) x),((Nat.min x.length ((List.replicate (W (r.2)).toNat (0 : Int)).length) : Nat) : Int)) _ _ ⟨hf.kp rfl,hc⟩ hx10)
   clear hF hf hc
   rintro ⟨newslice,n⟩ st10 a w KB10 ⟨hf,hc⟩ hF hfin10 hK10
   unfold slices_Repeat_Lint_int_b10 at hF
   refine wp_seq_k fun K12 h12 => zS fun K h => sp 2 hf rfl fun a hf => zP hf rfl (pLenS Tryz.underlying35 rfl) fun a hf => sp 1 hf rfl fun a hf => zT h ?_
   refine zI hf rfl hF ?_ ?_ <;> clear hF <;> intro hF
   ·refine wp_skip ?_
    refine h12 _ _ ?_
    refine wp_thenK fun K14 h14 => wp_block ?_
    have qc := row_cap hc m0
    obtain ⟨sub,hsub,hF⟩ := bnd_some hF
    have qc_1 := row_cap hc m0
    obtain ⟨sub_1,hsub_1,hF⟩ := bnd_some hF
    obtain ⟨un_2,hun_2,hF⟩ := bnd_some hF
    have qs := subO_spec hsub
    try dsimp only at qs
    refine regionE (fun θ => [⟨none,none,7,.slice (some ⟨b_1,0,none⟩) newslice.length ((W (r.2)).toNat)⟩,⟨none,some 9,8,i6 n⟩,⟨some 0,none,38,i6 n⟩,⟨some 1,none,39,.slice (some ⟨b_1,0,none⟩) newslice.length ((W (r.2)).toNat)⟩,⟨some 2,none,40,i6 n⟩,⟨some 3,none,41,.slice (subP (some ⟨b_1,0,none⟩) ((W (r.2)).toNat) n.toNat 1) sub.length (((W (r.2)).toNat) - n.toNat)⟩,⟨some 4,none,42,.slice (some ⟨b_1,0,none⟩) newslice.length ((W (r.2)).toNat)⟩,⟨some 5,none,43,i6 n⟩,⟨some 6,none,44,.slice (subP (some ⟨b_1,0,none⟩) ((W (r.2)).toNat) (0 : Int).toNat 1) sub_1.length (((W (r.2)).toNat) - (0 : Int).toNat)⟩,⟨some 7,none,45,i6 ((Nat.min sub_1.length sub.length : Nat) : Int)⟩,⟨some 8,none,46,i6 (W (n + ((Nat.min sub_1.length sub.length : Nat) : Int)))⟩,⟨some 9,none,8,i6 (W (n + ((Nat.min sub_1.length sub.length : Nat) : Int)))⟩]) (fun E θ => (bif E 7 then .row (some ⟨b_1,0,none⟩) ((W (r.2)).toNat) ((cpL newslice n.toNat sub.length sub_1).map encI_i64) 3 1 else .row (some ⟨b_1,0,none⟩) ((W (r.2)).toNat) (newslice.map encI_i64) 3 1)::Lf) [(9,0),(9,2),(7,3),(9,5),(7,6)] (fun a w => Has 48 a [(7,.slice (some ⟨b_1,0,none⟩) newslice.length ((W (r.2)).toNat)),(8,i6 (W (n + ((Nat.min sub_1.length sub.length : Nat) : Int))))] ∧ Ctx G (.row (some ⟨b_1,0,none⟩) ((W (r.2)).toNat) ((cpL newslice n.toNat sub.length sub_1).map encI_i64) 3 1::Lf) w) follows_mx (by kernel_rfl) (by kernel_rfl) (HasE.of hf ⟨rfl,rfl,trivial,trivial,trivial,trivial,trivial,trivial,trivial,trivial,trivial,trivial,trivial⟩) hc ⟨?_,?_,?_,?_,?_,?_,?_,?_,?_,?_,trivial⟩ ?_ ?_
    ·intro E θ a w hD hi hp he hc
     have e9 := hD.f 0 rfl hi
     have hf := he.h0.mN he 1 rfl e9
     refine sp 1 hf rfl fun a hf => zD θ he hi hf 2 rfl rfl rfl hc
    ·intro E θ a w hD hi hp he hc
     have hf := he.h0.mT he 0 rfl
     refine sp 1 hf rfl fun a hf => zD θ he hi hf 3 rfl rfl rfl hc
    ·intro E θ a w hD hi hp he hc
     have e9 := hD.f 1 rfl hi
     have hf := he.h0.mN he 1 rfl e9
     refine sp 1 hf rfl fun a hf => zD θ he hi hf 4 rfl rfl rfl hc
    ·intro E θ a w hD hi hp he hc
     have e1 := hp.o 1 rfl
     have e2 := hp.o 2 rfl
     have e7 := hD.f 2 rfl hi
     try dsimp only at hc
     rw [e7] at hc
     have hf := (he.h0.mP he 3 rfl e1).mP he 4 rfl e2
     refine zP hf rfl (pSl Tryz.underlying35 sz_3 rfl rfl qc rfl rfl hsub) fun a hf => zD θ he hi hf 5 rfl rfl rfl ?_
     try dsimp only
     rw [updE_fls 3 e7 rfl]
     exact hc
    ·intro E θ a w hD hi hp he hc
     have hf := he.h0.mT he 0 rfl
     refine sp 1 hf rfl fun a hf => zD θ he hi hf 6 rfl rfl rfl hc
    ·intro E θ a w hD hi hp he hc
     have e9 := hD.f 3 rfl hi
     have hf := he.h0.mN he 1 rfl e9
     refine sp 1 hf rfl fun a hf => zD θ he hi hf 7 rfl rfl rfl hc
    ·intro E θ a w hD hi hp he hc
     have e4 := hp.o 4 rfl
     have e5 := hp.o 5 rfl
     have e7 := hD.f 4 rfl hi
     try dsimp only at hc
     rw [e7] at hc
     have hf := (he.h0.mP he 6 rfl e4).mP he 7 rfl e5
     refine zP hf rfl (pSl Tryz.underlying35 sz_3 rfl rfl qc_1 rfl rfl hsub_1) fun a hf => zD θ he hi hf 8 rfl rfl rfl ?_
     try dsimp only
     rw [updE_fls 6 e7 rfl]
     exact hc
    ·intro E θ a w hD hi hp he hc
     have e3 := hp.o 3 rfl
     have e6 := hp.o 6 rfl
     try dsimp only at hc
     rw [hi] at hc
     have hf := (he.h0.mP he 5 rfl e3).mP he 8 rfl e6
     refine stCp (enc := encI_i64) (R := newslice) (S := sub_1) (lo := n.toNat) hf hc rfl rfl Tryz.underlying35 sz_3 rfl (subP_some (cpOk_spec hun_2).2 (by have : newslice.length ≤ (W (r.2)).toNat := row_cap hc m0; omega)) rfl rfl one_encI_i64 (src_sub (fun x => (one_encI_i64 x).1) (src_row hc m0) hsub_1 (row_cap hc m0)) (cpOk_spec hun_2) (by omega) u0 fun a w hf hc => zD θ he hi hf 9 rfl rfl rfl ?_
     try dsimp only
     rw [updE_self E 7]
     exact hc
    ·intro E θ a w hD hi hp he hc
     have e0 := hp.o 0 rfl
     have e7 := hp.o 7 rfl
     have hf := (he.h0.mP he 2 rfl e0).mP he 9 rfl e7
     refine sp 1 hf rfl fun a hf => zD θ he hi hf 10 rfl rfl rfl hc
    ·intro E θ a w hD hi hp he hc
     have e8 := hp.o 8 rfl
     have hf := he.h0.mP he 10 rfl e8
     refine sp 1 hf rfl fun a hf => zD θ he hi hf 11 rfl rfl rfl hc
    ·intro E θ a w hall he hc
     have hf := he.h0
     have e7 := hall 7 rfl
     have e9 := hall 9 rfl
     replace hf := hf.more he 11 rfl (onP e9)
     replace hf := hf.more he 0 rfl (onT)
     try dsimp only at hc
     rw [e7] at hc
     exact ⟨hf.kp rfl,hc⟩
    rintro a w ⟨hf,hc⟩
    refine h14 _ _ ?_
    replace hf := hf.castAt 7 (v' := .slice (some ⟨b_1,0,none⟩) ((cpL newslice n.toNat sub.length sub_1).length) ((W (r.2)).toNat)) rfl (congrArg (fun k => Value.slice (some ⟨b_1,0,none⟩) k ((W (r.2)).toNat)) (by simp))
    exact hK10 ((cpL newslice n.toNat sub.length sub_1),W (n + ((Nat.min sub_1.length sub.length : Nat) : Int))) _ _ (sj hF).symm ⟨hf.kp rfl,hc⟩
   ·refine wp_exit ?_
    refine xThen ?_
    refine xThen ?_
    have he := sj hF
    rw [← he] at hfin10
    refine cHit ?_
    exact hr10 _ _ _ hfin10 ⟨hf.kp rfl,hc⟩

def crew_work_better (N : Nat) (w_ : crew_work) (p_ : Int) (than : Int) : Option (Int × Int) :=
 some (p_,than)
theorem crew_work_better_ok {N : Nat} {G : Pers} {Lf : List Ent} {w : World} (w_ : crew_work) (p_ : Int) (than : Int) {b_ : Nat} {w__Roster_People_p : Option Addr} {w__Roster_People_c : Nat} {w__Roster_Stations_p : Option Addr} {w__Roster_Stations_c : Nat} (h_w__Roster_People : RdT kd_35 G 1 w__Roster_People_p w__Roster_People_c w_.Roster.People) (h_w__Roster_Stations : RdT kd_118 G 2 w__Roster_Stations_p w__Roster_Stations_c w_.Roster.Stations) (h_w__pc : PC G b_ 0 (catc [.slice w__Roster_People_p w_.Roster.People.length w__Roster_People_c,.slice w__Roster_Stations_p w_.Roster.Stations.length w__Roster_Stations_c] 144 encI_i64 w_.rank [])) (hc : Ctx G (Lf) w) {res : Int × Int} (hF : crew_work_better N w_ p_ than = some res) : Calls Tryz.prog 89 #[pq b_,i6 p_,i6 than] w (fun e w => ∃ (b'1 : Nat) (b'2 : Nat) (b'3 : Nat),e = .returned (.func (.func 122) #[] #[pq b'1,pq b'2,pq b'3]) ∧ Ctx G (.box b'1 [pq b_] 111::.box b'2 [i6 res.1] 3::.box b'3 [i6 res.2] 3::Lf) w) := by
 unfold crew_work_better at hF
 refine fnIn Tryz.func89 rfl Tryz.ntmps89 rfl fun a hf => zS fun K h => zB hf hc rfl fun b_1 a w hf hc => zB hf hc rfl fun b_2 a w hf hc => zB hf hc rfl fun b_3 a w hf hc => sp 1 hf rfl fun a hf => zT h ?_
 refine zS fun K h => zP hf rfl (pMF (us := [pq b_1,pq b_2,pq b_3]) rfl rfl) fun a hf => sp 1 hf rfl fun a hf => zT h ?_
 refine wp_ret ?_
 obtain rfl := sj hF
 replace hc := ((hc.pick k0).pick k1).pick k2
 exact zO1 Tryz.results89 hf rfl ⟨b_1,b_2,b_3,rfl,hc⟩

def crew_work_possible (N : Nat) (w_ : crew_work) (p_ : Int) (s_ : Int) : Option (Bool) :=
 Option.bind (inR s_ 12) fun un =>
 Option.bind (inR p_ 12) fun un_1 =>
 Option.bind (cond ((w_.rank (s_ * 12 + p_).toNat) != (-1)) (Option.bind (getI w_.Roster.People p_) fun e_1 =>
 Option.bind (slices_Contains_Lint_int N e_1 s_) fun r =>
 some r) (some false)) fun t_1 =>
 some t_1
theorem crew_work_possible_ok {N : Nat} {G : Pers} {Lf : List Ent} {w : World} (w_ : crew_work) (p_ : Int) (s_ : Int) {b_ : Nat} {w__Roster_People_p : Option Addr} {w__Roster_People_c : Nat} {w__Roster_Stations_p : Option Addr} {w__Roster_Stations_c : Nat} (h_w__Roster_People : RdT kd_35 G 1 w__Roster_People_p w__Roster_People_c w_.Roster.People) (h_w__Roster_Stations : RdT kd_118 G 2 w__Roster_Stations_p w__Roster_Stations_c w_.Roster.Stations) (h_w__pc : PC G b_ 0 (catc [.slice w__Roster_People_p w_.Roster.People.length w__Roster_People_c,.slice w__Roster_Stations_p w_.Roster.Stations.length w__Roster_Stations_c] 144 encI_i64 w_.rank [])) (hc : Ctx G (Lf) w) {res : Bool} (hF : crew_work_possible N w_ p_ s_ = some res) : Calls Tryz.prog 123 #[pq b_,i6 p_,i6 s_] w (fun e w => e = .returned (.bool res) ∧ Ctx G (Lf) w) := by
 unfold crew_work_possible at hF
 refine fnIn Tryz.func123 rfl Tryz.ntmps123 rfl fun a hf => zS fun K h => sp 1 hf rfl fun a hf => zT h ?_
 refine zS fun K h => sp 4 hf rfl fun a hf => zP hf rfl (pFA fa_136_1 rfl) fun a hf => ?_
 obtain ⟨un,hun,hF⟩ := bnd_some hF
 refine zP hf rfl (pIAA Tryz.underlying134 sz_133 rfl rfl (inR_spec hun).1 (inR_spec hun).2) fun a hf => ?_
 obtain ⟨un_1,hun_1,hF⟩ := bnd_some hF
 refine zP hf rfl (Pu.cast (pIAA Tryz.underlying133 sz_3 rfl rfl (inR_spec hun_1).1 (inR_spec hun_1).2) (congrArg (fun k => Value.pointer (some ⟨b_,k,none⟩)) (flat_off (M := 12) (0 + 2) hun hun_1 rfl))) fun a hf => zE hf hc rfl (eLd1 sc_3 rfl (cell_pca (j := 0) h_w__pc (fun x => (one_encI_i64 x).1) rfl (inR2 hun hun_1 rfl) rfl)) fun a w hf hc => sp 2 hf rfl fun a hf => ?_
 obtain ⟨t_1,ht_1,hF⟩ := bnd_some hF
 refine stCc 11 (fun a => Has 28 a [(0,pq b_),(1,i6 p_),(2,i6 s_),(6,.bool false),(7,pq b_),(8,i6 s_),(9,i6 p_),(10,pq b_),(11,.pointer (some ⟨b_,0 + 2,none⟩)),(12,.pointer (some ⟨b_,0 + 2 + s_.toNat * 12,none⟩)),(13,.pointer (some ⟨b_,0 + 2 + (s_ * 12 + p_).toNat * 1,none⟩)),(14,i6 (w_.rank (s_ * 12 + p_).toNat)),(15,.bool ((w_.rank (s_ * 12 + p_).toNat) != (-1))),(16,.bool ((w_.rank (s_ * 12 + p_).toNat) != (-1))),(27,.bool t_1)]) hc ?_ ?_
 ·cases hb : ((w_.rank (s_ * 12 + p_).toNat) != (-1))
  ·rw [hb] at hf
   have hF := condF hb ht_1
   obtain rfl := sj hF
   refine stS hf rfl rfl rfl fun a hf => stS hf rfl rfl rfl fun a hf => stS hf rfl rfl rfl fun a hf => stS hf rfl rfl rfl fun a hf => stS hf rfl rfl rfl fun a hf => stS hf rfl rfl rfl fun a hf => stS hf rfl rfl rfl fun a hf => stS hf rfl rfl rfl fun a hf => stS hf rfl rfl rfl fun a hf => stS hf rfl rfl rfl fun a hf => sp 1 hf rfl fun a hf => cNil ⟨hf.kp rfl,hc⟩
  ·rw [hb] at hf
   have hF := condT hb ht_1
   refine sp 2 hf rfl fun a hf => zP hf rfl (pFA fa_136_0 rfl) fun a hf => zP hf rfl (pFA fa_95_0 rfl) fun a hf => zE hf hc rfl (eLd1 sc_92 rfl (cell_pc (j := 0) h_w__pc rfl)) fun a w hf hc => sp 1 hf rfl fun a hf => ?_
   obtain ⟨e_1,he_1,hF⟩ := bnd_some hF
   obtain ⟨b_1,o,hd,qa,qp,qr⟩ := h_w__Roster_People.atm he_1
   refine zP hf rfl (pIA Tryz.underlying92 sz_35 rfl rfl qa) fun a hf => zE hf hc rfl (eLd1 sc_35 rfl (cell_pc (j := 0) qp rfl)) fun a w hf hc => sp 1 hf rfl fun a hf => ?_
   obtain ⟨r,hr,hF⟩ := bnd_some hF
   refine zQ (v := .bool r) hf hc en_83 rfl (fun w hc => slices_Contains_Lint_int_ok e_1 s_ qr hc hr) fun a w hf hc => sp 1 hf rfl fun a hf => ?_
   obtain rfl := sj hF
   exact cNil ⟨hf.kp rfl,hc⟩
 intro a w ⟨hf,hc⟩
 refine sp 1 hf rfl fun a hf => zT h ?_
 refine wp_ret ?_
 obtain rfl := sj hF
 exact zO1 Tryz.results123 hf rfl ⟨rfl,hc⟩

def crew_work_better_1_j6 (N : Nat) {σ : Type} (x_0 : Int) (x_3 : Int) (x_4 : Bool) (x_5 : Bool) (x_6 : Bool) (sg_1 : σ) : Option (Step (Int × σ) (σ)) :=
 some (.cont (W (x_0 + 1),sg_1))
def crew_work_better_1_b3 (N : Nat) {σ : Type} (x : crew_work) (x_1 : Int) (x_2 : Int) (y : σ → Int → Option (σ × Bool)) (e_1 : List Int) (x_0 : Int) (sg : σ) : Option (Step (Int × σ) (σ)) :=
 cond (decide (x_0 < ((e_1.length : Nat) : Int)))
 (Option.bind (getI e_1 x_0) fun e_2 =>
 cond (e_2 == x_2)
 (some (.ret sg))
 (Option.bind (crew_work_possible N (⟨x.Roster,x.rank⟩ : crew_work) x_1 e_2) fun r =>
 cond r
 (Option.bind (y sg e_2) fun ry =>
 cond (!ry.2)
 (some (.ret ry.1))
 (crew_work_better_1_j6 N x_0 e_2 true true (!ry.2) ry.1))
 (crew_work_better_1_j6 N x_0 e_2 false false false sg)))
 (some (.brk (x_0,sg)))
def crew_work_better_1 (N : Nat) {σ : Type} (x : crew_work) (x_1 : Int) (x_2 : Int) (y : σ → Int → Option (σ × Bool)) (sg0 : σ) : Option (σ) :=
 Option.bind (getI x.Roster.People x_1) fun e_1 =>
 Option.bind (loopO (fun s3 => crew_work_better_1_b3 N x x_1 x_2 y e_1 s3.1 s3.2) N (0,sg0)) fun x3 =>
 exK x3 (fun s3 => some s3.2) some
theorem crew_work_better_1_ok {N : Nat} {G : Pers} {Lf : List Ent} {w : World} {σ : Type} (x : crew_work) (x_1 : Int) (x_2 : Int) {b_ : Nat} {b__1 : Nat} {x_Roster_People_p : Option Addr} {x_Roster_People_c : Nat} {x_Roster_Stations_p : Option Addr} {x_Roster_Stations_c : Nat} {b__2 : Nat} {b__3 : Nat} (h_x_Roster_People : RdT kd_35 G 1 x_Roster_People_p x_Roster_People_c x.Roster.People) (h_x_Roster_Stations : RdT kd_118 G 2 x_Roster_Stations_p x_Roster_Stations_c x.Roster.Stations) (h_x_pc : PC G b__1 0 (catc [.slice x_Roster_People_p x.Roster.People.length x_Roster_People_c,.slice x_Roster_Stations_p x.Roster.Stations.length x_Roster_Stations_c] 144 encI_i64 x.rank [])) (J : σ → List Ent → Prop) (y : σ → Int → Option (σ × Bool)) {l : Nat} (hy : YieldsTo Tryz.prog G l (fun x : Int => [i6 x]) J y) (sg0 : σ) {Ls0 : List Ent} (hJ0 : J sg0 Ls0) (hc : Ctx G (.box b_ [pq b__1] 111::.box b__2 [i6 x_1] 3::.box b__3 [i6 x_2] 3::(Ls0 ++ Lf)) w) {res : σ} (hF : crew_work_better_1 N x x_1 x_2 y sg0 = some res) : Calls Tryz.prog 122 #[.func (.yield l) #[] #[],pq b_,pq b__2,pq b__3] w (fun e w => (∃ v,e = .returned v) ∧ ∃ L,J res L ∧ Ctx G (.box b_ [pq b__1] 111::.box b__2 [i6 x_1] 3::.box b__3 [i6 x_2] 3::(L ++ Lf)) w) := by
 unfold crew_work_better_1 at hF
 refine fnIn Tryz.func122 rfl Tryz.ntmps122 rfl fun a hf => wp_seq_k fun K1 h1 => ?_
 obtain ⟨e_1,he_1,hF⟩ := bnd_some hF
 obtain ⟨b_1,o,hd,qa,qp,qr⟩ := h_x_Roster_People.atm he_1
 refine cQ hc follows_mx (by kernel_rfl) ?_
 refine qE hf rfl rfl rfl (eLd1 sc_111 rfl (cell_box m0 rfl)) fun a hf => qE hf rfl rfl rfl (Pu.ev (pNC rfl)) fun a hf => qE hf rfl rfl rfl (Pu.ev (pFA fa_136_0 rfl)) fun a hf => qE hf rfl rfl rfl (Pu.ev (pFA fa_95_0 rfl)) fun a hf => qE hf rfl rfl rfl (eLd1 sc_92 rfl (cell_pc (j := 0) h_x_pc rfl)) fun a hf => qE hf rfl rfl rfl (eLd1 sc_3 rfl (cell_box m1 rfl)) fun a hf => qE hf rfl rfl rfl (Pu.ev (pIA Tryz.underlying92 sz_35 rfl rfl qa)) fun a hf => qE hf rfl rfl rfl (eLd1 sc_35 rfl (cell_pc (j := 0) qp rfl)) fun a hf => qE hf rfl rfl rfl (Pu.ev (pLenS Tryz.underlying35 rfl)) fun a hf => qE hf rfl rfl rfl (Pu.ev (pM rfl)) fun a hf => ?_
 intro w hc
 refine h1 _ _ ?_
 refine wp_thenK fun K2 h2 => wp_block ?_
 obtain ⟨x3,hx3,hF⟩ := bnd_some hF
 let S3 : (Int × σ) → Act → World → Prop := (fun (zz : Int × σ) a w => ∃ (Ls : List Ent),J zz.2 Ls ∧ Has 36 a [(0,.func (.yield l) #[] #[]),(1,pq b_),(2,pq b__2),(3,pq b__3),(14,.slice hd.1 e_1.length hd.2),(15,i6 ((e_1.length : Nat) : Int)),(16,i6 zz.1)] ∧ Ctx G (.box b_ [pq b__1] 111::.box b__2 [i6 x_1] 3::.box b__3 [i6 x_2] 3::(Ls ++ Lf)) w)
 have hr3 : ∀ (zz : Int × σ) a w,x3 = .go zz → S3 zz a w → K2 a w := by
  rintro ⟨x_0,sg⟩ a w rfl ⟨Ls,hJ,hf,hc⟩
  replace hF := exK_go hF
  refine h2 _ _ ?_
  obtain rfl := sj hF
  exact fnOut0 (by simp) rfl Tryz.results122 hf ⟨⟨_,rfl⟩,Ls,hJ,hc⟩
 have ho3 : ∀ r,x3 = .out r → r = res := by
  rintro r rfl
  exact sj hF
 refine cLoop N (loopW (S := S3) (x := x3) ?_ N (0,sg0) _ _ ⟨Ls0,hJ0,hf.kp rfl,hc⟩ hx3)
 clear hF hf hc
 rintro ⟨x_0,sg⟩ st3 a w KB3 ⟨Ls,hJ,hf,hc⟩ hF hfin3 hK3
 unfold crew_work_better_1_b3 at hF
 refine zS fun K h => sp 1 hf rfl fun a hf => zT h ?_
 refine wp_seq_k fun K5 h5 => zI hf rfl hF ?_ ?_ <;> clear hF <;> intro hF
 ·refine wp_skip ?_
  refine h5 _ _ ?_
  refine wp_seq_k fun K6 h6 => ?_
  have hj6 : ∀ (x_3 : Int) (x_4 : Bool) (x_5 : Bool) (x_6 : Bool) (sg_1 : σ) (Ls_1 : List Ent) a w,J sg_1 Ls_1 → Has 36 a [(0,.func (.yield l) #[] #[]),(1,pq b_),(2,pq b__2),(3,pq b__3),(14,.slice hd.1 e_1.length hd.2),(15,i6 ((e_1.length : Nat) : Int)),(16,i6 x_0),(24,pq b__1),(25,i6 x_1),(26,i6 x_3),(27,.bool x_4),(28,.bool x_5),(33,.bool x_6)] → Ctx G (.box b_ [pq b__1] 111::.box b__2 [i6 x_1] 3::.box b__3 [i6 x_2] 3::(Ls_1 ++ Lf)) w → crew_work_better_1_j6 N x_0 x_3 x_4 x_5 x_6 sg_1 = some st3 → K6 a w := by
   repeat (clear hF)
   repeat (clear hc)
   repeat (clear hf)
   intro x_3 x_4 x_5 x_6 sg_1 Ls_1 a w hJ_1 hf hc hF
   unfold crew_work_better_1_j6 at hF
   refine h6 _ _ ?_
   refine cReg ?_
   refine sp 2 hf rfl fun a hf => cNil ?_
   exact hK3 (W (x_0 + 1),sg_1) _ _ (sj hF).symm ⟨Ls_1,hJ_1,hf.kp rfl,hc⟩
  refine wp_block ?_
  refine zS fun K h => ?_
  obtain ⟨e_2,he_2,hF⟩ := bnd_some hF
  obtain ⟨b_2,o_1,qa_1,qp_1⟩ := qr.atm he_2
  refine zP hf rfl (pIA Tryz.underlying35 sz_3 rfl rfl qa_1) fun a hf => zE hf hc rfl (eLd1 sc_3 rfl (cell_pc (j := 0) qp_1 rfl)) fun a w hf hc => sp 1 hf rfl fun a hf => zT h ?_
  refine wp_seq_k fun K8 h8 => ?_
  rcases boolEq (e_2 == x_2) with hb1 | hb1
  ·replace hF := condT hb1 hF
   refine cReg ?_
   refine sp 1 hf rfl fun a hf => zL hf hc sc_3 m2 rfl fun a w hf hc => sp 1 hf rfl fun a hf => ?_
   replace hf := castB hb1 hf
   refine sp 1 hf rfl fun a hf => stS hf rfl rfl rfl fun a hf => stS hf rfl rfl rfl fun a hf => stS hf rfl rfl rfl fun a hf => stS hf rfl rfl rfl fun a hf => stS hf rfl rfl rfl fun a hf => stS hf rfl rfl rfl fun a hf => stS hf rfl rfl rfl fun a hf => stS hf rfl rfl rfl fun a hf => stS hf rfl rfl rfl fun a hf => stS hf rfl rfl rfl fun a hf => sp 1 hf rfl fun a hf => cNil ?_
   refine h8 _ _ ?_
   refine cCondT hf rfl ?_
   refine wp_ret ?_
   refine xBlkR ?_
   refine xThenR ?_
   refine xThenR ?_
   have he := sj hF
   rw [← he] at hfin3
   replace hF := ho3 _ hfin3
   refine xBlkR ?_
   refine xThenR ?_
   obtain rfl := hF
   exact fnOut0 (by simp) rfl Tryz.results122 hf ⟨⟨_,rfl⟩,Ls,hJ,hc⟩
  ·replace hF := condF hb1 hF
   obtain ⟨r,hr,hF⟩ := bnd_some hF
   rcases boolEq r with hb2 | hb2
   ·replace hF := condT hb2 hF
    obtain ⟨ry,hry,hF⟩ := bnd_some hF
    refine yReg 11 (fun a w => Has 36 a [(0,.func (.yield l) #[] #[]),(1,pq b_),(2,pq b__2),(3,pq b__3),(14,.slice hd.1 e_1.length hd.2),(15,i6 ((e_1.length : Nat) : Int)),(16,i6 x_0),(6,i6 e_2),(20,i6 e_2),(21,i6 x_2),(22,.bool false),(23,.bool false),(24,pq b__1),(25,i6 x_1),(26,i6 e_2),(27,.bool true),(28,.bool true),(29,.func (.yield l) #[] #[]),(30,i6 e_2)] ∧ Ctx G (.box b_ [pq b__1] 111::.box b__2 [i6 x_1] 3::.box b__3 [i6 x_2] 3::(Ls ++ Lf)) w) (fun _ _ h => by obtain ⟨⟨_,h⟩,_⟩ := h; cases h) ?_ ?_
    ·refine sp 1 hf rfl fun a hf => zL hf hc sc_3 m2 rfl fun a w hf hc => sp 1 hf rfl fun a hf => ?_
     replace hf := castB hb1 hf
     refine sp 1 hf rfl fun a hf => zL hf hc sc_111 m0 rfl fun a w hf hc => zL hf hc sc_3 m1 rfl fun a w hf hc => sp 1 hf rfl fun a hf => zQ (v := .bool r) hf hc en_123 rfl (fun w hc => crew_work_possible_ok (⟨x.Roster,x.rank⟩ : crew_work) x_1 e_2 h_x_Roster_People h_x_Roster_Stations h_x_pc hc hr) fun a w hf hc => ?_
     replace hf := castB hb2 hf
     refine sp 3 hf rfl fun a hf => cNil ⟨hf.kp rfl,hc⟩
    rintro a w ⟨hf,hc⟩
    refine stY (own := [.box b_ [pq b__1] 111,.box b__2 [i6 x_1] 3,.box b__3 [i6 x_2] 3]) (v := e_2) hy hJ hry hf hc rfl rfl rfl rfl rfl rfl fun a w Ls_2 hJ_2 hf hc => ?_
    replace hc : Ctx G (.box b_ [pq b__1] 111::.box b__2 [i6 x_1] 3::.box b__3 [i6 x_2] 3::(Ls_2 ++ Lf)) w := hc
    refine yRest (fun _ _ h => by obtain ⟨⟨_,h⟩,_⟩ := h; cases h) ?_
    refine sp 3 hf rfl fun a hf => cNil ?_
    refine h8 _ _ ?_
    refine zI hf rfl hF ?_ ?_ <;> clear hF <;> intro hF
    ·refine wp_ret ?_
     refine xBlkR ?_
     refine xThenR ?_
     refine xThenR ?_
     have he := sj hF
     rw [← he] at hfin3
     replace hF := ho3 _ hfin3
     refine xBlkR ?_
     refine xThenR ?_
     obtain rfl := hF
     exact fnOut0 (by simp) rfl Tryz.results122 hf ⟨⟨_,rfl⟩,Ls_2,hJ_2,hc⟩
    ·refine wp_skip ?_
     exact hj6 e_2 true true (!ry.2) ry.1 Ls_2 _ _ hJ_2 (hf.kp rfl) hc hF
   ·replace hF := condF hb2 hF
    refine cReg ?_
    refine sp 1 hf rfl fun a hf => zL hf hc sc_3 m2 rfl fun a w hf hc => sp 1 hf rfl fun a hf => ?_
    replace hf := castB hb1 hf
    refine sp 1 hf rfl fun a hf => zL hf hc sc_111 m0 rfl fun a w hf hc => zL hf hc sc_3 m1 rfl fun a w hf hc => sp 1 hf rfl fun a hf => zQ (v := .bool r) hf hc en_123 rfl (fun w hc => crew_work_possible_ok (⟨x.Roster,x.rank⟩ : crew_work) x_1 e_2 h_x_Roster_People h_x_Roster_Stations h_x_pc hc hr) fun a w hf hc => ?_
    replace hf := castB hb2 hf
    refine sp 1 hf rfl fun a hf => stS hf rfl rfl rfl fun a hf => stS hf rfl rfl rfl fun a hf => stS hf rfl rfl rfl fun a hf => stS hf rfl rfl rfl fun a hf => sp 2 hf rfl fun a hf => cNil ?_
    refine h8 _ _ ?_
    refine cCondF hf rfl ?_
    refine wp_skip ?_
    exact hj6 e_2 false false false sg Ls _ _ hJ (hf.kp rfl) hc hF
 ·refine wp_exit ?_
  refine xThen ?_
  refine xThen ?_
  have he := sj hF
  rw [← he] at hfin3
  refine cHit ?_
  exact hr3 _ _ _ hfin3 ⟨Ls,hJ,hf.kp rfl,hc⟩

def crew_work_settle_1_1 (x : crew_Refusal) (x_1 : Int) (x_2 : Int) : Bool :=
 (x.Person == x_1 && x.Station == x_2)
theorem crew_work_settle_1_1_ok {G : Pers} {Lf : List Ent} {w : World} (x : crew_Refusal) (x_1 : Int) (x_2 : Int) {b_ : Nat} {b__1 : Nat}  (hc : Ctx G (.box b_ [i6 x_1] 3::.box b__1 [i6 x_2] 3::Lf) w) {res : Bool} (hF : crew_work_settle_1_1 x x_1 x_2 = res) : Calls Tryz.prog 91 #[.agg #[i6 x.Person,i6 x.Station],pq b_,pq b__1] w (fun e w => e = .returned (.bool res) ∧ Ctx G (.box b_ [i6 x_1] 3::.box b__1 [i6 x_2] 3::Lf) w) := by
 unfold crew_work_settle_1_1 at hF
 refine fnIn Tryz.func91 rfl Tryz.ntmps91 rfl fun a hf => zS fun K h => zB hf hc rfl fun b_1 a w hf hc => sp 1 hf rfl fun a hf => zT h ?_
 refine zS fun K h => zN hf hc ag_146 m0 rfl fun a w hf hc => zL hf hc sc_3 m1 rfl fun a w hf hc => zL hf hc sc_3 m2 rfl fun a w hf hc => zP hf rfl (pBuildS (cells := [i6 x_1,i6 x_2]) bt_146 rfl rfl) fun a hf => zP hf rfl (pEqA ge_146 rfl rfl (eqs_146 _ _ _ _)) fun a hf => sp 1 hf rfl fun a hf => zT h ?_
 refine wp_ret ?_
 obtain rfl := hF
 replace hc := hc.drop k0
 exact zO1 Tryz.results91 hf rfl ⟨rfl,hc⟩

def slices_IndexFunc_Lcrew_Refusal_crew_Refusal_b4 (N : Nat) (s_ : List crew_Refusal) (f_ : Int) (f__1 : Int) (x : Int) : Option (Step (Int) (Int)) :=
 cond (decide (x < ((s_.length : Nat) : Int)))
 (Option.bind (getI s_ x) fun e_1 =>
 cond (crew_work_settle_1_1 e_1 f_ f__1)
 (some (.ret x))
 (some (.cont (W (x + 1)))))
 (some (.brk x))
def slices_IndexFunc_Lcrew_Refusal_crew_Refusal (N : Nat) (s_ : List crew_Refusal) (f_ : Int) (f__1 : Int) : Option (Int) :=
 Option.bind (loopO (fun s4 => slices_IndexFunc_Lcrew_Refusal_crew_Refusal_b4 N s_ f_ f__1 s4) N 0) fun x4 =>
 exK x4 (fun s4 => some (-1)) some
theorem slices_IndexFunc_Lcrew_Refusal_crew_Refusal_ok {N : Nat} {G : Pers} {Lf : List Ent} {w : World} (s_ : List crew_Refusal) (f_ : Int) (f__1 : Int) {s__p : Option Addr} {s__c : Nat} {b_ : Nat} {b__1 : Nat} (h_s_ : Rd G 2 s__p s__c (s_.map enc_crew_Refusal)) (hc : Ctx G (.box b_ [i6 f_] 3::.box b__1 [i6 f__1] 3::Lf) w) {res : Int} (hF : slices_IndexFunc_Lcrew_Refusal_crew_Refusal N s_ f_ f__1 = some res) : Calls Tryz.prog 124 #[.slice s__p s_.length s__c,.func (.func 91) #[] #[pq b_,pq b__1]] w (fun e w => e = .returned (i6 res) ∧ Ctx G (.box b_ [i6 f_] 3::.box b__1 [i6 f__1] 3::Lf) w) := by
 unfold slices_IndexFunc_Lcrew_Refusal_crew_Refusal at hF
 refine fnIn Tryz.func124 rfl Tryz.ntmps124 rfl fun a hf => zS fun K h => sp 1 hf rfl fun a hf => zT h ?_
 refine wp_seq_k fun K2 h2 => zS fun K h => sp 1 hf rfl fun a hf => zP hf rfl (pLenS Tryz.underlying114 rfl) fun a hf => sp 1 hf rfl fun a hf => zT h ?_
 refine wp_block ?_
 obtain ⟨x4,hx4,hF⟩ := bnd_some hF
 let S4 : Int → Act → World → Prop := (fun (zz : Int) a w => Has 19 a [(0,.slice s__p s_.length s__c),(1,.func (.func 91) #[] #[pq b_,pq b__1]),(7,i6 ((s_.length : Nat) : Int)),(8,i6 zz)] ∧ Ctx G (.box b_ [i6 f_] 3::.box b__1 [i6 f__1] 3::Lf) w)
 have hr4 : ∀ (zz : Int) a w,x4 = .go zz → S4 zz a w → K2 a w := by
  rintro x a w rfl ⟨hf,hc⟩
  replace hF := exK_go hF
  refine h2 _ _ ?_
  refine zS fun K h => sp 1 hf rfl fun a hf => zT h ?_
  refine wp_ret ?_
  obtain rfl := sj hF
  exact zO1 Tryz.results124 hf rfl ⟨rfl,hc⟩
 have ho4 : ∀ r,x4 = .out r → r = res := by
  rintro r rfl
  exact sj hF
 refine cLoop N (loopW (S := S4) (x := x4) ?_ N 0 _ _ ⟨hf.kp rfl,hc⟩ hx4)
 clear hF hf hc
 rintro x st4 a w KB4 ⟨hf,hc⟩ hF hfin4 hK4
 unfold slices_IndexFunc_Lcrew_Refusal_crew_Refusal_b4 at hF
 refine zS fun K h => sp 1 hf rfl fun a hf => zT h ?_
 refine wp_seq_k fun K7 h7 => zI hf rfl hF ?_ ?_ <;> clear hF <;> intro hF
 ·refine wp_skip ?_
  refine h7 _ _ ?_
  refine wp_seq_k fun K8 h8 => wp_block ?_
  refine zS fun K h => sp 2 hf rfl fun a hf => zT h ?_
  refine zS fun K h => sp 3 hf rfl fun a hf => ?_
  obtain ⟨e_1,he_1,hF⟩ := bnd_some hF
  obtain ⟨b_1,o,qa,qp⟩ := h_s_.atm he_1
  refine zP hf rfl (pIA Tryz.underlying114 sz_146 rfl rfl qa) fun a hf => zE hf hc rfl (eLdN (vs := [i6 e_1.Person,i6 e_1.Station]) ag_146 rfl rfl (cells_pc qp (n := 2) (o' := 0) rfl)) fun a w hf hc => zQ (v := .bool (crew_work_settle_1_1 e_1 f_ f__1)) hf hc en_91 rfl (fun w hc => (crew_work_settle_1_1_ok e_1 f_ f__1 ((hc.pick k1).pick k1) rfl).mono fun e w h => ⟨h.1,((h.2.unpick k1).unpick k1)⟩) fun a w hf hc => zT h ?_
  refine zI hf rfl hF ?_ ?_ <;> clear hF <;> intro hF
  ·refine zS fun K h => sp 2 hf rfl fun a hf => zT h ?_
   refine wp_ret ?_
   refine xBlkR ?_
   refine xThenR ?_
   refine xThenR ?_
   have he := sj hF
   rw [← he] at hfin4
   replace hF := ho4 _ hfin4
   refine xBlkR ?_
   refine xThenR ?_
   obtain rfl := hF
   exact zO1 Tryz.results124 hf rfl ⟨rfl,hc⟩
  ·refine wp_skip ?_
   refine h8 _ _ ?_
   refine cReg ?_
   refine sp 2 hf rfl fun a hf => cNil ?_
   exact hK4 (W (x + 1)) _ _ (sj hF).symm ⟨hf.kp rfl,hc⟩
 ·refine wp_exit ?_
  refine xThen ?_
  refine xThen ?_
  have he := sj hF
  rw [← he] at hfin4
  refine cHit ?_
  exact hr4 _ _ _ hfin4 ⟨hf.kp rfl,hc⟩

def slices_ContainsFunc_Lcrew_Refusal_crew_Refusal (N : Nat) (s_ : List crew_Refusal) (f_ : Int) (f__1 : Int) : Option (Bool) :=
 Option.bind (slices_IndexFunc_Lcrew_Refusal_crew_Refusal N s_ f_ f__1) fun r =>
 some (decide (0 ≤ r))
theorem slices_ContainsFunc_Lcrew_Refusal_crew_Refusal_ok {N : Nat} {G : Pers} {Lf : List Ent} {w : World} (s_ : List crew_Refusal) (f_ : Int) (f__1 : Int) {s__p : Option Addr} {s__c : Nat} {b_ : Nat} {b__1 : Nat} (h_s_ : Rd G 2 s__p s__c (s_.map enc_crew_Refusal)) (hc : Ctx G (.box b_ [i6 f_] 3::.box b__1 [i6 f__1] 3::Lf) w) {res : Bool} (hF : slices_ContainsFunc_Lcrew_Refusal_crew_Refusal N s_ f_ f__1 = some res) : Calls Tryz.prog 90 #[.slice s__p s_.length s__c,.func (.func 91) #[] #[pq b_,pq b__1]] w (fun e w => e = .returned (.bool res) ∧ Ctx G (.box b_ [i6 f_] 3::.box b__1 [i6 f__1] 3::Lf) w) := by
 unfold slices_ContainsFunc_Lcrew_Refusal_crew_Refusal at hF
 refine fnIn Tryz.func90 rfl Tryz.ntmps90 rfl fun a hf => zS fun K h => sp 1 hf rfl fun a hf => zT h ?_
 refine zS fun K h => sp 2 hf rfl fun a hf => ?_
 obtain ⟨r,hr,hF⟩ := bnd_some hF
 refine zQ (v := i6 r) hf hc en_124 rfl (fun w hc => (slices_IndexFunc_Lcrew_Refusal_crew_Refusal_ok s_ f_ f__1 h_s_ ((hc.pick k1).pick k1) hr).mono fun e w h => ⟨h.1,((h.2.unpick k1).unpick k1)⟩) fun a w hf hc => sp 2 hf rfl fun a hf => zT h ?_
 refine wp_ret ?_
 obtain rfl := sj hF
 exact zO1 Tryz.results90 hf rfl ⟨rfl,hc⟩

def crew_work_settle_1_j21 (N : Nat) (x_0 : Int) (q_1 : Int) : Option (Step (Int × Int) (Rs ((List crew_Refusal) × (List Int) × (List (Option (List (Int × Bool))))))) :=
 some (.cont (q_1,W (x_0 + 1)))
def crew_work_settle_1_b14 (N : Nat) (p_ : Int) (x : crew_work) (b__7 : List (Option (List (Int × Bool)))) (xv : Int) (mm : List (Int × Bool)) (q : Int) (x_0 : Int) : Option (Step (Int × Int) (Rs ((List crew_Refusal) × (List Int) × (List (Option (List (Int × Bool))))))) :=
 cond (decide (x_0 < ((x.Roster.People.length : Nat) : Int)))
 (Option.bind (Option.bind (getI (b__7.set xv.toNat (some (setA mm p_ true))) xv) fun e_7 =>
 Option.bind (e_7) fun mm_3 =>
 cond ((lkA mm_3 x_0).getD false)
 (Option.bind (inR xv 12) fun un_1 =>
 Option.bind (inR x_0 12) fun un_2 =>
 Option.bind (inR q 12) fun un_3 =>
 some (decide ((x.rank (xv * 12 + q).toNat) < (x.rank (xv * 12 + x_0).toNat))))
 (some false)) fun rg =>
 cond rg
 (crew_work_settle_1_j21 N x_0 x_0)
 (crew_work_settle_1_j21 N x_0 q))
 (some (.brk (q,x_0)))
def crew_work_settle_1_r3 (N : Nat) (rec_ : Int → crew_work → (List crew_Refusal) → (List Int) → (List (Option (List (Int × Bool)))) → Option ((List crew_Refusal) × (List Int) × (List (Option (List (Int × Bool)))))) (p_ : Int) (x : crew_work) (b__0 : List crew_Refusal) (b__6 : List Int) (b__7 : List (Option (List (Int × Bool)))) (xv : Int) : Option (Rs ((List crew_Refusal) × (List Int) × (List (Option (List (Int × Bool)))))) :=
 Option.bind (slices_ContainsFunc_Lcrew_Refusal_crew_Refusal N b__0 p_ xv) fun r_1 =>
 cond r_1
 (some (.go (b__0,b__6,b__7)))
 (Option.bind (getI b__6 p_) fun e_1 =>
 Option.bind (getI b__7 xv) fun e_2 =>
 Option.bind (e_2) fun mm =>
 Option.bind (getI (b__7.set xv.toNat (some (setA mm p_ true))) xv) fun e_3 =>
 Option.bind (e_3) fun mm_1 =>
 Option.bind (getI x.Roster.Stations xv) fun e_4 =>
 cond (decide (((mm_1.length : Nat) : Int) ≤ e_4.Places))
 (some (.ret (b__0,(b__6.set p_.toNat xv),(b__7.set xv.toNat (some (setA mm p_ true))))))
 (Option.bind (loopO (fun s14 => crew_work_settle_1_b14 N p_ x b__7 xv mm s14.1 s14.2) N (p_,0)) fun x14 =>
 exK x14 (fun s14 => Option.bind (getI (b__7.set xv.toNat (some (setA mm p_ true))) xv) fun e_5 =>
 Option.bind (e_5) fun mm_2 =>
 Option.bind (getI (b__6.set p_.toNat xv) s14.1) fun e_6 =>
 Option.bind (room ((b__0 ++ [(⟨s14.1,xv⟩ : crew_Refusal)])).length) fun un =>
 Option.bind (rec_ s14.1 (⟨x.Roster,x.rank⟩ : crew_work) (b__0 ++ [(⟨s14.1,xv⟩ : crew_Refusal)]) ((b__6.set p_.toNat xv).set s14.1.toNat (-1)) ((b__7.set xv.toNat (some (setA mm p_ true))).set xv.toNat (some (delA mm_2 s14.1)))) fun r_2 =>
 some (.ret (r_2.1,r_2.2.1,r_2.2.2))) some))
def crew_work_settle_1 : Nat → Int → crew_work → (List crew_Refusal) → (List Int) → (List (Option (List (Int × Bool)))) → Option ((List crew_Refusal) × (List Int) × (List (Option (List (Int × Bool)))))
| 0,_,_,_,_,_ => none
| N + 1,p_,x,x_1,x_2,x_3 =>
 Option.bind (crew_work_better N (⟨x.Roster,x.rank⟩ : crew_work) p_ (-1)) fun r =>
 Option.bind (crew_work_better_1 N (⟨x.Roster,x.rank⟩ : crew_work) r.1 r.2 (rY (fun (zz : (List crew_Refusal) × (List Int) × (List (Option (List (Int × Bool))))) (ix_ : Int) => crew_work_settle_1_r3 N (crew_work_settle_1 N) p_ x zz.1 zz.2.1 zz.2.2 ix_)) (.go (x_1,x_2,x_3))) fun x3 =>
 rsK x3 (fun zz3 => some (zz3.1,zz3.2.1,zz3.2.2)) (fun zz3 => some (zz3.1,zz3.2.1,zz3.2.2))
theorem crew_work_settle_1_ok {N : Nat} : ∀ {G : Pers} {Lf : List Ent} {w : World} (p_ : Int) (x : crew_work) (x_1 : List crew_Refusal) (x_2 : List Int) (x_3 : List (Option (List (Int × Bool)))) {b_ : Nat} {b__1 : Nat} {x_Roster_People_p : Option Addr} {x_Roster_People_c : Nat} {x_Roster_Stations_p : Option Addr} {x_Roster_Stations_c : Nat} {b__2 : Nat} {x_1_p : Option Addr} {x_1_c : Nat} {b__3 : Nat} {x_2_p : Option Addr} {x_2_c : Nat} {b__4 : Nat} {x_3_p : Option Addr} {tcq_x_3 : TabH} {b__5 : Nat} (h_x_Roster_People : RdT kd_35 G 1 x_Roster_People_p x_Roster_People_c x.Roster.People) (h_x_Roster_Stations : RdT kd_118 G 2 x_Roster_Stations_p x_Roster_Stations_c x.Roster.Stations) (h_x_pc : PC G b__1 0 (catc [.slice x_Roster_People_p x.Roster.People.length x_Roster_People_c,.slice x_Roster_Stations_p x.Roster.Stations.length x_Roster_Stations_c] 144 encI_i64 x.rank [])) (hc : Ctx G (.box b_ [pq b__1] 111::.box b__2 [.slice x_1_p x_1.length x_1_c] 114::.row x_1_p x_1_c (x_1.map enc_crew_Refusal) 146 2::.box b__3 [.slice x_2_p x_2.length x_2_c] 35::.row x_2_p x_2_c (x_2.map encI_i64) 3 1::.box b__4 [.slice x_3_p x_3.length tcq_x_3.1] 138::.row x_3_p tcq_x_3.1 ((tabR tcq_x_3.2 x_3).map (Kd.v kd_139)) 139 1::tabI kd_139 (tabR tcq_x_3.2 x_3)::.box b__5 [.func (.func 88) #[] #[pq b_,pq b__2,pq b__3,pq b__4,pq b__5]] 68::Lf) w) {res : (List crew_Refusal) × (List Int) × (List (Option (List (Int × Bool))))} (hF : crew_work_settle_1 N p_ x x_1 x_2 x_3 = some res),Calls Tryz.prog 88 #[i6 p_,pq b_,pq b__2,pq b__3,pq b__4,pq b__5] w (fun e w => ∃ (p'1 : Option Addr) (c'1 : Nat) (p'2 : Option Addr) (c'2 : Nat) (p'3 : Option Addr) (tcq'1 : TabH),e = .returned (.tuple #[]) ∧ Ctx G (.row p'1 c'1 (res.1.map enc_crew_Refusal) 146 2::.row p'2 c'2 (res.2.1.map encI_i64) 3 1::.row p'3 tcq'1.1 ((tabR tcq'1.2 res.2.2).map (Kd.v kd_139)) 139 1::tabI kd_139 (tabR tcq'1.2 res.2.2)::.box b_ [pq b__1] 111::.box b__2 [.slice p'1 res.1.length c'1] 114::.box b__3 [.slice p'2 res.2.1.length c'2] 35::.box b__4 [.slice p'3 res.2.2.length tcq'1.1] 138::.box b__5 [.func (.func 88) #[] #[pq b_,pq b__2,pq b__3,pq b__4,pq b__5]] 68::Lf) w) := by
 induction N with
 | zero =>
  intro G Lf w p_ x x_1 x_2 x_3 b_ b__1 x_Roster_People_p x_Roster_People_c x_Roster_Stations_p x_Roster_Stations_c b__2 x_1_p x_1_c b__3 x_2_p x_2_c b__4 x_3_p tcq_x_3 b__5 h_x_Roster_People h_x_Roster_Stations h_x_pc hc res hF
  exact noneO hF
 | succ N ih =>
 intro G Lf w p_ x x_1 x_2 x_3 b_ b__1 x_Roster_People_p x_Roster_People_c x_Roster_Stations_p x_Roster_Stations_c b__2 x_1_p x_1_c b__3 x_2_p x_2_c b__4 x_3_p tcq_x_3 b__5 h_x_Roster_People h_x_Roster_Stations h_x_pc hc res hF
 rw [crew_work_settle_1] at hF
 refine fnInM Tryz.func88 rfl Tryz.ntmps88 rfl fun a hf => zS fun K h => zB hf hc rfl fun b_1 a w hf hc => zT h ?_
 refine zS fun K h => zL hf hc sc_111 m1 rfl fun a w hf hc => zL hf hc sc_3 m0 rfl fun a w hf hc => ?_
 obtain ⟨r,hr,hF⟩ := bnd_some hF
 refine zC hf en_89 rfl (crew_work_better_ok (⟨x.Roster,x.rank⟩ : crew_work) p_ (-1) h_x_Roster_People h_x_Roster_Stations h_x_pc hc hr) ?_
 rintro _ w ⟨b_2,b_3,b_4,rfl,hc⟩
 refine ⟨_,rfl,fun a hf => ?_⟩
 refine zT h ?_
 obtain ⟨x3,hx3,hF⟩ := bnd_some hF
 refine cRange (C := [.box b_2 [pq b__1] 111,.box b_3 [i6 r.1] 3,.box b_4 [i6 r.2] 3]) (C2 := [.box b_2 [pq b__1] 111,.box b_3 [i6 r.1] 3,.box b_4 [i6 r.2] 3]) (L0 := [.box b_1 [i6 p_] 3,.box b_ [pq b__1] 111,.box b__2 [.slice x_1_p x_1.length x_1_c] 114,.row x_1_p x_1_c (x_1.map enc_crew_Refusal) 146 2,.box b__3 [.slice x_2_p x_2.length x_2_c] 35,.row x_2_p x_2_c (x_2.map encI_i64) 3 1,.box b__4 [.slice x_3_p x_3.length tcq_x_3.1] 138,.row x_3_p tcq_x_3.1 ((tabR tcq_x_3.2 x_3).map (Kd.v kd_139)) 139 1,tabI kd_139 (tabR tcq_x_3.2 x_3),.box b__5 [.func (.func 88) #[] #[pq b_,pq b__2,pq b__3,pq b__4,pq b__5]] 68]) (Lf := Lf) (encs := fun x : Int => [i6 x]) (fun (zz : (List crew_Refusal) × (List Int) × (List (Option (List (Int × Bool))))) L => ∃ (p_1 : Option Addr) (c_1 : Nat) (p_2 : Option Addr) (c_2 : Nat) (p_3 : Option Addr) (tcq : TabH),L = [.box b_1 [i6 p_] 3,.box b_ [pq b__1] 111,.box b__2 [.slice p_1 zz.1.length c_1] 114,.row p_1 c_1 (zz.1.map enc_crew_Refusal) 146 2,.box b__3 [.slice p_2 zz.2.1.length c_2] 35,.row p_2 c_2 (zz.2.1.map encI_i64) 3 1,.box b__4 [.slice p_3 zz.2.2.length tcq.1] 138,.row p_3 tcq.1 ((tabR tcq.2 zz.2.2).map (Kd.v kd_139)) 139 1,tabI kd_139 (tabR tcq.2 zz.2.2),.box b__5 [.func (.func 88) #[] #[pq b_,pq b__2,pq b__3,pq b__4,pq b__5]] 68]) (fun (zz : (List crew_Refusal) × (List Int) × (List (Option (List (Int × Bool))))) (ix_ : Int) => crew_work_settle_1_r3 N (crew_work_settle_1 N) p_ x zz.1 zz.2.1 zz.2.2 ix_) (x_1,x_2,x_3) x3 hf hc rfl en_122 (fun _ => rfl) rfl ⟨x_1_p,x_1_c,x_2_p,x_2_c,x_3_p,tcq_x_3,rfl⟩ ?_ ?_ ?_ ?_
 ·intro lq mq J L Lx w hy hJ hc
  exact crew_work_better_1_ok (⟨x.Roster,x.rank⟩ : crew_work) r.1 r.2 h_x_Roster_People h_x_Roster_Stations h_x_pc J _ hy _ hJ hc hx3
 ·clear hF hf hc
  rintro lq mq ⟨b__0,b__6,b__7⟩ xv oq _ Lr Lb a w hK0 ⟨p_1,c_1,p_2,c_2,p_3,tcq,rfl⟩ hF hf hc hK
  replace hf : Has 95 a [(1,pq b_),(2,pq b__2),(3,pq b__3),(4,pq b__4),(5,pq b__5),(6,pq b_1),(13,i6 xv)] := hf.kp rfl
  replace hc : Ctx G (.box b_1 [i6 p_] 3::.box b_ [pq b__1] 111::.box b__2 [.slice p_1 b__0.length c_1] 114::.row p_1 c_1 (b__0.map enc_crew_Refusal) 146 2::.box b__3 [.slice p_2 b__6.length c_2] 35::.row p_2 c_2 (b__6.map encI_i64) 3 1::.box b__4 [.slice p_3 b__7.length tcq.1] 138::.row p_3 tcq.1 ((tabR tcq.2 b__7).map (Kd.v kd_139)) 139 1::tabI kd_139 (tabR tcq.2 b__7)::.box b__5 [.func (.func 88) #[] #[pq b_,pq b__2,pq b__3,pq b__4,pq b__5]] 68::Lr) w := hc
  replace hF : crew_work_settle_1_r3 N (crew_work_settle_1 N) p_ x b__0 b__6 b__7 xv = some oq := hF
  unfold crew_work_settle_1_r3 at hF
  refine rReg (fun _ _ h => h) rfl ?_
  refine zA hf hc zr_3 rfl fun b_5 a w hf hc => zW hf hc sz_3 u0 rfl fun w hc => cNil ?_
  refine hK _ _ [.box b_5 [i6 xv] 3,.box b_1 [i6 p_] 3,.box b_ [pq b__1] 111,.box b__2 [.slice p_1 b__0.length c_1] 114,.row p_1 c_1 (b__0.map enc_crew_Refusal) 146 2,.box b__3 [.slice p_2 b__6.length c_2] 35,.row p_2 c_2 (b__6.map encI_i64) 3 1,.box b__4 [.slice p_3 b__7.length tcq.1] 138,.row p_3 tcq.1 ((tabR tcq.2 b__7).map (Kd.v kd_139)) 139 1,tabI kd_139 (tabR tcq.2 b__7),.box b__5 [.func (.func 88) #[] #[pq b_,pq b__2,pq b__3,pq b__4,pq b__5]] 68] hc fun w hc => ?_
  replace hc : Ctx G (.box b_5 [i6 xv] 3::.box b_1 [i6 p_] 3::.box b_ [pq b__1] 111::.box b__2 [.slice p_1 b__0.length c_1] 114::.row p_1 c_1 (b__0.map enc_crew_Refusal) 146 2::.box b__3 [.slice p_2 b__6.length c_2] 35::.row p_2 c_2 (b__6.map encI_i64) 3 1::.box b__4 [.slice p_3 b__7.length tcq.1] 138::.row p_3 tcq.1 ((tabR tcq.2 b__7).map (Kd.v kd_139)) 139 1::tabI kd_139 (tabR tcq.2 b__7)::.box b__5 [.func (.func 88) #[] #[pq b_,pq b__2,pq b__3,pq b__4,pq b__5]] 68::Lb) w := hc
  refine rThenK fun K4 h4 => rBlock ?_
  refine rSeq fun K5 h5 => rSeq fun K6 h6 => rReg (fun _ _ h => h) rfl ?_
  refine zL hf hc sc_114 m3 rfl fun a w hf hc => zP hf rfl (pMF (us := [pq b_1,pq b_5]) rfl rfl) fun a hf => ?_
  obtain ⟨r_1,hr_1,hF⟩ := bnd_some hF
  refine zQ (v := .bool r_1) hf hc en_90 rfl (fun w hc => by obtain ⟨G1,hle1,hrd1,hc,hth1⟩ := lend hc k4; exact (slices_ContainsFunc_Lcrew_Refusal_crew_Refusal_ok b__0 p_ xv hrd1 ((hc.pick k0).pick k1) hr_1).mono fun e w h => ⟨h.1,((hth1 _ _ ((h.2.unpick k1).unpick k0)).unpick k4)⟩) fun a w hf hc => cNil ?_
  refine h6 _ _ ?_
  refine rCond (b := r_1) hf rfl (fun hb => ?_) (fun hb => ?_)
  ·replace hF := condT hb hF
   clear hb
   refine rExit ?_
   refine xThen ?_
   refine cHit ?_
   refine h4 _ _ ?_
   replace hc := hc.drop k0
   exact ⟨(b__0,b__6,b__7),_,(sj hF).symm,⟨p_1,c_1,p_2,c_2,p_3,tcq,rfl⟩,hc⟩
  ·replace hF := condF hb hF
   clear hb
   refine rSkip ?_
   refine h5 _ _ ?_
   refine rSeq fun K7 h7 => rReg (fun _ _ h => h) rfl ?_
   refine zL hf hc sc_35 m5 rfl fun a w hf hc => zL hf hc sc_3 m1 rfl fun a w hf hc => zL hf hc sc_3 m0 rfl fun a w hf hc => ?_
   obtain ⟨e_1,he_1,hF⟩ := bnd_some hF
   obtain ⟨g,rfl,qa,qr⟩ := row_atm hc m6 he_1
   refine zP hf rfl (pIA Tryz.underlying35 sz_3 rfl rfl qa) fun a hf => stRw (sz := 1) (vs := [i6 xv]) (o' := 0) (z := xv) (xs := b__6) hf hc rfl rfl rfl rfl sz_3 rfl (fun x => (one_encI_i64 x).1) (getI_lt he_1) (fun _ _ => rfl) rfl u6 fun w hc => cNil ?_
   refine h7 _ _ ?_
   refine rSeq fun K8 h8 => ?_
   obtain ⟨e_2,he_2,hF⟩ := bnd_some hF
   obtain ⟨g_1,rfl,qa_1,qr_1⟩ := row_atm hc m8 (tabR_getI he_2)
   obtain ⟨mm,hmm,hF⟩ := bnd_some hF
   refine rRegE (fun _ _ h => h) rfl (fun θ => [⟨none,none,1,pq b_⟩,⟨none,none,2,pq b__2⟩,⟨none,none,3,pq b__3⟩,⟨none,none,4,pq b__4⟩,⟨none,none,5,pq b__5⟩,⟨none,none,6,pq b_1⟩,⟨none,none,7,pq b_5⟩,⟨some 0,none,21,.slice (some ⟨g_1,0,none⟩) b__7.length tcq.1⟩,⟨some 1,none,22,i6 xv⟩,⟨some 2,none,23,.pointer (some ⟨g_1,xv.toNat * 1,none⟩)⟩,⟨some 3,none,24,.map (some ((tcq.2 xv.toNat).2))⟩,⟨some 4,none,25,i6 p_⟩]) (fun E θ => .box b_5 [i6 xv] 3::.box b_1 [i6 p_] 3::.box b_ [pq b__1] 111::.box b__2 [.slice p_1 b__0.length c_1] 114::.row p_1 c_1 (b__0.map enc_crew_Refusal) 146 2::.box b__3 [.slice (some ⟨g,0,none⟩) b__6.length c_2] 35::.row (some ⟨g,0,none⟩) c_2 ((b__6.set p_.toNat xv).map encI_i64) 3 1::.box b__4 [.slice (some ⟨g_1,0,none⟩) b__7.length tcq.1] 138::(bif E 5 then .row (some ⟨g_1,0,none⟩) tcq.1 ((tabR tcq.2 (b__7.set xv.toNat (some (setA mm p_ true)))).map (Kd.v kd_139)) 139 1 else .row (some ⟨g_1,0,none⟩) tcq.1 ((tabR tcq.2 b__7).map (Kd.v kd_139)) 139 1)::(bif E 5 then tabI kd_139 (tabR tcq.2 (b__7.set xv.toNat (some (setA mm p_ true)))) else tabI kd_139 (tabR tcq.2 b__7))::.box b__5 [.func (.func 88) #[] #[pq b_,pq b__2,pq b__3,pq b__4,pq b__5]] 68::Lb) [(5,2),(5,3)] (fun a w => Has 95 a [(1,pq b_),(2,pq b__2),(3,pq b__3),(4,pq b__4),(5,pq b__5),(6,pq b_1),(7,pq b_5)] ∧ Ctx G (.box b_5 [i6 xv] 3::.box b_1 [i6 p_] 3::.box b_ [pq b__1] 111::.box b__2 [.slice p_1 b__0.length c_1] 114::.row p_1 c_1 (b__0.map enc_crew_Refusal) 146 2::.box b__3 [.slice (some ⟨g,0,none⟩) b__6.length c_2] 35::.row (some ⟨g,0,none⟩) c_2 ((b__6.set p_.toNat xv).map encI_i64) 3 1::.box b__4 [.slice (some ⟨g_1,0,none⟩) b__7.length tcq.1] 138::.row (some ⟨g_1,0,none⟩) tcq.1 ((tabR tcq.2 (b__7.set xv.toNat (some (setA mm p_ true)))).map (Kd.v kd_139)) 139 1::tabI kd_139 (tabR tcq.2 (b__7.set xv.toNat (some (setA mm p_ true))))::.box b__5 [.func (.func 88) #[] #[pq b_,pq b__2,pq b__3,pq b__4,pq b__5]] 68::Lb) w) follows_mx (by kernel_rfl) (by kernel_rfl) (HasE.of hf ⟨rfl,rfl,rfl,rfl,rfl,rfl,rfl,trivial,trivial,trivial,trivial,trivial,trivial⟩) hc ⟨?_,?_,?_,?_,?_,?_,trivial⟩ ?_ ?_
   ·intro E θ a w hD hi hp he hc
    have hf := he.h0.mT he 3 rfl
    refine zL hf hc sc_138 m7 rfl fun a w hf hc => zD θ he hi hf 7 rfl rfl rfl hc
   ·intro E θ a w hD hi hp he hc
    have hf := he.h0.mT he 6 rfl
    refine zL hf hc sc_3 m0 rfl fun a w hf hc => zD θ he hi hf 8 rfl rfl rfl hc
   ·intro E θ a w hD hi hp he hc
    have e0 := hp.o 0 rfl
    have e1 := hp.o 1 rfl
    have e5 := hD.f 0 rfl hi
    try dsimp only at hc
    rw [e5] at hc
    have hf := (he.h0.mP he 7 rfl e0).mP he 8 rfl e1
    refine zP hf rfl (pIA Tryz.underlying138 sz_139 rfl rfl (At.len qa_1 (by simp only [tabR_len,List.length_set]))) fun a hf => zD θ he hi hf 9 rfl rfl rfl ?_
    try dsimp only
    rw [updE_fls 2 e5 rfl]
    exact hc
   ·intro E θ a w hD hi hp he hc
    have e2 := hp.o 2 rfl
    have e5 := hD.f 1 rfl hi
    try dsimp only at hc
    rw [e5] at hc
    have hf := he.h0.mP he 9 rfl e2
    refine zE hf hc rfl (eLd1 sc_139 rfl (cell_row (sz := 1) (i := xv.toNat) (j := 0) m8 qr_1 (by subst hmm; rfl))) fun a w hf hc => zD θ he hi hf 10 rfl rfl rfl ?_
    try dsimp only
    rw [updE_fls 3 e5 rfl]
    exact hc
   ·intro E θ a w hD hi hp he hc
    have hf := he.h0.mT he 5 rfl
    refine zL hf hc sc_3 m1 rfl fun a w hf hc => zD θ he hi hf 11 rfl rfl rfl hc
   ·intro E θ a w hD hi hp he hc
    have e3 := hp.o 3 rfl
    have e4 := hp.o 4 rfl
    try dsimp only at hc
    rw [hi] at hc
    have hf := (he.h0.mP he 10 rfl e3).mP he 11 rfl e4
    replace hc := tab_out (hc.pick k9) (getM_getI (getM_of he_2 hmm))
    replace hc : Ctx G (.gm ((tcq.2 xv.toNat).2) (ALq Value.bool mm)::tabI kd_139 ((tabR tcq.2 b__7).eraseIdx xv.toNat)::.box b_5 [i6 xv] 3::.box b_1 [i6 p_] 3::.box b_ [pq b__1] 111::.box b__2 [.slice p_1 b__0.length c_1] 114::.row p_1 c_1 (b__0.map enc_crew_Refusal) 146 2::.box b__3 [.slice (some ⟨g,0,none⟩) b__6.length c_2] 35::.row (some ⟨g,0,none⟩) c_2 ((b__6.set p_.toNat xv).map encI_i64) 3 1::.box b__4 [.slice (some ⟨g_1,0,none⟩) b__7.length tcq.1] 138::.row (some ⟨g_1,0,none⟩) tcq.1 ((tabR tcq.2 b__7).map (Kd.v kd_139)) 139 1::.box b__5 [.func (.func 88) #[] #[pq b_,pq b__2,pq b__3,pq b__4,pq b__5]] 68::Lb) w := hc
    refine stAU (enc := Value.bool) (kvs := mm) (k := p_) (v := true) hf hc rfl Tryz.underlying139 Tryz.underlying3 rfl rfl rfl u0 fun w hc => ?_
    replace hc := ((((((((((hc.pick k9).pick k9).pick k9).pick k9).pick k9).pick k9).pick k9).pick k9).pick k9).pick k10).pick k10
    replace hc := tab_same (K := kd_139) (y := some (setA mm p_ true)) (getM_getI (getM_of he_2 hmm)) rfl hc
    replace hc : Ctx G (.row (some ⟨g_1,0,none⟩) tcq.1 ((tabR tcq.2 (b__7.set xv.toNat (some (setA mm p_ true)))).map (Kd.v kd_139)) 139 1::tabI kd_139 (tabR tcq.2 (b__7.set xv.toNat (some (setA mm p_ true))))::.box b_5 [i6 xv] 3::.box b_1 [i6 p_] 3::.box b_ [pq b__1] 111::.box b__2 [.slice p_1 b__0.length c_1] 114::.row p_1 c_1 (b__0.map enc_crew_Refusal) 146 2::.box b__3 [.slice (some ⟨g,0,none⟩) b__6.length c_2] 35::.row (some ⟨g,0,none⟩) c_2 ((b__6.set p_.toNat xv).map encI_i64) 3 1::.box b__4 [.slice (some ⟨g_1,0,none⟩) b__7.length tcq.1] 138::.box b__5 [.func (.func 88) #[] #[pq b_,pq b__2,pq b__3,pq b__4,pq b__5]] 68::Lb) w := hc
    replace hc := (((((((((hc.pick k1).pick k1).pick k9).pick k9).pick k9).pick k9).pick k9).pick k9).pick k9).pick k9
    refine zG θ he hi hf rfl ?_
    try dsimp only
    rw [updE_self E 5]
    exact hc
   ·intro E θ a w hall he hc
    have hf := he.h0
    have e5 := hall 5 rfl
    replace hf := hf.more he 6 rfl (onT)
    replace hf := hf.more he 5 rfl (onT)
    replace hf := hf.more he 4 rfl (onT)
    replace hf := hf.more he 3 rfl (onT)
    replace hf := hf.more he 2 rfl (onT)
    replace hf := hf.more he 1 rfl (onT)
    replace hf := hf.more he 0 rfl (onT)
    try dsimp only at hc
    rw [e5] at hc
    exact ⟨hf.kp rfl,hc⟩
   rintro a w ⟨hf,hc⟩
   refine h8 _ _ ?_
   refine rSeq fun K9 h9 => rSeq fun K10 h10 => ?_
   obtain ⟨e_3,he_3,hF⟩ := bnd_some hF
   obtain ⟨qa_2,qr_2⟩ := row_atk hc m8 (tabR_getI he_3)
   obtain ⟨mm_1,hmm_1,hF⟩ := bnd_some hF
   obtain ⟨e_4,he_4,hF⟩ := bnd_some hF
   obtain ⟨b_6,o,hd,qa_3,qp,qr_3⟩ := h_x_Roster_Stations.atm he_4
   refine rRegE (fun _ _ h => h) rfl (fun θ => [⟨none,none,1,pq b_⟩,⟨none,none,2,pq b__2⟩,⟨none,none,3,pq b__3⟩,⟨none,none,4,pq b__4⟩,⟨none,none,5,pq b__5⟩,⟨none,none,6,pq b_1⟩,⟨none,none,7,pq b_5⟩,⟨some 0,none,26,.slice (some ⟨g_1,0,none⟩) b__7.length tcq.1⟩,⟨some 1,none,27,i6 xv⟩,⟨some 2,none,28,.pointer (some ⟨g_1,xv.toNat * 1,none⟩)⟩,⟨some 3,none,29,.map (some ((tcq.2 xv.toNat).2))⟩,⟨some 4,none,30,i6 ((mm_1.length : Nat) : Int)⟩,⟨some 5,none,31,pq b__1⟩,⟨some 6,none,32,pq b__1⟩,⟨some 7,none,33,.pointer (some ⟨b__1,0 + 0,none⟩)⟩,⟨some 8,none,34,.pointer (some ⟨b__1,0 + 0 + 1,none⟩)⟩,⟨some 9,none,35,.slice x_Roster_Stations_p x.Roster.Stations.length x_Roster_Stations_c⟩,⟨some 10,none,36,i6 xv⟩,⟨some 11,none,37,.pointer (some ⟨b_6,o,none⟩)⟩,⟨some 12,none,38,.pointer (some ⟨b_6,o + 0,none⟩)⟩,⟨some 13,none,39,i6 e_4.Places⟩,⟨some 14,none,40,.bool (decide (((mm_1.length : Nat) : Int) ≤ e_4.Places))⟩]) (fun E θ => .box b_5 [i6 xv] 3::.box b_1 [i6 p_] 3::.box b_ [pq b__1] 111::.box b__2 [.slice p_1 b__0.length c_1] 114::.row p_1 c_1 (b__0.map enc_crew_Refusal) 146 2::.box b__3 [.slice (some ⟨g,0,none⟩) b__6.length c_2] 35::.row (some ⟨g,0,none⟩) c_2 ((b__6.set p_.toNat xv).map encI_i64) 3 1::.box b__4 [.slice (some ⟨g_1,0,none⟩) b__7.length tcq.1] 138::.row (some ⟨g_1,0,none⟩) tcq.1 ((tabR tcq.2 (b__7.set xv.toNat (some (setA mm p_ true)))).map (Kd.v kd_139)) 139 1::tabI kd_139 (tabR tcq.2 (b__7.set xv.toNat (some (setA mm p_ true))))::.box b__5 [.func (.func 88) #[] #[pq b_,pq b__2,pq b__3,pq b__4,pq b__5]] 68::Lb) [] (fun a w => Has 95 a [(1,pq b_),(2,pq b__2),(3,pq b__3),(4,pq b__4),(5,pq b__5),(6,pq b_1),(7,pq b_5),(40,.bool (decide (((mm_1.length : Nat) : Int) ≤ e_4.Places)))] ∧ Ctx G (.box b_5 [i6 xv] 3::.box b_1 [i6 p_] 3::.box b_ [pq b__1] 111::.box b__2 [.slice p_1 b__0.length c_1] 114::.row p_1 c_1 (b__0.map enc_crew_Refusal) 146 2::.box b__3 [.slice (some ⟨g,0,none⟩) b__6.length c_2] 35::.row (some ⟨g,0,none⟩) c_2 ((b__6.set p_.toNat xv).map encI_i64) 3 1::.box b__4 [.slice (some ⟨g_1,0,none⟩) b__7.length tcq.1] 138::.row (some ⟨g_1,0,none⟩) tcq.1 ((tabR tcq.2 (b__7.set xv.toNat (some (setA mm p_ true)))).map (Kd.v kd_139)) 139 1::tabI kd_139 (tabR tcq.2 (b__7.set xv.toNat (some (setA mm p_ true))))::.box b__5 [.func (.func 88) #[] #[pq b_,pq b__2,pq b__3,pq b__4,pq b__5]] 68::Lb) w) follows_mx (by kernel_rfl) (by kernel_rfl) (HasE.of hf ⟨rfl,rfl,rfl,rfl,rfl,rfl,rfl,trivial,trivial,trivial,trivial,trivial,trivial,trivial,trivial,trivial,trivial,trivial,trivial,trivial,trivial,trivial,trivial⟩) hc ⟨?_,?_,?_,?_,?_,?_,?_,?_,?_,?_,?_,?_,?_,?_,?_,trivial⟩ ?_ ?_
   ·intro E θ a w hD hi hp he hc
    have hf := he.h0.mT he 3 rfl
    refine zL hf hc sc_138 m7 rfl fun a w hf hc => zD θ he hi hf 7 rfl rfl rfl hc
   ·intro E θ a w hD hi hp he hc
    have hf := he.h0.mT he 6 rfl
    refine zL hf hc sc_3 m0 rfl fun a w hf hc => zD θ he hi hf 8 rfl rfl rfl hc
   ·intro E θ a w hD hi hp he hc
    have e0 := hp.o 0 rfl
    have e1 := hp.o 1 rfl
    have hf := (he.h0.mP he 7 rfl e0).mP he 8 rfl e1
    refine zP hf rfl (pIA Tryz.underlying138 sz_139 rfl rfl (At.len qa_2 (by simp only [tabR_len,List.length_set]))) fun a hf => zD θ he hi hf 9 rfl rfl rfl hc
   ·intro E θ a w hD hi hp he hc
    have e2 := hp.o 2 rfl
    have hf := he.h0.mP he 9 rfl e2
    refine zE hf hc rfl (eLd1 sc_139 rfl (cell_row (sz := 1) (i := xv.toNat) (j := 0) m8 qr_2 (by subst hmm_1; rfl))) fun a w hf hc => zD θ he hi hf 10 rfl rfl rfl hc
   ·intro E θ a w hD hi hp he hc
    have e3 := hp.o 3 rfl
    have hf := he.h0.mP he 10 rfl e3
    refine zE hf hc rfl (eLenA (enc := Value.bool) (kvs := mm_1) (tabSm m9 (getM_of he_3 hmm_1)) Tryz.underlying139 rfl) fun a w hf hc => zD θ he hi hf 11 rfl rfl rfl hc
   ·intro E θ a w hD hi hp he hc
    have hf := he.h0.mT he 0 rfl
    refine zL hf hc sc_111 m2 rfl fun a w hf hc => zD θ he hi hf 12 rfl rfl rfl hc
   ·intro E θ a w hD hi hp he hc
    have e5 := hp.o 5 rfl
    have hf := he.h0.mP he 12 rfl e5
    refine sp 1 hf rfl fun a hf => zD θ he hi hf 13 rfl rfl rfl hc
   ·intro E θ a w hD hi hp he hc
    have e6 := hp.o 6 rfl
    have hf := he.h0.mP he 13 rfl e6
    refine zP hf rfl (pFA fa_136_0 rfl) fun a hf => zD θ he hi hf 14 rfl rfl rfl hc
   ·intro E θ a w hD hi hp he hc
    have e7 := hp.o 7 rfl
    have hf := he.h0.mP he 14 rfl e7
    refine zP hf rfl (pFA fa_95_1 rfl) fun a hf => zD θ he hi hf 15 rfl rfl rfl hc
   ·intro E θ a w hD hi hp he hc
    have e8 := hp.o 8 rfl
    have hf := he.h0.mP he 15 rfl e8
    refine zE hf hc rfl (eLd1 sc_93 rfl (cell_pc (j := 1) h_x_pc rfl)) fun a w hf hc => zD θ he hi hf 16 rfl rfl rfl hc
   ·intro E θ a w hD hi hp he hc
    have hf := he.h0.mT he 6 rfl
    refine zL hf hc sc_3 m0 rfl fun a w hf hc => zD θ he hi hf 17 rfl rfl rfl hc
   ·intro E θ a w hD hi hp he hc
    have e9 := hp.o 9 rfl
    have e10 := hp.o 10 rfl
    have hf := (he.h0.mP he 16 rfl e9).mP he 17 rfl e10
    refine zP hf rfl (pIA Tryz.underlying93 sz_118 rfl rfl qa_3) fun a hf => zD θ he hi hf 18 rfl rfl rfl hc
   ·intro E θ a w hD hi hp he hc
    have e11 := hp.o 11 rfl
    have hf := he.h0.mP he 18 rfl e11
    refine zP hf rfl (pFA fa_118_0 rfl) fun a hf => zD θ he hi hf 19 rfl rfl rfl hc
   ·intro E θ a w hD hi hp he hc
    have e12 := hp.o 12 rfl
    have hf := he.h0.mP he 19 rfl e12
    refine zE hf hc rfl (eLd1 sc_3 rfl (cell_pc (j := 0) qp rfl)) fun a w hf hc => zD θ he hi hf 20 rfl rfl rfl hc
   ·intro E θ a w hD hi hp he hc
    have e4 := hp.o 4 rfl
    have e13 := hp.o 13 rfl
    have hf := (he.h0.mP he 11 rfl e4).mP he 20 rfl e13
    refine sp 1 hf rfl fun a hf => zD θ he hi hf 21 rfl rfl rfl hc
   ·intro E θ a w hall he hc
    have hf := he.h0
    have e14 := hall 14 rfl
    replace hf := hf.more he 21 rfl (onP e14)
    replace hf := hf.more he 6 rfl (onT)
    replace hf := hf.more he 5 rfl (onT)
    replace hf := hf.more he 4 rfl (onT)
    replace hf := hf.more he 3 rfl (onT)
    replace hf := hf.more he 2 rfl (onT)
    replace hf := hf.more he 1 rfl (onT)
    replace hf := hf.more he 0 rfl (onT)
    exact ⟨hf.kp rfl,hc⟩
   rintro a w ⟨hf,hc⟩
   refine h10 _ _ ?_
   refine rCond (b := (decide (((mm_1.length : Nat) : Int) ≤ e_4.Places))) hf rfl (fun hb => ?_) (fun hb => ?_)
   ·replace hF := condT hb hF
    clear hb
    refine rRet ?_
    refine xThenR ?_
    refine xBlkR ?_
    refine xThenR ?_
    replace hc : Ctx G (.box b_5 [i6 xv] 3::.box b_1 [i6 p_] 3::.box b_ [pq b__1] 111::.box b__2 [.slice p_1 b__0.length c_1] 114::.row p_1 c_1 (b__0.map enc_crew_Refusal) 146 2::.box b__3 [.slice (some ⟨g,0,none⟩) ((b__6.set p_.toNat xv).length) c_2] 35::.row (some ⟨g,0,none⟩) c_2 ((b__6.set p_.toNat xv).map encI_i64) 3 1::.box b__4 [.slice (some ⟨g_1,0,none⟩) ((b__7.set xv.toNat (some (setA mm p_ true))).length) tcq.1] 138::.row (some ⟨g_1,0,none⟩) tcq.1 ((tabR tcq.2 (b__7.set xv.toNat (some (setA mm p_ true)))).map (Kd.v kd_139)) 139 1::tabI kd_139 (tabR tcq.2 (b__7.set xv.toNat (some (setA mm p_ true))))::.box b__5 [.func (.func 88) #[] #[pq b_,pq b__2,pq b__3,pq b__4,pq b__5]] 68::Lb) w := by simp only [List.length_set] at hc ⊢; exact hc
    replace hc := hc.drop k0
    exact ⟨(b__0,(b__6.set p_.toNat xv),(b__7.set xv.toNat (some (setA mm p_ true)))),_,(sj hF).symm,⟨p_1,c_1,(some ⟨g,0,none⟩),c_2,(some ⟨g_1,0,none⟩),tcq,rfl⟩,hc⟩
   ·replace hF := condF hb hF
    clear hb
    refine rSkip ?_
    refine h9 _ _ ?_
    refine rSeq fun K11 h11 => rReg (fun _ _ h => h) rfl ?_
    refine zL hf hc sc_3 m1 rfl fun a w hf hc => sp 1 hf rfl fun a hf => cNil ?_
    refine h11 _ _ ?_
    refine rSeq fun K12 h12 => rSeq fun K13 h13 => rReg (fun _ _ h => h) rfl ?_
    refine zL hf hc sc_111 m2 rfl fun a w hf hc => sp 1 hf rfl fun a hf => zP hf rfl (pFA fa_136_0 rfl) fun a hf => zP hf rfl (pFA fa_95_0 rfl) fun a hf => zE hf hc rfl (eLd1 sc_92 rfl (cell_pc (j := 0) h_x_pc rfl)) fun a w hf hc => zP hf rfl (pLenS Tryz.underlying92 rfl) fun a hf => sp 1 hf rfl fun a hf => cNil ?_
    refine h13 _ _ ?_
    refine rBlock ?_
    obtain ⟨x14,hx14,hF⟩ := bnd_some hF
    let S14 : (Int × Int) → Act → World → Prop := (fun (zz : Int × Int) a w => Has 95 a [(1,pq b_),(2,pq b__2),(3,pq b__3),(4,pq b__4),(5,pq b__5),(7,pq b_5),(8,i6 zz.1),(47,i6 ((x.Roster.People.length : Nat) : Int)),(48,i6 zz.2)] ∧ Ctx G (.box b_5 [i6 xv] 3::.box b_1 [i6 p_] 3::.box b_ [pq b__1] 111::.box b__2 [.slice p_1 b__0.length c_1] 114::.row p_1 c_1 (b__0.map enc_crew_Refusal) 146 2::.box b__3 [.slice (some ⟨g,0,none⟩) ((b__6.set p_.toNat xv).length) c_2] 35::.row (some ⟨g,0,none⟩) c_2 ((b__6.set p_.toNat xv).map encI_i64) 3 1::.box b__4 [.slice (some ⟨g_1,0,none⟩) ((b__7.set xv.toNat (some (setA mm p_ true))).length) tcq.1] 138::.row (some ⟨g_1,0,none⟩) tcq.1 ((tabR tcq.2 (b__7.set xv.toNat (some (setA mm p_ true)))).map (Kd.v kd_139)) 139 1::tabI kd_139 (tabR tcq.2 (b__7.set xv.toNat (some (setA mm p_ true))))::.box b__5 [.func (.func 88) #[] #[pq b_,pq b__2,pq b__3,pq b__4,pq b__5]] 68::Lb) w)
    have hr14 : ∀ (zz : Int × Int) a w,x14 = .go zz → S14 zz a w → K12 a w := by
     rintro ⟨q,x_0⟩ a w rfl ⟨hf,hc⟩
     replace hF := exK_go hF
     refine h12 _ _ ?_
     refine rSeq fun K15 h15 => rReg (fun _ _ h => h) rfl ?_
     refine zL hf hc sc_138 m7 rfl fun a w hf hc => zL hf hc sc_3 m0 rfl fun a w hf hc => ?_
     obtain ⟨e_5,he_5,hF⟩ := bnd_some hF
     obtain ⟨qa_4,qr_4⟩ := row_atk hc m8 (tabR_getI he_5)
     refine zP hf rfl (pIA Tryz.underlying138 sz_139 rfl rfl (At.len qa_4 (by simp only [tabR_len,List.length_set]))) fun a hf => ?_
     obtain ⟨mm_2,hmm_2,hF⟩ := bnd_some hF
     refine zE hf hc rfl (eLd1 sc_139 rfl (cell_row (sz := 1) (i := xv.toNat) (j := 0) m8 qr_4 (by subst hmm_2; rfl))) fun a w hf hc => sp 1 hf rfl fun a hf => ?_
     replace hc := tab_out (hc.pick k9) (getM_getI (getM_of he_5 hmm_2))
     replace hc : Ctx G (.gm ((tcq.2 xv.toNat).2) (ALq Value.bool mm_2)::tabI kd_139 ((tabR tcq.2 (b__7.set xv.toNat (some (setA mm p_ true)))).eraseIdx xv.toNat)::.box b_5 [i6 xv] 3::.box b_1 [i6 p_] 3::.box b_ [pq b__1] 111::.box b__2 [.slice p_1 b__0.length c_1] 114::.row p_1 c_1 (b__0.map enc_crew_Refusal) 146 2::.box b__3 [.slice (some ⟨g,0,none⟩) ((b__6.set p_.toNat xv).length) c_2] 35::.row (some ⟨g,0,none⟩) c_2 ((b__6.set p_.toNat xv).map encI_i64) 3 1::.box b__4 [.slice (some ⟨g_1,0,none⟩) ((b__7.set xv.toNat (some (setA mm p_ true))).length) tcq.1] 138::.row (some ⟨g_1,0,none⟩) tcq.1 ((tabR tcq.2 (b__7.set xv.toNat (some (setA mm p_ true)))).map (Kd.v kd_139)) 139 1::.box b__5 [.func (.func 88) #[] #[pq b_,pq b__2,pq b__3,pq b__4,pq b__5]] 68::Lb) w := hc
     refine stAD (enc := Value.bool) (kvs := mm_2) (k := q) hf hc rfl rfl Tryz.underlying139 Tryz.underlying3 rfl rfl u0 fun w hc => ?_
     replace hc := ((((((((((hc.pick k9).pick k9).pick k9).pick k9).pick k9).pick k9).pick k9).pick k9).pick k9).pick k10).pick k10
     replace hc := tab_same (K := kd_139) (y := some (delA mm_2 q)) (getM_getI (getM_of he_5 hmm_2)) rfl hc
     replace hc : Ctx G (.row (some ⟨g_1,0,none⟩) tcq.1 ((tabR tcq.2 ((b__7.set xv.toNat (some (setA mm p_ true))).set xv.toNat (some (delA mm_2 q)))).map (Kd.v kd_139)) 139 1::tabI kd_139 (tabR tcq.2 ((b__7.set xv.toNat (some (setA mm p_ true))).set xv.toNat (some (delA mm_2 q))))::.box b_5 [i6 xv] 3::.box b_1 [i6 p_] 3::.box b_ [pq b__1] 111::.box b__2 [.slice p_1 b__0.length c_1] 114::.row p_1 c_1 (b__0.map enc_crew_Refusal) 146 2::.box b__3 [.slice (some ⟨g,0,none⟩) ((b__6.set p_.toNat xv).length) c_2] 35::.row (some ⟨g,0,none⟩) c_2 ((b__6.set p_.toNat xv).map encI_i64) 3 1::.box b__4 [.slice (some ⟨g_1,0,none⟩) ((b__7.set xv.toNat (some (setA mm p_ true))).length) tcq.1] 138::.box b__5 [.func (.func 88) #[] #[pq b_,pq b__2,pq b__3,pq b__4,pq b__5]] 68::Lb) w := hc
     replace hc := (((((((((hc.pick k1).pick k1).pick k9).pick k9).pick k9).pick k9).pick k9).pick k9).pick k9).pick k9
     refine cNil ?_
     refine h15 _ _ ?_
     refine rSeq fun K16 h16 => rReg (fun _ _ h => h) rfl ?_
     refine zL hf hc sc_35 m5 rfl fun a w hf hc => sp 1 hf rfl fun a hf => ?_
     obtain ⟨e_6,he_6,hF⟩ := bnd_some hF
     obtain ⟨qa_5,qr_5⟩ := row_atk hc m6 he_6
     refine zP hf rfl (pIA Tryz.underlying35 sz_3 rfl rfl (At.len qa_5 (by simp only [List.length_set]))) fun a hf => stRw (sz := 1) (vs := [i6 (-1)]) (o' := 0) (z := (-1)) (xs := (b__6.set p_.toNat xv)) hf hc rfl rfl rfl rfl sz_3 rfl (fun x => (one_encI_i64 x).1) (getI_lt he_6) (fun _ _ => rfl) rfl u6 fun w hc => cNil ?_
     refine h16 _ _ ?_
     refine rSeq fun K17 h17 => rReg (fun _ _ h => h) rfl ?_
     refine zL hf hc sc_114 m3 rfl fun a w hf hc => sp 1 hf rfl fun a hf => zL hf hc sc_3 m0 rfl fun a w hf hc => zP hf rfl (pBuildS (cells := [i6 q,i6 xv]) bt_146 rfl rfl) fun a hf => stBS (rows := ([(⟨q,xv⟩ : crew_Refusal)] : List crew_Refusal).map enc_crew_Refusal) (vs := [(0,.agg #[i6 q,i6 xv])]) hf hc rfl rfl sl_114 rfl ⟨rfl,rfl,rfl,trivial⟩ rfl rfl fun b_7 a w hf hc => ?_
     obtain ⟨un,hun,hF⟩ := bnd_some hF
     refine stApm (xs := b__0) (ys := ([(⟨q,xv⟩ : crew_Refusal)] : List crew_Refusal)) hf hc rfl rfl sl_114 rfl rfl rfl rfl rfl one_enc_crew_Refusal (src_row hc m0) (fun _ _ => u5) (by simpa using room_spec hun) fun p_4 c_3 a w hf hc => zW hf hc sz_114 u4 rfl fun w hc => cNil ?_
     refine h17 _ _ ?_
     refine rSeq fun K18 h18 => rReg (fun _ _ h => h) rfl ?_
     refine zL hf hc sc_68 m11 rfl fun a w hf hc => sp 1 hf rfl fun a hf => ?_
     replace hc : Ctx G (.row (some ⟨b_7,0,none⟩) 1 (([(⟨q,xv⟩ : crew_Refusal)] : List crew_Refusal).map enc_crew_Refusal) 146 2::.box b_5 [i6 xv] 3::.box b_1 [i6 p_] 3::.box b_ [pq b__1] 111::.box b__2 [.slice p_4 ((b__0 ++ [(⟨q,xv⟩ : crew_Refusal)]).length) c_3] 114::.row p_4 c_3 ((b__0 ++ [(⟨q,xv⟩ : crew_Refusal)]).map enc_crew_Refusal) 146 2::.box b__3 [.slice (some ⟨g,0,none⟩) (((b__6.set p_.toNat xv).set q.toNat (-1)).length) c_2] 35::.row (some ⟨g,0,none⟩) c_2 (((b__6.set p_.toNat xv).set q.toNat (-1)).map encI_i64) 3 1::.box b__4 [.slice (some ⟨g_1,0,none⟩) (((b__7.set xv.toNat (some (setA mm p_ true))).set xv.toNat (some (delA mm_2 q))).length) tcq.1] 138::.row (some ⟨g_1,0,none⟩) tcq.1 ((tabR tcq.2 ((b__7.set xv.toNat (some (setA mm p_ true))).set xv.toNat (some (delA mm_2 q)))).map (Kd.v kd_139)) 139 1::tabI kd_139 (tabR tcq.2 ((b__7.set xv.toNat (some (setA mm p_ true))).set xv.toNat (some (delA mm_2 q))))::.box b__5 [.func (.func 88) #[] #[pq b_,pq b__2,pq b__3,pq b__4,pq b__5]] 68::Lb) w := by simp only [List.length_set] at hc ⊢; exact hc
     obtain ⟨r_2,hr_2,hF⟩ := bnd_some hF
     refine zC hf en_88 rfl (by have hq := ih q (⟨x.Roster,x.rank⟩ : crew_work) (b__0 ++ [(⟨q,xv⟩ : crew_Refusal)]) ((b__6.set p_.toNat xv).set q.toNat (-1)) ((b__7.set xv.toNat (some (setA mm p_ true))).set xv.toNat (some (delA mm_2 q))) h_x_Roster_People h_x_Roster_Stations h_x_pc (((((((((hc.pick k11).pick k11).pick k11).pick k11).pick k11).pick k11).pick k11).pick k11).pick k11) hr_2; (try simp only [List.length_set] at hq); exact hq) ?_
     rintro _ w ⟨p_5,c_4,p_6,c_5,p_7,tcq_1,rfl,hc⟩
     refine ⟨_,rfl,fun a hf => ?_⟩
     refine cNil ?_
     refine h18 _ _ ?_
     refine rRet ?_
     refine xBlkR ?_
     refine xThenR ?_
     replace hc := (((((((((((hc.drop k10).drop k9).pick k8).pick k4).pick k4).pick k8).pick k5).pick k8).pick k6).pick k8).pick k8).pick k9
     exact ⟨(r_2.1,r_2.2.1,r_2.2.2),_,(sj hF).symm,⟨p_5,c_4,p_6,c_5,p_7,tcq_1,rfl⟩,hc⟩
    have ho14 : ∀ r,x14 = .out r → r = oq := by
     rintro r rfl
     exact sj hF
    replace hc : Ctx G (.box b_5 [i6 xv] 3::.box b_1 [i6 p_] 3::.box b_ [pq b__1] 111::.box b__2 [.slice p_1 b__0.length c_1] 114::.row p_1 c_1 (b__0.map enc_crew_Refusal) 146 2::.box b__3 [.slice (some ⟨g,0,none⟩) ((b__6.set p_.toNat xv).length) c_2] 35::.row (some ⟨g,0,none⟩) c_2 ((b__6.set p_.toNat xv).map encI_i64) 3 1::.box b__4 [.slice (some ⟨g_1,0,none⟩) ((b__7.set xv.toNat (some (setA mm p_ true))).length) tcq.1] 138::.row (some ⟨g_1,0,none⟩) tcq.1 ((tabR tcq.2 (b__7.set xv.toNat (some (setA mm p_ true)))).map (Kd.v kd_139)) 139 1::tabI kd_139 (tabR tcq.2 (b__7.set xv.toNat (some (setA mm p_ true))))::.box b__5 [.func (.func 88) #[] #[pq b_,pq b__2,pq b__3,pq b__4,pq b__5]] 68::Lb) w := by simp only [List.length_set] at hc ⊢; exact hc
    refine rLoop N (loopR (S := S14) (x := x14) ?_ N (p_,0) _ _ ⟨hf.kp rfl,hc⟩ hx14)
    clear hF hf hc
    rintro ⟨q,x_0⟩ st14 a w KB14 ⟨hf,hc⟩ hF hfin14 hK14
    unfold crew_work_settle_1_b14 at hF
    refine rSeq fun K19 h19 => rReg (fun _ _ h => h) rfl ?_
    refine sp 1 hf rfl fun a hf => cNil ?_
    refine h19 _ _ ?_
    refine rSeq fun K20 h20 => rCond (b := (decide (x_0 < ((x.Roster.People.length : Nat) : Int)))) hf rfl (fun hb => ?_) (fun hb => ?_)
    ·replace hF := condT hb hF
     clear hb
     refine rSkip ?_
     refine h20 _ _ ?_
     refine rSeq fun K21 h21 => ?_
     have hj21 : ∀ (q_1 : Int) a w,Has 95 a [(1,pq b_),(2,pq b__2),(3,pq b__3),(4,pq b__4),(5,pq b__5),(7,pq b_5),(8,i6 q_1),(47,i6 ((x.Roster.People.length : Nat) : Int)),(48,i6 x_0)] → Ctx G (.box b_5 [i6 xv] 3::.box b_1 [i6 p_] 3::.box b_ [pq b__1] 111::.box b__2 [.slice p_1 b__0.length c_1] 114::.row p_1 c_1 (b__0.map enc_crew_Refusal) 146 2::.box b__3 [.slice (some ⟨g,0,none⟩) ((b__6.set p_.toNat xv).length) c_2] 35::.row (some ⟨g,0,none⟩) c_2 ((b__6.set p_.toNat xv).map encI_i64) 3 1::.box b__4 [.slice (some ⟨g_1,0,none⟩) ((b__7.set xv.toNat (some (setA mm p_ true))).length) tcq.1] 138::.row (some ⟨g_1,0,none⟩) tcq.1 ((tabR tcq.2 (b__7.set xv.toNat (some (setA mm p_ true)))).map (Kd.v kd_139)) 139 1::tabI kd_139 (tabR tcq.2 (b__7.set xv.toNat (some (setA mm p_ true))))::.box b__5 [.func (.func 88) #[] #[pq b_,pq b__2,pq b__3,pq b__4,pq b__5]] 68::Lb) w → crew_work_settle_1_j21 N x_0 q_1 = some st14 → K21 a w := by
      repeat (clear hF)
      repeat (clear hc)
      repeat (clear hf)
      intro q_1 a w hf hc hF
      unfold crew_work_settle_1_j21 at hF
      refine h21 _ _ ?_
      refine rReg (fun _ _ h => h) rfl ?_
      refine sp 2 hf rfl fun a hf => cNil ?_
      exact hK14 (q_1,W (x_0 + 1)) _ _ (sj hF).symm ⟨hf.kp rfl,hc⟩
     refine rBlock ?_
     refine rSeq fun K22 h22 => rReg (fun _ _ h => h) rfl ?_
     refine sp 2 hf rfl fun a hf => cNil ?_
     refine h22 _ _ ?_
     refine rSeq fun K23 h23 => ?_
     obtain ⟨rg,hrg,hF⟩ := bnd_some hF
     refine rCut (fun a w => Has 95 a [(1,pq b_),(2,pq b__2),(3,pq b__3),(4,pq b__4),(5,pq b__5),(7,pq b_5),(8,i6 q),(9,i6 x_0),(47,i6 ((x.Roster.People.length : Nat) : Int)),(48,i6 x_0),(75,.bool rg)] ∧ Ctx G (.box b_5 [i6 xv] 3::.box b_1 [i6 p_] 3::.box b_ [pq b__1] 111::.box b__2 [.slice p_1 b__0.length c_1] 114::.row p_1 c_1 (b__0.map enc_crew_Refusal) 146 2::.box b__3 [.slice (some ⟨g,0,none⟩) ((b__6.set p_.toNat xv).length) c_2] 35::.row (some ⟨g,0,none⟩) c_2 ((b__6.set p_.toNat xv).map encI_i64) 3 1::.box b__4 [.slice (some ⟨g_1,0,none⟩) ((b__7.set xv.toNat (some (setA mm p_ true))).length) tcq.1] 138::.row (some ⟨g_1,0,none⟩) tcq.1 ((tabR tcq.2 (b__7.set xv.toNat (some (setA mm p_ true)))).map (Kd.v kd_139)) 139 1::tabI kd_139 (tabR tcq.2 (b__7.set xv.toNat (some (setA mm p_ true))))::.box b__5 [.func (.func 88) #[] #[pq b_,pq b__2,pq b__3,pq b__4,pq b__5]] 68::Lb) w) ?_ ?_
     ·clear hF
      have hF := hrg
      clear hrg
      obtain ⟨e_7,he_7,hF⟩ := bnd_some hF
      obtain ⟨qa_6,qr_6⟩ := row_atk hc m8 (tabR_getI he_7)
      obtain ⟨mm_3,hmm_3,hF⟩ := bnd_some hF
      cases hb : ((lkA mm_3 x_0).getD false)
      ·replace hF := condF hb hF
       try rw [hb] at hf
       try rw [hb] at hc
       have hb3 := hb
       clear hb
       obtain ⟨qa_7,qr_7⟩ := row_atk hc m8 (tabR_getI he_7)
       refine rRegE (fun _ _ h => h) rfl (fun θ => (⟨none,none,1,pq b_⟩::⟨none,none,2,pq b__2⟩::⟨none,none,3,pq b__3⟩::⟨none,none,4,pq b__4⟩::⟨none,none,5,pq b__5⟩::⟨none,none,7,pq b_5⟩::⟨none,none,8,i6 q⟩::⟨none,none,9,i6 x_0⟩::⟨none,none,47,i6 ((x.Roster.People.length : Nat) : Int)⟩::⟨none,none,48,i6 x_0⟩::⟨some 0,none,51,.slice (some ⟨g_1,0,none⟩) ((b__7.set xv.toNat (some (setA mm p_ true))).length) tcq.1⟩::⟨some 1,none,52,i6 xv⟩::⟨some 2,none,53,.pointer (some ⟨g_1,xv.toNat * 1,none⟩)⟩::⟨some 3,none,54,.map (some ((tcq.2 xv.toNat).2))⟩::⟨some 4,none,55,i6 x_0⟩::⟨some 5,none,56,.bool false⟩::⟨some 6,none,57,.bool false⟩::⟨some 7,none,58,undef⟩::⟨some 8,none,59,undef⟩::⟨some 9,none,60,undef⟩::⟨some 10,none,61,undef⟩::⟨some 11,none,62,undef⟩::⟨some 12,none,63,undef⟩::⟨some 13,none,64,undef⟩::⟨some 14,none,65,undef⟩::⟨some 15,none,66,undef⟩::⟨some 16,none,67,undef⟩::⟨some 17,none,68,undef⟩::⟨some 18,none,69,undef⟩::⟨some 19,none,70,undef⟩::⟨some 20,none,71,undef⟩::⟨some 21,none,72,undef⟩::⟨some 22,none,73,undef⟩::⟨some 23,none,74,undef⟩::⟨some 24,none,75,.bool false⟩::[])) (fun E θ => .box b_5 [i6 xv] 3::.box b_1 [i6 p_] 3::.box b_ [pq b__1] 111::.box b__2 [.slice p_1 b__0.length c_1] 114::.row p_1 c_1 (b__0.map enc_crew_Refusal) 146 2::.box b__3 [.slice (some ⟨g,0,none⟩) ((b__6.set p_.toNat xv).length) c_2] 35::.row (some ⟨g,0,none⟩) c_2 ((b__6.set p_.toNat xv).map encI_i64) 3 1::.box b__4 [.slice (some ⟨g_1,0,none⟩) ((b__7.set xv.toNat (some (setA mm p_ true))).length) tcq.1] 138::.row (some ⟨g_1,0,none⟩) tcq.1 ((tabR tcq.2 (b__7.set xv.toNat (some (setA mm p_ true)))).map (Kd.v kd_139)) 139 1::tabI kd_139 (tabR tcq.2 (b__7.set xv.toNat (some (setA mm p_ true))))::.box b__5 [.func (.func 88) #[] #[pq b_,pq b__2,pq b__3,pq b__4,pq b__5]] 68::Lb) [] (fun a w => Has 95 a [(1,pq b_),(2,pq b__2),(3,pq b__3),(4,pq b__4),(5,pq b__5),(7,pq b_5),(8,i6 q),(9,i6 x_0),(47,i6 ((x.Roster.People.length : Nat) : Int)),(48,i6 x_0),(58,undef),(59,undef),(60,undef),(61,undef),(62,undef),(63,undef),(64,undef),(65,undef),(66,undef),(67,undef),(68,undef),(69,undef),(70,undef),(71,undef),(72,undef),(73,undef),(74,undef),(75,.bool false)] ∧ Ctx G (.box b_5 [i6 xv] 3::.box b_1 [i6 p_] 3::.box b_ [pq b__1] 111::.box b__2 [.slice p_1 b__0.length c_1] 114::.row p_1 c_1 (b__0.map enc_crew_Refusal) 146 2::.box b__3 [.slice (some ⟨g,0,none⟩) ((b__6.set p_.toNat xv).length) c_2] 35::.row (some ⟨g,0,none⟩) c_2 ((b__6.set p_.toNat xv).map encI_i64) 3 1::.box b__4 [.slice (some ⟨g_1,0,none⟩) ((b__7.set xv.toNat (some (setA mm p_ true))).length) tcq.1] 138::.row (some ⟨g_1,0,none⟩) tcq.1 ((tabR tcq.2 (b__7.set xv.toNat (some (setA mm p_ true)))).map (Kd.v kd_139)) 139 1::tabI kd_139 (tabR tcq.2 (b__7.set xv.toNat (some (setA mm p_ true))))::.box b__5 [.func (.func 88) #[] #[pq b_,pq b__2,pq b__3,pq b__4,pq b__5]] 68::Lb) w) follows_mx (by kernel_rfl) (by kernel_rfl) (HasE.of hf ⟨rfl,rfl,rfl,rfl,rfl,rfl,rfl,rfl,rfl,rfl,trivial,trivial,trivial,trivial,trivial,trivial,trivial,trivial,trivial,trivial,trivial,trivial,trivial,trivial,trivial,trivial,trivial,trivial,trivial,trivial,trivial,trivial,trivial,trivial,trivial,trivial⟩) hc ⟨?_,?_,?_,?_,?_,?_,?_,?_,?_,?_,?_,?_,?_,?_,?_,?_,?_,?_,?_,?_,?_,?_,?_,?_,?_,trivial⟩ ?_ ?_
       ·intro E θ a w hD hi hp he hc
        have hf := he.h0.mT he 3 rfl
        refine zL hf hc sc_138 m7 rfl fun a w hf hc => zD θ he hi hf 10 rfl rfl rfl hc
       ·intro E θ a w hD hi hp he hc
        have hf := he.h0.mT he 5 rfl
        refine zL hf hc sc_3 m0 rfl fun a w hf hc => zD θ he hi hf 11 rfl rfl rfl hc
       ·intro E θ a w hD hi hp he hc
        have e0 := hp.o 0 rfl
        have e1 := hp.o 1 rfl
        have hf := (he.h0.mP he 10 rfl e0).mP he 11 rfl e1
        refine zP hf rfl (pIA Tryz.underlying138 sz_139 rfl rfl (At.len qa_7 (by simp only [tabR_len,List.length_set]))) fun a hf => zD θ he hi hf 12 rfl rfl rfl hc
       ·intro E θ a w hD hi hp he hc
        have e2 := hp.o 2 rfl
        have hf := he.h0.mP he 12 rfl e2
        refine zE hf hc rfl (eLd1 sc_139 rfl (cell_row (sz := 1) (i := xv.toNat) (j := 0) m8 qr_7 (by subst hmm_3; rfl))) fun a w hf hc => zD θ he hi hf 13 rfl rfl rfl hc
       ·intro E θ a w hD hi hp he hc
        have hf := he.h0.mT he 7 rfl
        refine sp 1 hf rfl fun a hf => zD θ he hi hf 14 rfl rfl rfl hc
       ·intro E θ a w hD hi hp he hc
        have e3 := hp.o 3 rfl
        have e4 := hp.o 4 rfl
        have hf := (he.h0.mP he 13 rfl e3).mP he 14 rfl e4
        refine zE hf hc rfl (eLk (enc := Value.bool) (z0 := false) (m := (lkA mm_3)) (alS (tabSm m9 (getM_of he_7 hmm_3))) Tryz.underlying139 Tryz.underlying3 zr_4 rfl rfl) fun a w hf hc => ?_
        rw [hb3] at hf
        exact zD θ he hi hf 15 rfl rfl rfl hc
       ·intro E θ a w hD hi hp he hc
        have e5 := hp.o 5 rfl
        have hf := he.h0.mP he 15 rfl e5
        refine sp 1 hf rfl fun a hf => zD θ he hi hf 16 rfl rfl rfl hc
       ·intro E θ a w hD hi hp he hc
        have e6 := hp.o 6 rfl
        have hf := (he.h0.mT he 0 rfl).mP he 16 rfl e6
        refine stS hf rfl rfl rfl fun a hf => zD θ he hi hf 17 rfl rfl rfl hc
       ·intro E θ a w hD hi hp he hc
        have e6 := hp.o 6 rfl
        have hf := (he.h0.mT he 5 rfl).mP he 16 rfl e6
        refine stS hf rfl rfl rfl fun a hf => zD θ he hi hf 18 rfl rfl rfl hc
       ·intro E θ a w hD hi hp he hc
        have e6 := hp.o 6 rfl
        have hf := (he.h0.mT he 7 rfl).mP he 16 rfl e6
        refine stS hf rfl rfl rfl fun a hf => zD θ he hi hf 19 rfl rfl rfl hc
       ·intro E θ a w hD hi hp he hc
        have e6 := hp.o 6 rfl
        have e7 := hp.o 7 rfl
        have hf := (he.h0.mP he 16 rfl e6).mP he 17 rfl e7
        refine stS hf rfl rfl rfl fun a hf => zD θ he hi hf 20 rfl rfl rfl hc
       ·intro E θ a w hD hi hp he hc
        have e6 := hp.o 6 rfl
        have e10 := hp.o 10 rfl
        have hf := (he.h0.mP he 16 rfl e6).mP he 20 rfl e10
        refine stS hf rfl rfl rfl fun a hf => zD θ he hi hf 21 rfl rfl rfl hc
       ·intro E θ a w hD hi hp he hc
        have e6 := hp.o 6 rfl
        have e8 := hp.o 8 rfl
        have e11 := hp.o 11 rfl
        have hf := ((he.h0.mP he 16 rfl e6).mP he 18 rfl e8).mP he 21 rfl e11
        refine stS hf rfl rfl rfl fun a hf => zD θ he hi hf 22 rfl rfl rfl hc
       ·intro E θ a w hD hi hp he hc
        have e6 := hp.o 6 rfl
        have e9 := hp.o 9 rfl
        have e12 := hp.o 12 rfl
        have hf := ((he.h0.mP he 16 rfl e6).mP he 19 rfl e9).mP he 22 rfl e12
        refine stS hf rfl rfl rfl fun a hf => zD θ he hi hf 23 rfl rfl rfl hc
       ·intro E θ a w hD hi hp he hc
        have e6 := hp.o 6 rfl
        have e13 := hp.o 13 rfl
        have hf := (he.h0.mP he 16 rfl e6).mP he 23 rfl e13
        refine stS hf rfl rfl rfl fun a hf => zD θ he hi hf 24 rfl rfl rfl hc
       ·intro E θ a w hD hi hp he hc
        have e6 := hp.o 6 rfl
        have hf := (he.h0.mT he 0 rfl).mP he 16 rfl e6
        refine stS hf rfl rfl rfl fun a hf => zD θ he hi hf 25 rfl rfl rfl hc
       ·intro E θ a w hD hi hp he hc
        have e6 := hp.o 6 rfl
        have hf := (he.h0.mT he 5 rfl).mP he 16 rfl e6
        refine stS hf rfl rfl rfl fun a hf => zD θ he hi hf 26 rfl rfl rfl hc
       ·intro E θ a w hD hi hp he hc
        have e6 := hp.o 6 rfl
        have hf := (he.h0.mT he 6 rfl).mP he 16 rfl e6
        refine stS hf rfl rfl rfl fun a hf => zD θ he hi hf 27 rfl rfl rfl hc
       ·intro E θ a w hD hi hp he hc
        have e6 := hp.o 6 rfl
        have e15 := hp.o 15 rfl
        have hf := (he.h0.mP he 16 rfl e6).mP he 25 rfl e15
        refine stS hf rfl rfl rfl fun a hf => zD θ he hi hf 28 rfl rfl rfl hc
       ·intro E θ a w hD hi hp he hc
        have e6 := hp.o 6 rfl
        have e18 := hp.o 18 rfl
        have hf := (he.h0.mP he 16 rfl e6).mP he 28 rfl e18
        refine stS hf rfl rfl rfl fun a hf => zD θ he hi hf 29 rfl rfl rfl hc
       ·intro E θ a w hD hi hp he hc
        have e6 := hp.o 6 rfl
        have e16 := hp.o 16 rfl
        have e19 := hp.o 19 rfl
        have hf := ((he.h0.mP he 16 rfl e6).mP he 26 rfl e16).mP he 29 rfl e19
        refine stS hf rfl rfl rfl fun a hf => zD θ he hi hf 30 rfl rfl rfl hc
       ·intro E θ a w hD hi hp he hc
        have e6 := hp.o 6 rfl
        have e17 := hp.o 17 rfl
        have e20 := hp.o 20 rfl
        have hf := ((he.h0.mP he 16 rfl e6).mP he 27 rfl e17).mP he 30 rfl e20
        refine stS hf rfl rfl rfl fun a hf => zD θ he hi hf 31 rfl rfl rfl hc
       ·intro E θ a w hD hi hp he hc
        have e6 := hp.o 6 rfl
        have e21 := hp.o 21 rfl
        have hf := (he.h0.mP he 16 rfl e6).mP he 31 rfl e21
        refine stS hf rfl rfl rfl fun a hf => zD θ he hi hf 32 rfl rfl rfl hc
       ·intro E θ a w hD hi hp he hc
        have e6 := hp.o 6 rfl
        have e14 := hp.o 14 rfl
        have e22 := hp.o 22 rfl
        have hf := ((he.h0.mP he 16 rfl e6).mP he 24 rfl e14).mP he 32 rfl e22
        refine stS hf rfl rfl rfl fun a hf => zD θ he hi hf 33 rfl rfl rfl hc
       ·intro E θ a w hD hi hp he hc
        have e6 := hp.o 6 rfl
        have e23 := hp.o 23 rfl
        have hf := (he.h0.mP he 16 rfl e6).mP he 33 rfl e23
        refine sp 1 hf rfl fun a hf => zD θ he hi hf 34 rfl rfl rfl hc
       ·intro E θ a w hall he hc
        have hf := he.h0
        have e7 := hall 7 rfl
        have e8 := hall 8 rfl
        have e9 := hall 9 rfl
        have e10 := hall 10 rfl
        have e11 := hall 11 rfl
        have e12 := hall 12 rfl
        have e13 := hall 13 rfl
        have e14 := hall 14 rfl
        have e15 := hall 15 rfl
        have e16 := hall 16 rfl
        have e17 := hall 17 rfl
        have e18 := hall 18 rfl
        have e19 := hall 19 rfl
        have e20 := hall 20 rfl
        have e21 := hall 21 rfl
        have e22 := hall 22 rfl
        have e23 := hall 23 rfl
        have e24 := hall 24 rfl
        replace hf := hf.more he 34 rfl (onP e24)
        replace hf := hf.more he 33 rfl (onP e23)
        replace hf := hf.more he 32 rfl (onP e22)
        replace hf := hf.more he 31 rfl (onP e21)
        replace hf := hf.more he 30 rfl (onP e20)
        replace hf := hf.more he 29 rfl (onP e19)
        replace hf := hf.more he 28 rfl (onP e18)
        replace hf := hf.more he 27 rfl (onP e17)
        replace hf := hf.more he 26 rfl (onP e16)
        replace hf := hf.more he 25 rfl (onP e15)
        replace hf := hf.more he 24 rfl (onP e14)
        replace hf := hf.more he 23 rfl (onP e13)
        replace hf := hf.more he 22 rfl (onP e12)
        replace hf := hf.more he 21 rfl (onP e11)
        replace hf := hf.more he 20 rfl (onP e10)
        replace hf := hf.more he 19 rfl (onP e9)
        replace hf := hf.more he 18 rfl (onP e8)
        replace hf := hf.more he 17 rfl (onP e7)
        replace hf := hf.more he 9 rfl (onT)
        replace hf := hf.more he 8 rfl (onT)
        replace hf := hf.more he 7 rfl (onT)
        replace hf := hf.more he 6 rfl (onT)
        replace hf := hf.more he 5 rfl (onT)
        replace hf := hf.more he 4 rfl (onT)
        replace hf := hf.more he 3 rfl (onT)
        replace hf := hf.more he 2 rfl (onT)
        replace hf := hf.more he 1 rfl (onT)
        replace hf := hf.more he 0 rfl (onT)
        exact ⟨hf.kp rfl,hc⟩
       rintro a w ⟨hf,hc⟩
       refine xThenN ?_
       obtain rfl := sj hF
       exact ⟨hf.kp rfl,hc⟩
      ·replace hF := condT hb hF
       try rw [hb] at hf
       try rw [hb] at hc
       have hb3 := hb
       clear hb
       obtain ⟨qa_8,qr_8⟩ := row_atk hc m8 (tabR_getI he_7)
       obtain ⟨un_1,hun_1,hF⟩ := bnd_some hF
       obtain ⟨un_2,hun_2,hF⟩ := bnd_some hF
       obtain ⟨un_3,hun_3,hF⟩ := bnd_some hF
       refine rRegE (fun _ _ h => h) rfl (fun θ => (⟨none,none,1,pq b_⟩::⟨none,none,2,pq b__2⟩::⟨none,none,3,pq b__3⟩::⟨none,none,4,pq b__4⟩::⟨none,none,5,pq b__5⟩::⟨none,none,7,pq b_5⟩::⟨none,none,8,i6 q⟩::⟨none,none,9,i6 x_0⟩::⟨none,none,47,i6 ((x.Roster.People.length : Nat) : Int)⟩::⟨none,none,48,i6 x_0⟩::⟨some 0,none,51,.slice (some ⟨g_1,0,none⟩) ((b__7.set xv.toNat (some (setA mm p_ true))).length) tcq.1⟩::⟨some 1,none,52,i6 xv⟩::⟨some 2,none,53,.pointer (some ⟨g_1,xv.toNat * 1,none⟩)⟩::⟨some 3,none,54,.map (some ((tcq.2 xv.toNat).2))⟩::⟨some 4,none,55,i6 x_0⟩::⟨some 5,none,56,.bool true⟩::⟨some 6,none,57,.bool true⟩::⟨some 7,none,58,pq b__1⟩::⟨some 8,none,59,i6 xv⟩::⟨some 9,none,60,i6 x_0⟩::⟨some 10,none,61,pq b__1⟩::⟨some 11,none,62,.pointer (some ⟨b__1,0 + 2,none⟩)⟩::⟨some 12,none,63,.pointer (some ⟨b__1,0 + 2 + xv.toNat * 12,none⟩)⟩::⟨some 13,none,64,.pointer (some ⟨b__1,0 + 2 + (xv * 12 + x_0).toNat * 1,none⟩)⟩::⟨some 14,none,65,i6 (x.rank (xv * 12 + x_0).toNat)⟩::⟨some 15,none,66,pq b__1⟩::⟨some 16,none,67,i6 xv⟩::⟨some 17,none,68,i6 q⟩::⟨some 18,none,69,pq b__1⟩::⟨some 19,none,70,.pointer (some ⟨b__1,0 + 2,none⟩)⟩::⟨some 20,none,71,.pointer (some ⟨b__1,0 + 2 + xv.toNat * 12,none⟩)⟩::⟨some 21,none,72,.pointer (some ⟨b__1,0 + 2 + (xv * 12 + q).toNat * 1,none⟩)⟩::⟨some 22,none,73,i6 (x.rank (xv * 12 + q).toNat)⟩::⟨some 23,none,74,.bool (decide ((x.rank (xv * 12 + q).toNat) < (x.rank (xv * 12 + x_0).toNat)))⟩::⟨some 24,none,75,.bool (decide ((x.rank (xv * 12 + q).toNat) < (x.rank (xv * 12 + x_0).toNat)))⟩::[])) (fun E θ => .box b_5 [i6 xv] 3::.box b_1 [i6 p_] 3::.box b_ [pq b__1] 111::.box b__2 [.slice p_1 b__0.length c_1] 114::.row p_1 c_1 (b__0.map enc_crew_Refusal) 146 2::.box b__3 [.slice (some ⟨g,0,none⟩) ((b__6.set p_.toNat xv).length) c_2] 35::.row (some ⟨g,0,none⟩) c_2 ((b__6.set p_.toNat xv).map encI_i64) 3 1::.box b__4 [.slice (some ⟨g_1,0,none⟩) ((b__7.set xv.toNat (some (setA mm p_ true))).length) tcq.1] 138::.row (some ⟨g_1,0,none⟩) tcq.1 ((tabR tcq.2 (b__7.set xv.toNat (some (setA mm p_ true)))).map (Kd.v kd_139)) 139 1::tabI kd_139 (tabR tcq.2 (b__7.set xv.toNat (some (setA mm p_ true))))::.box b__5 [.func (.func 88) #[] #[pq b_,pq b__2,pq b__3,pq b__4,pq b__5]] 68::Lb) [] (fun a w => Has 95 a [(1,pq b_),(2,pq b__2),(3,pq b__3),(4,pq b__4),(5,pq b__5),(7,pq b_5),(8,i6 q),(9,i6 x_0),(47,i6 ((x.Roster.People.length : Nat) : Int)),(48,i6 x_0),(58,pq b__1),(59,i6 xv),(60,i6 x_0),(61,pq b__1),(62,.pointer (some ⟨b__1,0 + 2,none⟩)),(63,.pointer (some ⟨b__1,0 + 2 + xv.toNat * 12,none⟩)),(64,.pointer (some ⟨b__1,0 + 2 + (xv * 12 + x_0).toNat * 1,none⟩)),(65,i6 (x.rank (xv * 12 + x_0).toNat)),(66,pq b__1),(67,i6 xv),(68,i6 q),(69,pq b__1),(70,.pointer (some ⟨b__1,0 + 2,none⟩)),(71,.pointer (some ⟨b__1,0 + 2 + xv.toNat * 12,none⟩)),(72,.pointer (some ⟨b__1,0 + 2 + (xv * 12 + q).toNat * 1,none⟩)),(73,i6 (x.rank (xv * 12 + q).toNat)),(74,.bool (decide ((x.rank (xv * 12 + q).toNat) < (x.rank (xv * 12 + x_0).toNat)))),(75,.bool (decide ((x.rank (xv * 12 + q).toNat) < (x.rank (xv * 12 + x_0).toNat))))] ∧ Ctx G (.box b_5 [i6 xv] 3::.box b_1 [i6 p_] 3::.box b_ [pq b__1] 111::.box b__2 [.slice p_1 b__0.length c_1] 114::.row p_1 c_1 (b__0.map enc_crew_Refusal) 146 2::.box b__3 [.slice (some ⟨g,0,none⟩) ((b__6.set p_.toNat xv).length) c_2] 35::.row (some ⟨g,0,none⟩) c_2 ((b__6.set p_.toNat xv).map encI_i64) 3 1::.box b__4 [.slice (some ⟨g_1,0,none⟩) ((b__7.set xv.toNat (some (setA mm p_ true))).length) tcq.1] 138::.row (some ⟨g_1,0,none⟩) tcq.1 ((tabR tcq.2 (b__7.set xv.toNat (some (setA mm p_ true)))).map (Kd.v kd_139)) 139 1::tabI kd_139 (tabR tcq.2 (b__7.set xv.toNat (some (setA mm p_ true))))::.box b__5 [.func (.func 88) #[] #[pq b_,pq b__2,pq b__3,pq b__4,pq b__5]] 68::Lb) w) follows_mx (by kernel_rfl) (by kernel_rfl) (HasE.of hf ⟨rfl,rfl,rfl,rfl,rfl,rfl,rfl,rfl,rfl,rfl,trivial,trivial,trivial,trivial,trivial,trivial,trivial,trivial,trivial,trivial,trivial,trivial,trivial,trivial,trivial,trivial,trivial,trivial,trivial,trivial,trivial,trivial,trivial,trivial,trivial,trivial⟩) hc ⟨?_,?_,?_,?_,?_,?_,?_,?_,?_,?_,?_,?_,?_,?_,?_,?_,?_,?_,?_,?_,?_,?_,?_,?_,?_,trivial⟩ ?_ ?_
       ·intro E θ a w hD hi hp he hc
        have hf := he.h0.mT he 3 rfl
        refine zL hf hc sc_138 m7 rfl fun a w hf hc => zD θ he hi hf 10 rfl rfl rfl hc
       ·intro E θ a w hD hi hp he hc
        have hf := he.h0.mT he 5 rfl
        refine zL hf hc sc_3 m0 rfl fun a w hf hc => zD θ he hi hf 11 rfl rfl rfl hc
       ·intro E θ a w hD hi hp he hc
        have e0 := hp.o 0 rfl
        have e1 := hp.o 1 rfl
        have hf := (he.h0.mP he 10 rfl e0).mP he 11 rfl e1
        refine zP hf rfl (pIA Tryz.underlying138 sz_139 rfl rfl (At.len qa_8 (by simp only [tabR_len,List.length_set]))) fun a hf => zD θ he hi hf 12 rfl rfl rfl hc
       ·intro E θ a w hD hi hp he hc
        have e2 := hp.o 2 rfl
        have hf := he.h0.mP he 12 rfl e2
        refine zE hf hc rfl (eLd1 sc_139 rfl (cell_row (sz := 1) (i := xv.toNat) (j := 0) m8 qr_8 (by subst hmm_3; rfl))) fun a w hf hc => zD θ he hi hf 13 rfl rfl rfl hc
       ·intro E θ a w hD hi hp he hc
        have hf := he.h0.mT he 7 rfl
        refine sp 1 hf rfl fun a hf => zD θ he hi hf 14 rfl rfl rfl hc
       ·intro E θ a w hD hi hp he hc
        have e3 := hp.o 3 rfl
        have e4 := hp.o 4 rfl
        have hf := (he.h0.mP he 13 rfl e3).mP he 14 rfl e4
        refine zE hf hc rfl (eLk (enc := Value.bool) (z0 := false) (m := (lkA mm_3)) (alS (tabSm m9 (getM_of he_7 hmm_3))) Tryz.underlying139 Tryz.underlying3 zr_4 rfl rfl) fun a w hf hc => ?_
        rw [hb3] at hf
        exact zD θ he hi hf 15 rfl rfl rfl hc
       ·intro E θ a w hD hi hp he hc
        have e5 := hp.o 5 rfl
        have hf := he.h0.mP he 15 rfl e5
        refine sp 1 hf rfl fun a hf => zD θ he hi hf 16 rfl rfl rfl hc
       ·intro E θ a w hD hi hp he hc
        have e6 := hp.o 6 rfl
        have hf := (he.h0.mT he 0 rfl).mP he 16 rfl e6
        refine zL hf hc sc_111 m2 rfl fun a w hf hc => zD θ he hi hf 17 rfl rfl rfl hc
       ·intro E θ a w hD hi hp he hc
        have e6 := hp.o 6 rfl
        have hf := (he.h0.mT he 5 rfl).mP he 16 rfl e6
        refine zL hf hc sc_3 m0 rfl fun a w hf hc => zD θ he hi hf 18 rfl rfl rfl hc
       ·intro E θ a w hD hi hp he hc
        have e6 := hp.o 6 rfl
        have hf := (he.h0.mT he 7 rfl).mP he 16 rfl e6
        refine sp 1 hf rfl fun a hf => zD θ he hi hf 19 rfl rfl rfl hc
       ·intro E θ a w hD hi hp he hc
        have e6 := hp.o 6 rfl
        have e7 := hp.o 7 rfl
        have hf := (he.h0.mP he 16 rfl e6).mP he 17 rfl e7
        refine sp 1 hf rfl fun a hf => zD θ he hi hf 20 rfl rfl rfl hc
       ·intro E θ a w hD hi hp he hc
        have e6 := hp.o 6 rfl
        have e10 := hp.o 10 rfl
        have hf := (he.h0.mP he 16 rfl e6).mP he 20 rfl e10
        refine zP hf rfl (pFA fa_136_1 rfl) fun a hf => zD θ he hi hf 21 rfl rfl rfl hc
       ·intro E θ a w hD hi hp he hc
        have e6 := hp.o 6 rfl
        have e8 := hp.o 8 rfl
        have e11 := hp.o 11 rfl
        have hf := ((he.h0.mP he 16 rfl e6).mP he 18 rfl e8).mP he 21 rfl e11
        refine zP hf rfl (pIAA Tryz.underlying134 sz_133 rfl rfl (inR_spec hun_1).1 (inR_spec hun_1).2) fun a hf => zD θ he hi hf 22 rfl rfl rfl hc
       ·intro E θ a w hD hi hp he hc
        have e6 := hp.o 6 rfl
        have e9 := hp.o 9 rfl
        have e12 := hp.o 12 rfl
        have hf := ((he.h0.mP he 16 rfl e6).mP he 19 rfl e9).mP he 22 rfl e12
        refine zP hf rfl (Pu.cast (pIAA Tryz.underlying133 sz_3 rfl rfl (inR_spec hun_2).1 (inR_spec hun_2).2) (congrArg (fun k => Value.pointer (some ⟨b__1,k,none⟩)) (flat_off (M := 12) (0 + 2) hun_1 hun_2 rfl))) fun a hf => zD θ he hi hf 23 rfl rfl rfl hc
       ·intro E θ a w hD hi hp he hc
        have e6 := hp.o 6 rfl
        have e13 := hp.o 13 rfl
        have hf := (he.h0.mP he 16 rfl e6).mP he 23 rfl e13
        refine zE hf hc rfl (eLd1 sc_3 rfl (cell_pca (j := 0) h_x_pc (fun x => (one_encI_i64 x).1) rfl (inR2 hun_1 hun_2 rfl) rfl)) fun a w hf hc => zD θ he hi hf 24 rfl rfl rfl hc
       ·intro E θ a w hD hi hp he hc
        have e6 := hp.o 6 rfl
        have hf := (he.h0.mT he 0 rfl).mP he 16 rfl e6
        refine zL hf hc sc_111 m2 rfl fun a w hf hc => zD θ he hi hf 25 rfl rfl rfl hc
       ·intro E θ a w hD hi hp he hc
        have e6 := hp.o 6 rfl
        have hf := (he.h0.mT he 5 rfl).mP he 16 rfl e6
        refine zL hf hc sc_3 m0 rfl fun a w hf hc => zD θ he hi hf 26 rfl rfl rfl hc
       ·intro E θ a w hD hi hp he hc
        have e6 := hp.o 6 rfl
        have hf := (he.h0.mT he 6 rfl).mP he 16 rfl e6
        refine sp 1 hf rfl fun a hf => zD θ he hi hf 27 rfl rfl rfl hc
       ·intro E θ a w hD hi hp he hc
        have e6 := hp.o 6 rfl
        have e15 := hp.o 15 rfl
        have hf := (he.h0.mP he 16 rfl e6).mP he 25 rfl e15
        refine sp 1 hf rfl fun a hf => zD θ he hi hf 28 rfl rfl rfl hc
       ·intro E θ a w hD hi hp he hc
        have e6 := hp.o 6 rfl
        have e18 := hp.o 18 rfl
        have hf := (he.h0.mP he 16 rfl e6).mP he 28 rfl e18
        refine zP hf rfl (pFA fa_136_1 rfl) fun a hf => zD θ he hi hf 29 rfl rfl rfl hc
       ·intro E θ a w hD hi hp he hc
        have e6 := hp.o 6 rfl
        have e16 := hp.o 16 rfl
        have e19 := hp.o 19 rfl
        have hf := ((he.h0.mP he 16 rfl e6).mP he 26 rfl e16).mP he 29 rfl e19
        refine zP hf rfl (pIAA Tryz.underlying134 sz_133 rfl rfl (inR_spec hun_1).1 (inR_spec hun_1).2) fun a hf => zD θ he hi hf 30 rfl rfl rfl hc
       ·intro E θ a w hD hi hp he hc
        have e6 := hp.o 6 rfl
        have e17 := hp.o 17 rfl
        have e20 := hp.o 20 rfl
        have hf := ((he.h0.mP he 16 rfl e6).mP he 27 rfl e17).mP he 30 rfl e20
        refine zP hf rfl (Pu.cast (pIAA Tryz.underlying133 sz_3 rfl rfl (inR_spec hun_3).1 (inR_spec hun_3).2) (congrArg (fun k => Value.pointer (some ⟨b__1,k,none⟩)) (flat_off (M := 12) (0 + 2) hun_1 hun_3 rfl))) fun a hf => zD θ he hi hf 31 rfl rfl rfl hc
       ·intro E θ a w hD hi hp he hc
        have e6 := hp.o 6 rfl
        have e21 := hp.o 21 rfl
        have hf := (he.h0.mP he 16 rfl e6).mP he 31 rfl e21
        refine zE hf hc rfl (eLd1 sc_3 rfl (cell_pca (j := 0) h_x_pc (fun x => (one_encI_i64 x).1) rfl (inR2 hun_1 hun_3 rfl) rfl)) fun a w hf hc => zD θ he hi hf 32 rfl rfl rfl hc
       ·intro E θ a w hD hi hp he hc
        have e6 := hp.o 6 rfl
        have e14 := hp.o 14 rfl
        have e22 := hp.o 22 rfl
        have hf := ((he.h0.mP he 16 rfl e6).mP he 24 rfl e14).mP he 32 rfl e22
        refine sp 1 hf rfl fun a hf => zD θ he hi hf 33 rfl rfl rfl hc
       ·intro E θ a w hD hi hp he hc
        have e6 := hp.o 6 rfl
        have e23 := hp.o 23 rfl
        have hf := (he.h0.mP he 16 rfl e6).mP he 33 rfl e23
        refine sp 1 hf rfl fun a hf => zD θ he hi hf 34 rfl rfl rfl hc
       ·intro E θ a w hall he hc
        have hf := he.h0
        have e7 := hall 7 rfl
        have e8 := hall 8 rfl
        have e9 := hall 9 rfl
        have e10 := hall 10 rfl
        have e11 := hall 11 rfl
        have e12 := hall 12 rfl
        have e13 := hall 13 rfl
        have e14 := hall 14 rfl
        have e15 := hall 15 rfl
        have e16 := hall 16 rfl
        have e17 := hall 17 rfl
        have e18 := hall 18 rfl
        have e19 := hall 19 rfl
        have e20 := hall 20 rfl
        have e21 := hall 21 rfl
        have e22 := hall 22 rfl
        have e23 := hall 23 rfl
        have e24 := hall 24 rfl
        replace hf := hf.more he 34 rfl (onP e24)
        replace hf := hf.more he 33 rfl (onP e23)
        replace hf := hf.more he 32 rfl (onP e22)
        replace hf := hf.more he 31 rfl (onP e21)
        replace hf := hf.more he 30 rfl (onP e20)
        replace hf := hf.more he 29 rfl (onP e19)
        replace hf := hf.more he 28 rfl (onP e18)
        replace hf := hf.more he 27 rfl (onP e17)
        replace hf := hf.more he 26 rfl (onP e16)
        replace hf := hf.more he 25 rfl (onP e15)
        replace hf := hf.more he 24 rfl (onP e14)
        replace hf := hf.more he 23 rfl (onP e13)
        replace hf := hf.more he 22 rfl (onP e12)
        replace hf := hf.more he 21 rfl (onP e11)
        replace hf := hf.more he 20 rfl (onP e10)
        replace hf := hf.more he 19 rfl (onP e9)
        replace hf := hf.more he 18 rfl (onP e8)
        replace hf := hf.more he 17 rfl (onP e7)
        replace hf := hf.more he 9 rfl (onT)
        replace hf := hf.more he 8 rfl (onT)
        replace hf := hf.more he 7 rfl (onT)
        replace hf := hf.more he 6 rfl (onT)
        replace hf := hf.more he 5 rfl (onT)
        replace hf := hf.more he 4 rfl (onT)
        replace hf := hf.more he 3 rfl (onT)
        replace hf := hf.more he 2 rfl (onT)
        replace hf := hf.more he 1 rfl (onT)
        replace hf := hf.more he 0 rfl (onT)
        exact ⟨hf.kp rfl,hc⟩
       rintro a w ⟨hf,hc⟩
       refine xThenN ?_
       obtain rfl := sj hF
       exact ⟨hf.kp rfl,hc⟩
     rintro a w ⟨hf,hc⟩
     refine h23 _ _ ?_
     refine rCond (b := rg) hf rfl (fun hb => ?_) (fun hb => ?_)
     ·replace hF := condT hb hF
      clear hb
      refine rReg (fun _ _ h => h) rfl ?_
      refine sp 2 hf rfl fun a hf => cNil ?_
      exact hj21 x_0 _ _  (hf.kp rfl) hc hF
     ·replace hF := condF hb hF
      clear hb
      refine rSkip ?_
      exact hj21 q _ _  (hf.kp rfl) hc hF
    ·replace hF := condF hb hF
     clear hb
     refine rExit ?_
     refine xThen ?_
     refine xThen ?_
     have he := sj hF
     rw [← he] at hfin14
     refine cHit ?_
     exact hr14 _ _ _ hfin14 ⟨hf.kp rfl,hc⟩
 ·rintro D_1 ⟨b__0,b__6,b__7⟩ _ a w hsF ⟨p_1,c_1,p_2,c_2,p_3,tcq,rfl⟩ hf hc
  replace hf : Has ⟨95,markL (D_1::[])⟩ a [(1,pq b_),(2,pq b__2),(3,pq b__3),(4,pq b__4),(5,pq b__5),(6,pq b_1)] := hf.kp rfl
  replace hc : Ctx G (.box b_2 [pq b__1] 111::.box b_3 [i6 r.1] 3::.box b_4 [i6 r.2] 3::.box b_1 [i6 p_] 3::.box b_ [pq b__1] 111::.box b__2 [.slice p_1 b__0.length c_1] 114::.row p_1 c_1 (b__0.map enc_crew_Refusal) 146 2::.box b__3 [.slice p_2 b__6.length c_2] 35::.row p_2 c_2 (b__6.map encI_i64) 3 1::.box b__4 [.slice p_3 b__7.length tcq.1] 138::.row p_3 tcq.1 ((tabR tcq.2 b__7).map (Kd.v kd_139)) 139 1::tabI kd_139 (tabR tcq.2 b__7)::.box b__5 [.func (.func 88) #[] #[pq b_,pq b__2,pq b__3,pq b__4,pq b__5]] 68::(raws (D_1::[]) ++ Lf)) w := rawsIn (C := [.box b_2 [pq b__1] 111,.box b_3 [i6 r.1] 3,.box b_4 [i6 r.2] 3]) (L := [.box b_1 [i6 p_] 3,.box b_ [pq b__1] 111,.box b__2 [.slice p_1 b__0.length c_1] 114,.row p_1 c_1 (b__0.map enc_crew_Refusal) 146 2,.box b__3 [.slice p_2 b__6.length c_2] 35,.row p_2 c_2 (b__6.map encI_i64) 3 1,.box b__4 [.slice p_3 b__7.length tcq.1] 138,.row p_3 tcq.1 ((tabR tcq.2 b__7).map (Kd.v kd_139)) 139 1,tabI kd_139 (tabR tcq.2 b__7),.box b__5 [.func (.func 88) #[] #[pq b_,pq b__2,pq b__3,pq b__4,pq b__5]] 68]) hc
  replace hF : (some (b__0,b__6,b__7)) = some res := by rcases hsF with rfl | rfl <;> exact hF
  obtain rfl := sj hF
  replace hc := (((((((((((hc.drop k3).drop k2).drop k1).drop k0).pick k5).pick k4).pick k3).pick k3).pick k7).pick k7).pick k7).pick k7
  refine outM hf ?_
  refine outML [.row p_1 c_1 (b__0.map enc_crew_Refusal) 146 2,.row p_2 c_2 (b__6.map encI_i64) 3 1,.row p_3 tcq.1 ((tabR tcq.2 b__7).map (Kd.v kd_139)) 139 1,tabI kd_139 (tabR tcq.2 b__7),.box b_ [pq b__1] 111,.box b__2 [.slice p_1 b__0.length c_1] 114,.box b__3 [.slice p_2 b__6.length c_2] 35,.box b__4 [.slice p_3 b__7.length tcq.1] 138,.box b__5 [.func (.func 88) #[] #[pq b_,pq b__2,pq b__3,pq b__4,pq b__5]] 68] (D_1::[]) hc fun w hc => ?_
  replace hc : Ctx G (.row p_1 c_1 (b__0.map enc_crew_Refusal) 146 2::.row p_2 c_2 (b__6.map encI_i64) 3 1::.row p_3 tcq.1 ((tabR tcq.2 b__7).map (Kd.v kd_139)) 139 1::tabI kd_139 (tabR tcq.2 b__7)::.box b_ [pq b__1] 111::.box b__2 [.slice p_1 b__0.length c_1] 114::.box b__3 [.slice p_2 b__6.length c_2] 35::.box b__4 [.slice p_3 b__7.length tcq.1] 138::.box b__5 [.func (.func 88) #[] #[pq b_,pq b__2,pq b__3,pq b__4,pq b__5]] 68::Lf) w := hc
  exact outM0 Tryz.results88 ⟨p_1,c_1,p_2,c_2,p_3,tcq,rfl,hc⟩
 ·rintro D_1 ⟨b__0,b__6,b__7⟩ _ a w hsF ⟨p_1,c_1,p_2,c_2,p_3,tcq,rfl⟩ hf hc
  replace hf : Has ⟨95,markL (D_1::[])⟩ a [(1,pq b_),(2,pq b__2),(3,pq b__3),(4,pq b__4),(5,pq b__5),(6,pq b_1)] := hf.kp rfl
  replace hc : Ctx G (.box b_2 [pq b__1] 111::.box b_3 [i6 r.1] 3::.box b_4 [i6 r.2] 3::.box b_1 [i6 p_] 3::.box b_ [pq b__1] 111::.box b__2 [.slice p_1 b__0.length c_1] 114::.row p_1 c_1 (b__0.map enc_crew_Refusal) 146 2::.box b__3 [.slice p_2 b__6.length c_2] 35::.row p_2 c_2 (b__6.map encI_i64) 3 1::.box b__4 [.slice p_3 b__7.length tcq.1] 138::.row p_3 tcq.1 ((tabR tcq.2 b__7).map (Kd.v kd_139)) 139 1::tabI kd_139 (tabR tcq.2 b__7)::.box b__5 [.func (.func 88) #[] #[pq b_,pq b__2,pq b__3,pq b__4,pq b__5]] 68::(raws (D_1::[]) ++ Lf)) w := rawsIn (C := [.box b_2 [pq b__1] 111,.box b_3 [i6 r.1] 3,.box b_4 [i6 r.2] 3]) (L := [.box b_1 [i6 p_] 3,.box b_ [pq b__1] 111,.box b__2 [.slice p_1 b__0.length c_1] 114,.row p_1 c_1 (b__0.map enc_crew_Refusal) 146 2,.box b__3 [.slice p_2 b__6.length c_2] 35,.row p_2 c_2 (b__6.map encI_i64) 3 1,.box b__4 [.slice p_3 b__7.length tcq.1] 138,.row p_3 tcq.1 ((tabR tcq.2 b__7).map (Kd.v kd_139)) 139 1,tabI kd_139 (tabR tcq.2 b__7),.box b__5 [.func (.func 88) #[] #[pq b_,pq b__2,pq b__3,pq b__4,pq b__5]] 68]) hc
  replace hF : (some (b__0,b__6,b__7)) = some res := by subst hsF; exact hF
  obtain rfl := sj hF
  replace hc := (((((((((((hc.drop k3).drop k2).drop k1).drop k0).pick k5).pick k4).pick k3).pick k3).pick k7).pick k7).pick k7).pick k7
  refine outM hf ?_
  refine outML [.row p_1 c_1 (b__0.map enc_crew_Refusal) 146 2,.row p_2 c_2 (b__6.map encI_i64) 3 1,.row p_3 tcq.1 ((tabR tcq.2 b__7).map (Kd.v kd_139)) 139 1,tabI kd_139 (tabR tcq.2 b__7),.box b_ [pq b__1] 111,.box b__2 [.slice p_1 b__0.length c_1] 114,.box b__3 [.slice p_2 b__6.length c_2] 35,.box b__4 [.slice p_3 b__7.length tcq.1] 138,.box b__5 [.func (.func 88) #[] #[pq b_,pq b__2,pq b__3,pq b__4,pq b__5]] 68] (D_1::[]) hc fun w hc => ?_
  replace hc : Ctx G (.row p_1 c_1 (b__0.map enc_crew_Refusal) 146 2::.row p_2 c_2 (b__6.map encI_i64) 3 1::.row p_3 tcq.1 ((tabR tcq.2 b__7).map (Kd.v kd_139)) 139 1::tabI kd_139 (tabR tcq.2 b__7)::.box b_ [pq b__1] 111::.box b__2 [.slice p_1 b__0.length c_1] 114::.box b__3 [.slice p_2 b__6.length c_2] 35::.box b__4 [.slice p_3 b__7.length tcq.1] 138::.box b__5 [.func (.func 88) #[] #[pq b_,pq b__2,pq b__3,pq b__4,pq b__5]] 68::Lf) w := hc
  exact outM0 Tryz.results88 ⟨p_1,c_1,p_2,c_2,p_3,tcq,rfl,hc⟩

def crew_work_settle_b12 (N : Nat) (w_ : crew_work) (x_2 : Int) (x_3 : List Int) (x_4 : List crew_Refusal) (x_5 : List (Option (List (Int × Bool)))) : Option (Step (Int × (List Int) × (List crew_Refusal) × (List (Option (List (Int × Bool))))) ((List Int) × (List crew_Refusal))) :=
 cond (decide (x_2 < ((w_.Roster.People.length : Nat) : Int)))
 (Option.bind (crew_work_settle_1 N x_2 w_ x_4 x_3 x_5) fun r_1 =>
 some (.cont (W (x_2 + 1),r_1.2.1,r_1.1,r_1.2.2)))
 (some (.brk (x_2,x_3,x_4,x_5)))
def crew_work_settle_b5 (N : Nat) (w_ : crew_work) (x : Int) (x_1 : List (Option (List (Int × Bool)))) : Option (Step (Int × (List (Option (List (Int × Bool))))) ((List Int) × (List crew_Refusal))) :=
 cond (decide (x < (((List.replicate ((w_.Roster.Stations.length : Nat) : Int).toNat (none : Option (List (Int × Bool)))).length : Nat) : Int)))
 (Option.bind (getI x_1 x) fun e_1 =>
 some (.cont (W (x + 1),(x_1.set x.toNat (some ([] : List (Int × Bool)))))))
 (some (.brk (x,x_1)))
def crew_work_settle (N : Nat) (w_ : crew_work) : Option ((List Int) × (List crew_Refusal)) :=
 Option.bind (inM ((w_.Roster.Stations.length : Nat) : Int)) fun un =>
 Option.bind (loopO (fun s5 => crew_work_settle_b5 N w_ s5.1 s5.2) N (0,(List.replicate ((w_.Roster.Stations.length : Nat) : Int).toNat (none : Option (List (Int × Bool)))))) fun x5 =>
 exK x5 (fun s5 => Option.bind (slices_Repeat_Lint_int N ([(-1)] : List Int) ((w_.Roster.People.length : Nat) : Int)) fun r =>
 Option.bind (loopO (fun s12 => crew_work_settle_b12 N w_ s12.1 s12.2.1 s12.2.2.1 s12.2.2.2) N (0,r,([] : List crew_Refusal),s5.2)) fun x12 =>
 exK x12 (fun s12 => some (s12.2.1,s12.2.2.1)) some) some
theorem crew_work_settle_ok {N : Nat} {G : Pers} {Lf : List Ent} {w : World} (w_ : crew_work) {b_ : Nat} {w__Roster_People_p : Option Addr} {w__Roster_People_c : Nat} {w__Roster_Stations_p : Option Addr} {w__Roster_Stations_c : Nat} (h_w__Roster_People : RdT kd_35 G 1 w__Roster_People_p w__Roster_People_c w_.Roster.People) (h_w__Roster_Stations : RdT kd_118 G 2 w__Roster_Stations_p w__Roster_Stations_c w_.Roster.Stations) (h_w__pc : PC G b_ 0 (catc [.slice w__Roster_People_p w_.Roster.People.length w__Roster_People_c,.slice w__Roster_Stations_p w_.Roster.Stations.length w__Roster_Stations_c] 144 encI_i64 w_.rank [])) (hc : Ctx G (Lf) w) {res : (List Int) × (List crew_Refusal)} (hF : crew_work_settle N w_ = some res) : Calls Tryz.prog 68 #[pq b_] w (fun e w => ∃ (p'1 : Option Addr) (c'1 : Nat) (p'2 : Option Addr) (c'2 : Nat),e = .returned (.tuple #[.slice p'1 res.1.length c'1,.slice p'2 res.2.length c'2]) ∧ Ctx G (.row p'1 c'1 (res.1.map encI_i64) 3 1::.row p'2 c'2 (res.2.map enc_crew_Refusal) 146 2::Lf) w) := by
 unfold crew_work_settle at hF
 refine fnIn Tryz.func68 rfl Tryz.ntmps68 rfl fun a hf => zS fun K h => zB hf hc rfl fun b_1 a w hf hc => sp 2 hf rfl fun a hf => zT h ?_
 refine zS fun K h => zL hf hc sc_111 m0 rfl fun a w hf hc => sp 1 hf rfl fun a hf => zP hf rfl (pFA fa_136_0 rfl) fun a hf => zP hf rfl (pFA fa_95_1 rfl) fun a hf => zE hf hc rfl (eLd1 sc_93 rfl (cell_pc (j := 1) h_w__pc rfl)) fun a w hf hc => zP hf rfl (pLenS Tryz.underlying93 rfl) fun a hf => ?_
 obtain ⟨un,hun,hF⟩ := bnd_some hF
 refine stMk (m := (List.replicate ((w_.Roster.Stations.length : Nat) : Int).toNat (none : Option (List (Int × Bool)))).length) (rows := (List.replicate ((w_.Roster.Stations.length : Nat) : Int).toNat (((none,0),(none : Option (List (Int × Bool)))) : H2 × (Option (List (Int × Bool))))).map (Kd.v kd_139)) hf hc rfl rfl sl_138 rfl rfl (inM_spec hun) rfl rfl (by simp [List.map_replicate,Value.cells,Kd.v,kM,kL,Kd.comp]) (by simp) fun b_2 a w hf hc => ?_
 obtain ⟨hsq,hc⟩ := tab_make (K := kd_139) (x := (none : Option (List (Int × Bool)))) (fun _ h => h.nilRow _ _) _ hc
 replace hc : Ctx G (.row (some ⟨b_2,0,none⟩) (((w_.Roster.Stations.length : Nat) : Int).toNat) ((tabR hsq (List.replicate ((w_.Roster.Stations.length : Nat) : Int).toNat (none : Option (List (Int × Bool))))).map (Kd.v kd_139)) 139 1::tabI kd_139 (tabR hsq (List.replicate ((w_.Roster.Stations.length : Nat) : Int).toNat (none : Option (List (Int × Bool)))))::.box b_1 [pq b_] 111::Lf) w := hc
 refine zA hf hc zr_138 rfl fun b_3 a w hf hc => zW hf hc sz_138 u0 rfl fun w hc => zT h ?_
 refine wp_seq_k fun K3 h3 => zS fun K h => zL hf hc sc_138 m0 rfl fun a w hf hc => zP hf rfl (pLenS Tryz.underlying138 rfl) fun a hf => sp 1 hf rfl fun a hf => zT h ?_
 refine wp_block ?_
 obtain ⟨x5,hx5,hF⟩ := bnd_some hF
 let S5 : (Int × (List (Option (List (Int × Bool))))) → Act → World → Prop := (fun (zz : Int × (List (Option (List (Int × Bool))))) a w => ∃ (p_1 : Option Addr) (tcq : TabH),Has 51 a [(1,pq b_1),(4,pq b_3),(18,i6 (((List.replicate ((w_.Roster.Stations.length : Nat) : Int).toNat (none : Option (List (Int × Bool)))).length : Nat) : Int)),(19,i6 zz.1)] ∧ Ctx G (.box b_3 [.slice p_1 zz.2.length tcq.1] 138::.row p_1 tcq.1 ((tabR tcq.2 zz.2).map (Kd.v kd_139)) 139 1::tabI kd_139 (tabR tcq.2 zz.2)::.box b_1 [pq b_] 111::Lf) w)
 have hr5 : ∀ (zz : Int × (List (Option (List (Int × Bool))))) a w,x5 = .go zz → S5 zz a w → K3 a w := by
  rintro ⟨x,x_1⟩ a w rfl ⟨p_1,tcq,hf,hc⟩
  replace hF := exK_go hF
  refine h3 _ _ ?_
  refine zS fun K h => stBS (rows := ([(-1)] : List Int).map encI_i64) (vs := [(0,i6 (-1))]) hf hc rfl rfl sl_35 rfl ⟨rfl,rfl,rfl,trivial⟩ rfl rfl fun b_4 a w hf hc => zL hf hc sc_111 m4 rfl fun a w hf hc => sp 1 hf rfl fun a hf => zP hf rfl (pFA fa_136_0 rfl) fun a hf => zP hf rfl (pFA fa_95_0 rfl) fun a hf => zE hf hc rfl (eLd1 sc_92 rfl (cell_pc (j := 0) h_w__pc rfl)) fun a w hf hc => zP hf rfl (pLenS Tryz.underlying92 rfl) fun a hf => ?_
  obtain ⟨r,hr,hF⟩ := bnd_some hF
  obtain ⟨G1,hle1,hrd1,hc,hth1⟩ := lend hc k0
  refine zC hf en_87 rfl (slices_Repeat_Lint_int_ok ([(-1)] : List Int) ((w_.Roster.People.length : Nat) : Int) hrd1 hc hr) ?_
  rintro _ w ⟨p_2,c_1,rfl,hc⟩
  refine ⟨_,rfl,fun a hf => ?_⟩
  replace hc := hth1 _ _ hc
  refine zA hf hc zr_35 rfl fun b_5 a w hf hc => zW hf hc sz_35 u0 rfl fun w hc => zT h ?_
  refine zS fun K h => zA hf hc zr_114 rfl fun b_6 a w hf hc => zT h ?_
  refine wp_seq_k fun K8 h8 => cReg ?_
  refine zA hf hc zr_68 rfl fun b_7 a w hf hc => cNil ?_
  replace hc := hc.drop k3
  refine h8 _ _ ?_
  refine zS fun K h => zP hf rfl (pMF (us := [pq b_1,pq b_6,pq b_5,pq b_3,pq b_7]) rfl rfl) fun a hf => zW hf hc sz_68 u0 rfl fun w hc => zT h ?_
  refine wp_seq_k fun K10 h10 => zS fun K h => zL hf hc sc_111 m7 rfl fun a w hf hc => sp 1 hf rfl fun a hf => zP hf rfl (pFA fa_136_0 rfl) fun a hf => zP hf rfl (pFA fa_95_0 rfl) fun a hf => zE hf hc rfl (eLd1 sc_92 rfl (cell_pc (j := 0) h_w__pc rfl)) fun a w hf hc => zP hf rfl (pLenS Tryz.underlying92 rfl) fun a hf => sp 1 hf rfl fun a hf => zT h ?_
  refine wp_block ?_
  obtain ⟨x12,hx12,hF⟩ := bnd_some hF
  let S12 : (Int × (List Int) × (List crew_Refusal) × (List (Option (List (Int × Bool))))) → Act → World → Prop := (fun (zz : Int × (List Int) × (List crew_Refusal) × (List (Option (List (Int × Bool))))) a w => ∃ (p_3 : Option Addr) (c_2 : Nat) (p_4 : Option Addr) (c_3 : Nat) (p_5 : Option Addr) (tcq_1 : TabH),Has 51 a [(6,pq b_5),(7,pq b_6),(8,pq b_7),(41,i6 ((w_.Roster.People.length : Nat) : Int)),(42,i6 zz.1)] ∧ Ctx G (.row p_4 c_3 (zz.2.2.1.map enc_crew_Refusal) 146 2::.box b_7 [.func (.func 88) #[] #[pq b_1,pq b_6,pq b_5,pq b_3,pq b_7]] 68::.box b_6 [.slice p_4 zz.2.2.1.length c_3] 114::.box b_5 [.slice p_3 zz.2.1.length c_2] 35::.row p_3 c_2 (zz.2.1.map encI_i64) 3 1::.box b_3 [.slice p_5 zz.2.2.2.length tcq_1.1] 138::.row p_5 tcq_1.1 ((tabR tcq_1.2 zz.2.2.2).map (Kd.v kd_139)) 139 1::tabI kd_139 (tabR tcq_1.2 zz.2.2.2)::.box b_1 [pq b_] 111::Lf) w)
  have hr12 : ∀ (zz : Int × (List Int) × (List crew_Refusal) × (List (Option (List (Int × Bool))))) a w,x12 = .go zz → S12 zz a w → K10 a w := by
   rintro ⟨x_2,x_3,x_4,x_5⟩ a w rfl ⟨p_3,c_2,p_4,c_3,p_5,tcq_1,hf,hc⟩
   replace hF := exK_go hF
   refine h10 _ _ ?_
   refine wp_seq_k fun K13 h13 => cQ hc follows_mx (by kernel_rfl) ?_
   refine qE hf rfl rfl rfl (eLd1 sc_35 rfl (cell_box m3 rfl)) fun a hf => qE hf rfl rfl rfl (eLd1 sc_114 rfl (cell_box m2 rfl)) fun a hf => qE hf rfl rfl rfl (Pu.ev (pA rfl)) fun a hf => qE hf rfl rfl rfl (Pu.ev (pA rfl)) fun a hf => ?_
   intro w hc
   replace hc := ((((((hc.drop k8).drop k7).drop k6).drop k5).drop k3).drop k2).drop k1
   refine h13 _ _ ?_
   refine wp_ret ?_
   obtain rfl := sj hF
   replace hc := (hc.pick k0).pick k1
   exact zO2 Tryz.results68 hf rfl rfl ⟨p_3,c_2,p_4,c_3,rfl,hc⟩
  have ho12 : ∀ r,x12 = .out r → r = res := by
   rintro r rfl
   exact sj hF
  replace hc := hc.nilRow 146 2
  refine cLoop N (loopW (S := S12) (x := x12) ?_ N (0,r,([] : List crew_Refusal),x_1) _ _ ⟨p_2,c_1,none,0,p_1,tcq,hf.kp rfl,hc⟩ hx12)
  clear hF hf hc
  rintro ⟨x_2,x_3,x_4,x_5⟩ st12 a w KB12 ⟨p_3,c_2,p_4,c_3,p_5,tcq_1,hf,hc⟩ hF hfin12 hK12
  unfold crew_work_settle_b12 at hF
  refine zS fun K h => sp 1 hf rfl fun a hf => zT h ?_
  refine wp_seq_k fun K15 h15 => zI hf rfl hF ?_ ?_ <;> clear hF <;> intro hF
  ·refine wp_skip ?_
   refine h15 _ _ ?_
   refine wp_seq_k fun K16 h16 => wp_block ?_
   refine zS fun K h => sp 2 hf rfl fun a hf => zT h ?_
   refine cReg ?_
   refine zL hf hc sc_68 m1 rfl fun a w hf hc => sp 1 hf rfl fun a hf => ?_
   obtain ⟨r_1,hr_1,hF⟩ := bnd_some hF
   refine zC hf en_88 rfl (crew_work_settle_1_ok x_2 w_ x_4 x_3 x_5 h_w__Roster_People h_w__Roster_Stations h_w__pc (((((((((hc.pick k1).pick k7).pick k7).pick k7).pick k7).pick k7).pick k6).pick k7).pick k8) hr_1) ?_
   rintro _ w ⟨p_6,c_4,p_7,c_5,p_8,tcq_2,rfl,hc⟩
   refine ⟨_,rfl,fun a hf => ?_⟩
   refine cNil ?_
   refine h16 _ _ ?_
   refine cReg ?_
   refine sp 2 hf rfl fun a hf => cNil ?_
   replace hc := ((((((((hc.pick k4).pick k4).pick k4).pick k7).pick k5).pick k7).pick k7).pick k8).pick k8
   exact hK12 (W (x_2 + 1),r_1.2.1,r_1.1,r_1.2.2) _ _ (sj hF).symm ⟨p_7,c_5,p_6,c_4,p_8,tcq_2,hf.kp rfl,hc⟩
  ·refine wp_exit ?_
   refine xThen ?_
   refine xThen ?_
   have he := sj hF
   rw [← he] at hfin12
   refine cHit ?_
   exact hr12 _ _ _ hfin12 ⟨p_3,c_2,p_4,c_3,p_5,tcq_1,hf.kp rfl,hc⟩
 have ho5 : ∀ r,x5 = .out r → r = res := by
  rintro r rfl
  exact sj hF
 refine cLoop N (loopW (S := S5) (x := x5) ?_ N (0,(List.replicate ((w_.Roster.Stations.length : Nat) : Int).toNat (none : Option (List (Int × Bool))))) _ _ ⟨(some ⟨b_2,0,none⟩),(((w_.Roster.Stations.length : Nat) : Int).toNat,hsq),hf.kp rfl,hc⟩ hx5)
 clear hF hf hc
 rintro ⟨x,x_1⟩ st5 a w KB5 ⟨p_1,tcq,hf,hc⟩ hF hfin5 hK5
 unfold crew_work_settle_b5 at hF
 refine zS fun K h => sp 1 hf rfl fun a hf => zT h ?_
 refine wp_seq_k fun K19 h19 => zI hf rfl hF ?_ ?_ <;> clear hF <;> intro hF
 ·refine wp_skip ?_
  refine h19 _ _ ?_
  refine wp_seq_k fun K20 h20 => wp_block ?_
  refine zS fun K h => sp 2 hf rfl fun a hf => zT h ?_
  refine cReg ?_
  refine zL hf hc sc_138 m0 rfl fun a w hf hc => sp 1 hf rfl fun a hf => stAM (enc := Value.bool) hf hc rfl rfl fun mb a w hf hc => ?_
  obtain ⟨e_1,he_1,hF⟩ := bnd_some hF
  obtain ⟨g,rfl,qa,qr⟩ := row_atm hc m2 (tabR_getI he_1)
  refine zP hf rfl (pIA Tryz.underlying138 sz_139 rfl rfl (At.len qa (by simp only [tabR_len,List.length_set]))) fun a hf => ?_
  replace hc := (tab_out (hc.pick k3) he_1).tail
  replace hc : Ctx G (tabI kd_139 ((tabR tcq.2 x_1).eraseIdx x.toNat)::.gm mb (ALq Value.bool ([] : List (Int × Bool)))::.box b_3 [.slice (some ⟨g,0,none⟩) x_1.length tcq.1] 138::.row (some ⟨g,0,none⟩) tcq.1 ((tabR tcq.2 x_1).map (Kd.v kd_139)) 139 1::.box b_1 [pq b_] 111::Lf) w := hc
  refine stRw (vs := [.map (some mb)]) (o' := 0) (z := ((none,mb),(some ([] : List (Int × Bool))))) (xs := (tabR tcq.2 x_1)) hf hc rfl rfl rfl rfl sz_139 rfl (fun x => (one_kd_139 x).1) (getI_lt (tabR_getI he_1)) (fun e _ => splW (one_kd_139 e).1) rfl u3 fun w hc => ?_
  replace hc := (((hc.pick k2).pick k1).pick k3).pick k3
  obtain ⟨hsq_1,hc⟩ := tab_store (K := kd_139) (h' := (none,mb)) (y := (some ([] : List (Int × Bool)))) he_1 hc
  replace hc : Ctx G (.row (some ⟨g,0,none⟩) tcq.1 ((tabR hsq_1 (x_1.set x.toNat (some ([] : List (Int × Bool))))).map (Kd.v kd_139)) 139 1::tabI kd_139 (tabR hsq_1 (x_1.set x.toNat (some ([] : List (Int × Bool)))))::.box b_3 [.slice (some ⟨g,0,none⟩) x_1.length tcq.1] 138::.box b_1 [pq b_] 111::Lf) w := hc
  refine cNil ?_
  refine h20 _ _ ?_
  refine cReg ?_
  refine sp 2 hf rfl fun a hf => cNil ?_
  replace hc : Ctx G (.row (some ⟨g,0,none⟩) tcq.1 ((tabR hsq_1 (x_1.set x.toNat (some ([] : List (Int × Bool))))).map (Kd.v kd_139)) 139 1::tabI kd_139 (tabR hsq_1 (x_1.set x.toNat (some ([] : List (Int × Bool)))))::.box b_3 [.slice (some ⟨g,0,none⟩) ((x_1.set x.toNat (some ([] : List (Int × Bool)))).length) tcq.1] 138::.box b_1 [pq b_] 111::Lf) w := by simp only [List.length_set] at hc ⊢; exact hc
  replace hc := ((hc.pick k1).pick k1).pick k2
  exact hK5 (W (x + 1),(x_1.set x.toNat (some ([] : List (Int × Bool))))) _ _ (sj hF).symm ⟨(some ⟨g,0,none⟩),(tcq.1,hsq_1),hf.kp rfl,hc⟩
 ·refine wp_exit ?_
  refine xThen ?_
  refine xThen ?_
  have he := sj hF
  rw [← he] at hfin5
  refine cHit ?_
  exact hr5 _ _ _ hfin5 ⟨p_1,tcq,hf.kp rfl,hc⟩

def crew_Assign (N : Nat) (r : crew_Roster) : Option ((List Int) × Int) :=
 Option.bind (crew_opened N r) (sumK (fun r_0 => cond (r_0 != 0)
 (some (([] : List Int),r_0))
 (none))
 (fun r_1 => cond (r_1.2 != 0)
 (some (([] : List Int),r_1.2))
 (Option.bind (crew_work_settle N (⟨r,r_1.1⟩ : crew_work)) fun r_2 =>
 some (r_2.1,0))))
theorem crew_Assign_ok {N : Nat} {G : Pers} {Lf : List Ent} {w : World} (r : crew_Roster) {r_People_p : Option Addr} {r_People_c : Nat} {r_Stations_p : Option Addr} {r_Stations_c : Nat} (h_r_People : RdT kd_35 G 1 r_People_p r_People_c r.People) (h_r_Stations : RdT kd_118 G 2 r_Stations_p r_Stations_c r.Stations) (hc : Ctx G (Lf) w) {res : (List Int) × Int} (hF : crew_Assign N r = some res) : Calls Tryz.prog 45 #[.agg #[.slice r_People_p r.People.length r_People_c,.slice r_Stations_p r.Stations.length r_Stations_c]] w (fun e w => ∃ (p'1 : Option Addr) (c'1 : Nat),e = .returned (.tuple #[.slice p'1 res.1.length c'1,i6 res.2]) ∧ Ctx G (.row p'1 c'1 (res.1.map encI_i64) 3 1::Lf) w) := by
 unfold crew_Assign at hF
 refine fnIn Tryz.func45 rfl Tryz.ntmps45 rfl fun a hf => zS fun K h => zB hf hc rfl fun b_1 a w hf hc => sp 2 hf rfl fun a hf => zT h ?_
 refine wp_seq_k fun K2 h2 => cReg ?_
 refine zN hf hc ag_95 m0 rfl fun a w hf hc => ?_
 obtain ⟨r_0,hr_0,hF⟩ := bnd_some hF
 cases r_0 with
 | inl r_0 =>
  replace hF := sumKl hF
  refine zC hf en_67 rfl (crew_opened_ok r h_r_People h_r_Stations hc hr_0) ?_
  rintro _ w ⟨rfl,hc⟩
  refine ⟨_,rfl,fun a hf => ?_⟩
  refine sp 5 hf rfl fun a hf => cNil ?_
  refine h2 _ _ ?_
  refine wp_seq_k fun K3 h3 => zS fun K h => sp 2 hf rfl fun a hf => zT h ?_
  refine zI hf rfl hF ?_ ?_ <;> clear hF <;> intro hF
  ·refine zS fun K h => sp 3 hf rfl fun a hf => zT h ?_
   refine wp_ret ?_
   refine xThenR ?_
   obtain rfl := sj hF
   replace hc := hc.nilRow 3 1
   replace hc := hc.drop k1
   exact zO2 Tryz.results45 hf rfl rfl ⟨none,0,rfl,hc⟩
  ·refine wp_skip ?_
   refine h3 _ _ ?_
   refine wp_seq_k fun K6 h6 => noneO hF
 | inr r_1 =>
  replace hF := sumKr hF
  have hr_1 := hr_0
  refine zC hf en_67 rfl (crew_opened_ok r h_r_People h_r_Stations hc hr_1) ?_
  rintro _ w ⟨b_2,rfl,hc⟩
  refine ⟨_,rfl,fun a hf => ?_⟩
  refine sp 5 hf rfl fun a hf => cNil ?_
  obtain ⟨G,hle_fz,pc_fz,hc,-⟩ := lendB hc k0
  replace pc_fz := pc_of pc_fz
  refine h2 _ _ ?_
  refine wp_seq_k fun K7 h7 => zS fun K h => sp 2 hf rfl fun a hf => zT h ?_
  refine zI hf rfl hF ?_ ?_ <;> clear hF <;> intro hF
  ·refine zS fun K h => sp 3 hf rfl fun a hf => zT h ?_
   refine wp_ret ?_
   refine xThenR ?_
   obtain rfl := sj hF
   replace hc := hc.down hle_fz
   replace hc := hc.nilRow 3 1
   replace hc := hc.drop k1
   exact zO2 Tryz.results45 hf rfl rfl ⟨none,0,rfl,hc⟩
  ·refine wp_skip ?_
   refine h7 _ _ ?_
   refine zS fun K h => sp 1 hf rfl fun a hf => ?_
   obtain ⟨r_2,hr_2,hF⟩ := bnd_some hF
   refine zC hf en_68 rfl (crew_work_settle_ok (⟨r,r_1.1⟩ : crew_work) (h_r_People.mono hle_fz) (h_r_Stations.mono hle_fz) pc_fz hc hr_2) ?_
   rintro _ w ⟨p_1,c_1,p_2,c_2,rfl,hc⟩
   refine ⟨_,rfl,fun a hf => ?_⟩
   refine sp 5 hf rfl fun a hf => zT h ?_
   refine zS fun K h => sp 3 hf rfl fun a hf => zT h ?_
   refine wp_ret ?_
   obtain rfl := sj hF
   replace hc := hc.down hle_fz
   replace hc := (hc.drop k2).drop k1
   exact zO2 Tryz.results45 hf rfl rfl ⟨p_1,c_1,rfl,hc⟩

def share_in (n : Int) (least : Int) (greatest : Int) : Bool :=
 ((decide (least ≤ n)) && (decide (n ≤ greatest)))
theorem share_in_ok {G : Pers} {Lf : List Ent} {w : World} (n : Int) (least : Int) (greatest : Int)   (hc : Ctx G (Lf) w) {res : Bool} (hF : share_in n least greatest = res) : Calls Tryz.prog 70 #[i6 n,i6 least,i6 greatest] w (fun e w => e = .returned (.bool res) ∧ Ctx G (Lf) w) := by
 unfold share_in at hF
 refine fnIn Tryz.func70 rfl Tryz.ntmps70 rfl fun a hf => zS fun K h => sp 1 hf rfl fun a hf => zT h ?_
 refine zS fun K h => sp 4 hf rfl fun a hf => stCc 4 (fun a => Has 15 a [(0,i6 n),(1,i6 least),(2,i6 greatest),(6,.bool false),(7,i6 n),(8,i6 least),(9,.bool (decide (least ≤ n))),(10,.bool (decide (least ≤ n))),(14,.bool ((decide (least ≤ n)) && (decide (n ≤ greatest))))]) hc ?_ ?_
 ·cases hb : (decide (least ≤ n))
  ·rw [hb] at hf
   refine stS hf rfl rfl rfl fun a hf => stS hf rfl rfl rfl fun a hf => stS hf rfl rfl rfl fun a hf => sp 1 hf rfl fun a hf => cNil ⟨hf.kp rfl,hc⟩
  ·rw [hb] at hf
   refine sp 4 hf rfl fun a hf => cNil ⟨hf.kp rfl,hc⟩
 intro a w ⟨hf,hc⟩
 refine sp 1 hf rfl fun a hf => zT h ?_
 refine wp_ret ?_
 obtain rfl := hF
 exact zO1 Tryz.results70 hf rfl ⟨rfl,hc⟩

def share_claimed_1 (n : Int) : Bool :=
 (share_in n 1 1000000)
theorem share_claimed_1_ok {G : Pers} {Lf : List Ent} {w : World} (n : Int)   (hc : Ctx G (Lf) w) {res : Bool} (hF : share_claimed_1 n = res) : Calls Tryz.prog 93 #[i6 n] w (fun e w => e = .returned (.bool res) ∧ Ctx G (Lf) w) := by
 unfold share_claimed_1 at hF
 refine fnIn Tryz.func93 rfl Tryz.ntmps93 rfl fun a hf => zS fun K h => sp 1 hf rfl fun a hf => zT h ?_
 refine zS fun K h => sp 1 hf rfl fun a hf => zQ (v := .bool (share_in n 1 1000000)) hf hc en_70 rfl (fun w hc => share_in_ok n 1 1000000 hc rfl) fun a w hf hc => sp 1 hf rfl fun a hf => zT h ?_
 refine wp_ret ?_
 obtain rfl := hF
 exact zO1 Tryz.results93 hf rfl ⟨rfl,hc⟩

def share_every_int_1 (x : Int) : Bool :=
 (!(share_claimed_1 x))
theorem share_every_int_1_ok {G : Pers} {Lf : List Ent} {w : World} (x : Int) {b_ : Nat}  (hc : Ctx G (.box b_ [.func (.func 93) #[] #[]] 72::Lf) w) {res : Bool} (hF : share_every_int_1 x = res) : Calls Tryz.prog 125 #[i6 x,pq b_] w (fun e w => e = .returned (.bool res) ∧ Ctx G (.box b_ [.func (.func 93) #[] #[]] 72::Lf) w) := by
 unfold share_every_int_1 at hF
 refine fnIn Tryz.func125 rfl Tryz.ntmps125 rfl fun a hf => zS fun K h => sp 1 hf rfl fun a hf => zT h ?_
 refine zS fun K h => zL hf hc sc_72 m0 rfl fun a w hf hc => sp 1 hf rfl fun a hf => zQ (v := .bool (share_claimed_1 x)) hf hc en_93 rfl (fun w hc => share_claimed_1_ok x hc rfl) fun a w hf hc => sp 2 hf rfl fun a hf => zT h ?_
 refine wp_ret ?_
 obtain rfl := hF
 exact zO1 Tryz.results125 hf rfl ⟨rfl,hc⟩

def slices_IndexFunc_Lint_int_s10_b4 (N : Nat) (s_ : List Int) (x : Int) : Option (Step (Int) (Int)) :=
 cond (decide (x < ((s_.length : Nat) : Int)))
 (Option.bind (getI s_ x) fun e_1 =>
 cond (share_every_int_1 e_1)
 (some (.ret x))
 (some (.cont (W (x + 1)))))
 (some (.brk x))
def slices_IndexFunc_Lint_int_s10 (N : Nat) (s_ : List Int) : Option (Int) :=
 Option.bind (loopO (fun s4 => slices_IndexFunc_Lint_int_s10_b4 N s_ s4) N 0) fun x4 =>
 exK x4 (fun s4 => some (-1)) some
theorem slices_IndexFunc_Lint_int_s10_ok {N : Nat} {G : Pers} {Lf : List Ent} {w : World} (s_ : List Int) {s__p : Option Addr} {s__c : Nat} {b_ : Nat} (h_s_ : Rd G 1 s__p s__c (s_.map encI_i64)) (hc : Ctx G (.box b_ [.func (.func 93) #[] #[]] 72::Lf) w) {res : Int} (hF : slices_IndexFunc_Lint_int_s10 N s_ = some res) : Calls Tryz.prog 38 #[.slice s__p s_.length s__c,.func (.func 125) #[] #[pq b_]] w (fun e w => e = .returned (i6 res) ∧ Ctx G (.box b_ [.func (.func 93) #[] #[]] 72::Lf) w) := by
 unfold slices_IndexFunc_Lint_int_s10 at hF
 refine fnIn Tryz.func38 rfl Tryz.ntmps38 rfl fun a hf => zS fun K h => sp 1 hf rfl fun a hf => zT h ?_
 refine wp_seq_k fun K2 h2 => zS fun K h => sp 1 hf rfl fun a hf => zP hf rfl (pLenS Tryz.underlying35 rfl) fun a hf => sp 1 hf rfl fun a hf => zT h ?_
 refine wp_block ?_
 obtain ⟨x4,hx4,hF⟩ := bnd_some hF
 let S4 : Int → Act → World → Prop := (fun (zz : Int) a w => Has 19 a [(0,.slice s__p s_.length s__c),(1,.func (.func 125) #[] #[pq b_]),(7,i6 ((s_.length : Nat) : Int)),(8,i6 zz)] ∧ Ctx G (.box b_ [.func (.func 93) #[] #[]] 72::Lf) w)
 have hr4 : ∀ (zz : Int) a w,x4 = .go zz → S4 zz a w → K2 a w := by
  rintro x a w rfl ⟨hf,hc⟩
  replace hF := exK_go hF
  refine h2 _ _ ?_
  refine zS fun K h => sp 1 hf rfl fun a hf => zT h ?_
  refine wp_ret ?_
  obtain rfl := sj hF
  exact zO1 Tryz.results38 hf rfl ⟨rfl,hc⟩
 have ho4 : ∀ r,x4 = .out r → r = res := by
  rintro r rfl
  exact sj hF
 refine cLoop N (loopW (S := S4) (x := x4) ?_ N 0 _ _ ⟨hf.kp rfl,hc⟩ hx4)
 clear hF hf hc
 rintro x st4 a w KB4 ⟨hf,hc⟩ hF hfin4 hK4
 unfold slices_IndexFunc_Lint_int_s10_b4 at hF
 refine zS fun K h => sp 1 hf rfl fun a hf => zT h ?_
 refine wp_seq_k fun K7 h7 => zI hf rfl hF ?_ ?_ <;> clear hF <;> intro hF
 ·refine wp_skip ?_
  refine h7 _ _ ?_
  refine wp_seq_k fun K8 h8 => wp_block ?_
  refine zS fun K h => sp 2 hf rfl fun a hf => zT h ?_
  refine zS fun K h => sp 3 hf rfl fun a hf => ?_
  obtain ⟨e_1,he_1,hF⟩ := bnd_some hF
  obtain ⟨b_1,o,qa,qp⟩ := h_s_.atm he_1
  refine zP hf rfl (pIA Tryz.underlying35 sz_3 rfl rfl qa) fun a hf => zE hf hc rfl (eLd1 sc_3 rfl (cell_pc (j := 0) qp rfl)) fun a w hf hc => zQ (v := .bool (share_every_int_1 e_1)) hf hc en_125 rfl (fun w hc => (share_every_int_1_ok e_1 (hc.pick k0) rfl).mono fun e w h => ⟨h.1,(h.2.unpick k0)⟩) fun a w hf hc => zT h ?_
  refine zI hf rfl hF ?_ ?_ <;> clear hF <;> intro hF
  ·refine zS fun K h => sp 2 hf rfl fun a hf => zT h ?_
   refine wp_ret ?_
   refine xBlkR ?_
   refine xThenR ?_
   refine xThenR ?_
   have he := sj hF
   rw [← he] at hfin4
   replace hF := ho4 _ hfin4
   refine xBlkR ?_
   refine xThenR ?_
   obtain rfl := hF
   exact zO1 Tryz.results38 hf rfl ⟨rfl,hc⟩
  ·refine wp_skip ?_
   refine h8 _ _ ?_
   refine cReg ?_
   refine sp 2 hf rfl fun a hf => cNil ?_
   exact hK4 (W (x + 1)) _ _ (sj hF).symm ⟨hf.kp rfl,hc⟩
 ·refine wp_exit ?_
  refine xThen ?_
  refine xThen ?_
  have he := sj hF
  rw [← he] at hfin4
  refine cHit ?_
  exact hr4 _ _ _ hfin4 ⟨hf.kp rfl,hc⟩

def slices_ContainsFunc_Lint_int_s8 (N : Nat) (s_ : List Int) : Option (Bool) :=
 Option.bind (slices_IndexFunc_Lint_int_s10 N s_) fun r =>
 some (decide (0 ≤ r))
theorem slices_ContainsFunc_Lint_int_s8_ok {N : Nat} {G : Pers} {Lf : List Ent} {w : World} (s_ : List Int) {s__p : Option Addr} {s__c : Nat} {b_ : Nat} (h_s_ : Rd G 1 s__p s__c (s_.map encI_i64)) (hc : Ctx G (.box b_ [.func (.func 93) #[] #[]] 72::Lf) w) {res : Bool} (hF : slices_ContainsFunc_Lint_int_s8 N s_ = some res) : Calls Tryz.prog 54 #[.slice s__p s_.length s__c,.func (.func 125) #[] #[pq b_]] w (fun e w => e = .returned (.bool res) ∧ Ctx G (.box b_ [.func (.func 93) #[] #[]] 72::Lf) w) := by
 unfold slices_ContainsFunc_Lint_int_s8 at hF
 refine fnIn Tryz.func54 rfl Tryz.ntmps54 rfl fun a hf => zS fun K h => sp 1 hf rfl fun a hf => zT h ?_
 refine zS fun K h => sp 2 hf rfl fun a hf => ?_
 obtain ⟨r,hr,hF⟩ := bnd_some hF
 refine zQ (v := i6 r) hf hc en_38 rfl (fun w hc => (slices_IndexFunc_Lint_int_s10_ok s_ h_s_ (hc.pick k0) hr).mono fun e w h => ⟨h.1,(h.2.unpick k0)⟩) fun a w hf hc => sp 2 hf rfl fun a hf => zT h ?_
 refine wp_ret ?_
 obtain rfl := sj hF
 exact zO1 Tryz.results54 hf rfl ⟨rfl,hc⟩

def share_every_int (N : Nat) (l : List Int) : Option (Bool) :=
 Option.bind (slices_ContainsFunc_Lint_int_s8 N l) fun r =>
 some (!r)
theorem share_every_int_ok {N : Nat} {G : Pers} {Lf : List Ent} {w : World} (l : List Int) {l_p : Option Addr} {l_c : Nat} (h_l : Rd G 1 l_p l_c (l.map encI_i64)) (hc : Ctx G (Lf) w) {res : Bool} (hF : share_every_int N l = some res) : Calls Tryz.prog 92 #[.slice l_p l.length l_c,.func (.func 93) #[] #[]] w (fun e w => e = .returned (.bool res) ∧ Ctx G (Lf) w) := by
 unfold share_every_int at hF
 refine fnIn Tryz.func92 rfl Tryz.ntmps92 rfl fun a hf => zS fun K h => zB hf hc rfl fun b_1 a w hf hc => sp 1 hf rfl fun a hf => zT h ?_
 refine zS fun K h => sp 1 hf rfl fun a hf => zP hf rfl (pMF (us := [pq b_1]) rfl rfl) fun a hf => ?_
 obtain ⟨r,hr,hF⟩ := bnd_some hF
 refine zQ (v := .bool r) hf hc en_54 rfl (fun w hc => (slices_ContainsFunc_Lint_int_s8_ok l h_l (hc.pick k0) hr).mono fun e w h => ⟨h.1,(h.2.unpick k0)⟩) fun a w hf hc => sp 2 hf rfl fun a hf => zT h ?_
 refine wp_ret ?_
 obtain rfl := sj hF
 replace hc := hc.drop k0
 exact zO1 Tryz.results92 hf rfl ⟨rfl,hc⟩

def share_claimed (N : Nat) (claims : List Int) : Option (Int) :=
 cond (!(share_in ((claims.length : Nat) : Int) 1 12))
 (some 3)
 (Option.bind (share_every_int N claims) fun r =>
 cond (!r)
 (some 4)
 (some 0))
theorem share_claimed_ok {N : Nat} {G : Pers} {Lf : List Ent} {w : World} (claims : List Int) {claims_p : Option Addr} {claims_c : Nat} (h_claims : Rd G 1 claims_p claims_c (claims.map encI_i64)) (hc : Ctx G (Lf) w) {res : Int} (hF : share_claimed N claims = some res) : Calls Tryz.prog 69 #[.slice claims_p claims.length claims_c] w (fun e w => e = .returned (i6 res) ∧ Ctx G (Lf) w) := by
 unfold share_claimed at hF
 refine fnIn Tryz.func69 rfl Tryz.ntmps69 rfl fun a hf => zS fun K h => sp 1 hf rfl fun a hf => zT h ?_
 refine wp_seq_k fun K2 h2 => wp_block ?_
 refine zS fun K h => sp 1 hf rfl fun a hf => zP hf rfl (pLenS Tryz.underlying35 rfl) fun a hf => zQ (v := .bool (share_in ((claims.length : Nat) : Int) 1 12)) hf hc en_70 rfl (fun w hc => share_in_ok ((claims.length : Nat) : Int) 1 12 hc rfl) fun a w hf hc => sp 2 hf rfl fun a hf => zT h ?_
 refine zI hf rfl hF ?_ ?_ <;> clear hF <;> intro hF
 ·refine zS fun K h => sp 1 hf rfl fun a hf => zT h ?_
  refine wp_ret ?_
  refine xBlkR ?_
  refine xThenR ?_
  obtain rfl := sj hF
  exact zO1 Tryz.results69 hf rfl ⟨rfl,hc⟩
 ·refine zS fun K h => sp 1 hf rfl fun a hf => ?_
  obtain ⟨r,hr,hF⟩ := bnd_some hF
  refine zQ (v := .bool r) hf hc en_92 rfl (fun w hc => share_every_int_ok claims h_claims hc hr) fun a w hf hc => sp 2 hf rfl fun a hf => zT h ?_
  refine zI hf rfl hF ?_ ?_ <;> clear hF <;> intro hF
  ·refine zS fun K h => sp 1 hf rfl fun a hf => zT h ?_
   refine wp_ret ?_
   refine xBlkR ?_
   refine xThenR ?_
   obtain rfl := sj hF
   exact zO1 Tryz.results69 hf rfl ⟨rfl,hc⟩
  ·refine wp_skip ?_
   refine h2 _ _ ?_
   refine zS fun K h => sp 1 hf rfl fun a hf => zT h ?_
   refine wp_ret ?_
   obtain rfl := sj hF
   exact zO1 Tryz.results69 hf rfl ⟨rfl,hc⟩

def share_Rule_right (r : Int) : Bool :=
 ((decide (0 ≤ r)) && (decide (r ≤ 2)))
theorem share_Rule_right_ok {G : Pers} {Lf : List Ent} {w : World} (r : Int)   (hc : Ctx G (Lf) w) {res : Bool} (hF : share_Rule_right r = res) : Calls Tryz.prog 71 #[i6 r] w (fun e w => e = .returned (.bool res) ∧ Ctx G (Lf) w) := by
 unfold share_Rule_right at hF
 refine fnIn Tryz.func71 rfl Tryz.ntmps71 rfl fun a hf => zS fun K h => sp 1 hf rfl fun a hf => zT h ?_
 refine zS fun K h => sp 3 hf rfl fun a hf => stCc 3 (fun a => Has 9 a [(0,i6 r),(2,.bool false),(3,i6 r),(4,.bool (decide (0 ≤ r))),(5,.bool (decide (0 ≤ r))),(8,.bool ((decide (0 ≤ r)) && (decide (r ≤ 2))))]) hc ?_ ?_
 ·cases hb : (decide (0 ≤ r))
  ·rw [hb] at hf
   refine stS hf rfl rfl rfl fun a hf => stS hf rfl rfl rfl fun a hf => sp 1 hf rfl fun a hf => cNil ⟨hf.kp rfl,hc⟩
  ·rw [hb] at hf
   refine sp 3 hf rfl fun a hf => cNil ⟨hf.kp rfl,hc⟩
 intro a w ⟨hf,hc⟩
 refine sp 1 hf rfl fun a hf => zT h ?_
 refine wp_ret ?_
 obtain rfl := hF
 exact zO1 Tryz.results71 hf rfl ⟨rfl,hc⟩

def share_Rule_day (N : Nat) (r : Int) (claim : Int) (n : Int) : Option (share_quotient) :=
 cond (r == 0)
 (some (⟨W (2 * claim),W (2 * n)⟩ : share_quotient))
 (cond (r == 1)
 (some (⟨W (2 * claim),W ((W (2 * n)) - 1)⟩ : share_quotient))
 (some (⟨W (2 * claim),W ((W (2 * n)) - 2)⟩ : share_quotient)))
theorem share_Rule_day_ok {N : Nat} {G : Pers} {Lf : List Ent} {w : World} (r : Int) (claim : Int) (n : Int)   (hc : Ctx G (Lf) w) {res : share_quotient} (hF : share_Rule_day N r claim n = some res) : Calls Tryz.prog 72 #[i6 r,i6 claim,i6 n] w (fun e w => e = .returned (.agg #[i6 res.claim,i6 res.by_]) ∧ Ctx G (Lf) w) := by
 unfold share_Rule_day at hF
 refine fnIn Tryz.func72 rfl Tryz.ntmps72 rfl fun a hf => zS fun K h => zA hf hc zr_121 rfl fun b_1 a w hf hc => zT h ?_
 refine wp_seq_k fun K2 h2 => zS fun K h => sp 1 hf rfl fun a hf => zT h ?_
 refine wp_block ?_
 refine zS fun K h => sp 2 hf rfl fun a hf => zT h ?_
 refine zI hf rfl hF ?_ ?_ <;> clear hF <;> intro hF
 ·refine zS fun K h => sp 4 hf rfl fun a hf => zP hf rfl (pBuildS (cells := [i6 (W (2 * claim)),i6 (W (2 * n))]) bt_121 rfl rfl) fun a hf => zW hf hc sz_121 u0 rfl fun w hc => zT h ?_
  refine wp_ret ?_
  refine xBlkR ?_
  refine xThenR ?_
  obtain rfl := sj hF
  exact fnOut1 (by simp) rfl Tryz.results72 hf hc (rv_cellN (vs := [i6 (W (2 * claim)),i6 (W (2 * n))]) ag_121 rfl rfl (cells_box (n := 2) m0 rfl)) ⟨rfl,(hc.drop k0)⟩
 ·refine zS fun K h => sp 2 hf rfl fun a hf => zT h ?_
  refine zI hf rfl hF ?_ ?_ <;> clear hF <;> intro hF
  ·refine zS fun K h => sp 5 hf rfl fun a hf => zP hf rfl (pBuildS (cells := [i6 (W (2 * claim)),i6 (W ((W (2 * n)) - 1))]) bt_121 rfl rfl) fun a hf => zW hf hc sz_121 u0 rfl fun w hc => zT h ?_
   refine wp_ret ?_
   refine xBlkR ?_
   refine xThenR ?_
   obtain rfl := sj hF
   exact fnOut1 (by simp) rfl Tryz.results72 hf hc (rv_cellN (vs := [i6 (W (2 * claim)),i6 (W ((W (2 * n)) - 1))]) ag_121 rfl rfl (cells_box (n := 2) m0 rfl)) ⟨rfl,(hc.drop k0)⟩
  ·refine wp_skip ?_
   refine h2 _ _ ?_
   refine zS fun K h => sp 5 hf rfl fun a hf => zP hf rfl (pBuildS (cells := [i6 (W (2 * claim)),i6 (W ((W (2 * n)) - 2))]) bt_121 rfl rfl) fun a hf => zW hf hc sz_121 u0 rfl fun w hc => zT h ?_
   refine wp_ret ?_
   obtain rfl := sj hF
   exact fnOut1 (by simp) rfl Tryz.results72 hf hc (rv_cellN (vs := [i6 (W (2 * claim)),i6 (W ((W (2 * n)) - 2))]) ag_121 rfl rfl (cells_box (n := 2) m0 rfl)) ⟨rfl,(hc.drop k0)⟩

def share_quotient_more (q : share_quotient) (r : share_quotient) : Bool :=
 (decide ((W (r.claim * q.by_)) < (W (q.claim * r.by_))))
theorem share_quotient_more_ok {G : Pers} {Lf : List Ent} {w : World} (q : share_quotient) (r : share_quotient)   (hc : Ctx G (Lf) w) {res : Bool} (hF : share_quotient_more q r = res) : Calls Tryz.prog 73 #[.agg #[i6 q.claim,i6 q.by_],.agg #[i6 r.claim,i6 r.by_]] w (fun e w => e = .returned (.bool res) ∧ Ctx G (Lf) w) := by
 unfold share_quotient_more at hF
 refine fnIn Tryz.func73 rfl Tryz.ntmps73 rfl fun a hf => zS fun K h => zB hf hc rfl fun b_1 a w hf hc => zB hf hc rfl fun b_2 a w hf hc => sp 1 hf rfl fun a hf => zT h ?_
 refine zS fun K h => zP hf rfl (pFA fa_121_0 rfl) fun a hf => zL hf hc sc_3 m1 rfl fun a w hf hc => zP hf rfl (pFA fa_121_1 rfl) fun a hf => zL hf hc sc_3 m0 rfl fun a w hf hc => sp 1 hf rfl fun a hf => zP hf rfl (pFA fa_121_0 rfl) fun a hf => zL hf hc sc_3 m0 rfl fun a w hf hc => zP hf rfl (pFA fa_121_1 rfl) fun a hf => zL hf hc sc_3 m1 rfl fun a w hf hc => sp 3 hf rfl fun a hf => zT h ?_
 refine wp_ret ?_
 obtain rfl := hF
 replace hc := (hc.drop k1).drop k0
 exact zO1 Tryz.results73 hf rfl ⟨rfl,hc⟩

def share_Turns_j26 (N : Nat) (x_1 : Int) (who_1 : Int) (x_4 : Int) (x_5 : Int) : Option (Step (Int × Int × Int × Int) (Step ((List Int) × Int) ((List Int) × Int))) :=
 some (.cont (who_1,W (x_1 + 1),x_4,x_5))
def share_Turns_b23 (N : Nat) (claims : List Int) (rule : Int) (out : List Int) (who : Int) (x_1 : Int) (x_2 : Int) (x_3 : Int) : Option (Step (Int × Int × Int × Int) (Step ((List Int) × Int) ((List Int) × Int))) :=
 cond (decide (x_1 < ((claims.length : Nat) : Int)))
 (Option.bind (getI claims x_1) fun e_5 =>
 Option.bind (getI out x_1) fun e_6 =>
 Option.bind (share_Rule_day N rule e_5 (W (e_6 + 1))) fun r_2 =>
 cond ((!(r_2.claim == x_2 && r_2.by_ == x_3)) && (share_quotient_more r_2 (⟨x_2,x_3⟩ : share_quotient)))
 (share_Turns_j26 N x_1 x_1 r_2.claim r_2.by_)
 (share_Turns_j26 N x_1 who x_2 x_3))
 (some (.brk (who,x_1,x_2,x_3)))
def share_Turns_b15 (N : Nat) (claims : List Int) (days : Int) (rule : Int) (out : List Int) (x : Int) : Option (Step ((List Int) × Int) ((List Int) × Int)) :=
 cond (decide (x < days))
 (Option.bind (getI claims 0) fun e_1 =>
 Option.bind (getI out 0) fun e_2 =>
 Option.bind (share_Rule_day N rule e_1 (W (e_2 + 1))) fun r_1 =>
 Option.bind (loopO (fun s23 => share_Turns_b23 N claims rule out s23.1 s23.2.1 s23.2.2.1 s23.2.2.2) N (0,0,r_1.claim,r_1.by_)) fun x23 =>
 exK x23 (fun s23 => Option.bind (getI out s23.1) fun e_3 =>
 Option.bind (getI out s23.1) fun e_4 =>
 some (.cont ((out.set s23.1.toNat (W (e_3 + 1))),W (x + 1)))) some)
 (some (.brk (out,x)))
def share_Turns (N : Nat) (claims : List Int) (days : Int) (rule : Int) : Option ((List Int) × Int) :=
 Option.bind (share_claimed N claims) fun r =>
 cond (r != 0)
 (some (([] : List Int),r))
 (cond (!(share_in days 1 366))
 (some (([] : List Int),4))
 (cond (!(share_Rule_right rule))
 (some (([] : List Int),2))
 (cond ((rule == 2) && (decide (days < ((claims.length : Nat) : Int))))
 (some (([] : List Int),6))
 (Option.bind (inM ((claims.length : Nat) : Int)) fun un =>
 Option.bind (loopO (fun s15 => share_Turns_b15 N claims days rule s15.1 s15.2) N ((List.replicate ((claims.length : Nat) : Int).toNat (0 : Int)),0)) fun x15 =>
 exK x15 (fun s15 => some (s15.1,0)) some))))
theorem share_Turns_ok {N : Nat} {G : Pers} {Lf : List Ent} {w : World} (claims : List Int) (days : Int) (rule : Int) {claims_p : Option Addr} {claims_c : Nat} (h_claims : Rd G 1 claims_p claims_c (claims.map encI_i64)) (hc : Ctx G (Lf) w) {res : (List Int) × Int} (hF : share_Turns N claims days rule = some res) : Calls Tryz.prog 47 #[.slice claims_p claims.length claims_c,i6 days,i6 rule] w (fun e w => ∃ (p'1 : Option Addr) (c'1 : Nat),e = .returned (.tuple #[.slice p'1 res.1.length c'1,i6 res.2]) ∧ Ctx G (.row p'1 c'1 (res.1.map encI_i64) 3 1::Lf) w) := by
 unfold share_Turns at hF
 refine fnIn Tryz.func47 rfl Tryz.ntmps47 rfl fun a hf => zS fun K h => sp 2 hf rfl fun a hf => zT h ?_
 refine zS fun K h => sp 1 hf rfl fun a hf => ?_
 obtain ⟨r,hr,hF⟩ := bnd_some hF
 refine zQ (v := i6 r) hf hc en_69 rfl (fun w hc => share_claimed_ok claims h_claims hc hr) fun a w hf hc => sp 1 hf rfl fun a hf => zT h ?_
 refine wp_seq_k fun K3 h3 => wp_block ?_
 refine zS fun K h => sp 3 hf rfl fun a hf => zT h ?_
 refine zI hf rfl hF ?_ ?_ <;> clear hF <;> intro hF
 ·refine zS fun K h => sp 3 hf rfl fun a hf => zT h ?_
  refine wp_ret ?_
  refine xBlkR ?_
  refine xThenR ?_
  obtain rfl := sj hF
  replace hc := hc.nilRow 3 1
  exact zO2 Tryz.results47 hf rfl rfl ⟨none,0,rfl,hc⟩
 ·refine zS fun K h => sp 1 hf rfl fun a hf => zQ (v := .bool (share_in days 1 366)) hf hc en_70 rfl (fun w hc => share_in_ok days 1 366 hc rfl) fun a w hf hc => sp 2 hf rfl fun a hf => zT h ?_
  refine zI hf rfl hF ?_ ?_ <;> clear hF <;> intro hF
  ·refine zS fun K h => sp 2 hf rfl fun a hf => zT h ?_
   refine wp_ret ?_
   refine xBlkR ?_
   refine xThenR ?_
   obtain rfl := sj hF
   replace hc := hc.nilRow 3 1
   exact zO2 Tryz.results47 hf rfl rfl ⟨none,0,rfl,hc⟩
  ·refine zS fun K h => sp 1 hf rfl fun a hf => zQ (v := .bool (share_Rule_right rule)) hf hc en_71 rfl (fun w hc => share_Rule_right_ok rule hc rfl) fun a w hf hc => sp 2 hf rfl fun a hf => zT h ?_
   refine zI hf rfl hF ?_ ?_ <;> clear hF <;> intro hF
   ·refine zS fun K h => sp 2 hf rfl fun a hf => zT h ?_
    refine wp_ret ?_
    refine xBlkR ?_
    refine xThenR ?_
    obtain rfl := sj hF
    replace hc := hc.nilRow 3 1
    exact zO2 Tryz.results47 hf rfl rfl ⟨none,0,rfl,hc⟩
   ·refine zS fun K h => sp 3 hf rfl fun a hf => stCc 5 (fun a => Has 87 a [(0,.slice claims_p claims.length claims_c),(1,i6 days),(2,i6 rule),(30,i6 rule),(31,.bool (rule == 2)),(32,.bool (rule == 2)),(37,.bool ((rule == 2) && (decide (days < ((claims.length : Nat) : Int)))))]) hc ?_ ?_
    ·cases hb : (rule == 2)
     ·rw [hb] at hf
      refine stS hf rfl rfl rfl fun a hf => stS hf rfl rfl rfl fun a hf => stS hf rfl rfl rfl fun a hf => stS hf rfl rfl rfl fun a hf => sp 1 hf rfl fun a hf => cNil ⟨hf.kp rfl,hc⟩
     ·rw [hb] at hf
      refine sp 2 hf rfl fun a hf => zP hf rfl (pLenS Tryz.underlying35 rfl) fun a hf => sp 2 hf rfl fun a hf => cNil ⟨hf.kp rfl,hc⟩
    intro a w ⟨hf,hc⟩
    refine sp 1 hf rfl fun a hf => zT h ?_
    refine zI hf rfl hF ?_ ?_ <;> clear hF <;> intro hF
    ·refine zS fun K h => sp 2 hf rfl fun a hf => zT h ?_
     refine wp_ret ?_
     refine xBlkR ?_
     refine xThenR ?_
     obtain rfl := sj hF
     replace hc := hc.nilRow 3 1
     exact zO2 Tryz.results47 hf rfl rfl ⟨none,0,rfl,hc⟩
    ·refine wp_skip ?_
     refine h3 _ _ ?_
     refine zS fun K h => sp 1 hf rfl fun a hf => zP hf rfl (pLenS Tryz.underlying35 rfl) fun a hf => ?_
     obtain ⟨un,hun,hF⟩ := bnd_some hF
     refine stMk (m := (List.replicate ((claims.length : Nat) : Int).toNat (0 : Int)).length) (rows := (List.replicate ((claims.length : Nat) : Int).toNat (0 : Int)).map encI_i64) hf hc rfl rfl sl_35 rfl rfl (inM_spec hun) rfl rfl (by simp [List.map_replicate,Value.cells]) (by simp) fun b_1 a w hf hc => sp 1 hf rfl fun a hf => zT h ?_
     refine wp_seq_k fun K13 h13 => zS fun K h => sp 2 hf rfl fun a hf => zT h ?_
     refine wp_block ?_
     obtain ⟨x15,hx15,hF⟩ := bnd_some hF
     let S15 : ((List Int) × Int) → Act → World → Prop := (fun (zz : (List Int) × Int) a w => ∃ (p_1 : Option Addr) (c_1 : Nat),Has 87 a [(0,.slice claims_p claims.length claims_c),(2,i6 rule),(9,.slice p_1 zz.1.length c_1),(41,i6 days),(42,i6 zz.2)] ∧ Ctx G (.row p_1 c_1 (zz.1.map encI_i64) 3 1::Lf) w)
     have hr15 : ∀ (zz : (List Int) × Int) a w,x15 = .go zz → S15 zz a w → K13 a w := by
      rintro ⟨out,x⟩ a w rfl ⟨p_1,c_1,hf,hc⟩
      replace hF := exK_go hF
      refine h13 _ _ ?_
      refine zS fun K h => sp 3 hf rfl fun a hf => zT h ?_
      refine wp_ret ?_
      obtain rfl := sj hF
      exact zO2 Tryz.results47 hf rfl rfl ⟨p_1,c_1,rfl,hc⟩
     have ho15 : ∀ r,x15 = .out r → r = res := by
      rintro r rfl
      exact sj hF
     refine cLoop N (loopW (S := S15) (x := x15) ?_ N ((List.replicate ((claims.length : Nat) : Int).toNat (0 : Int)),0) _ _ ⟨(some ⟨b_1,0,none⟩),((claims.length : Nat) : Int).toNat,hf.kp rfl,hc⟩ hx15)
     clear hF hf hc
     rintro ⟨out,x⟩ st15 a w KB15 ⟨p_1,c_1,hf,hc⟩ hF hfin15 hK15
     unfold share_Turns_b15 at hF
     refine zS fun K h => sp 1 hf rfl fun a hf => zT h ?_
     refine wp_seq_k fun K18 h18 => zI hf rfl hF ?_ ?_ <;> clear hF <;> intro hF
     ·refine wp_skip ?_
      refine h18 _ _ ?_
      refine wp_seq_k fun K19 h19 => wp_block ?_
      refine wp_seq_k fun K20 h20 => ?_
      obtain ⟨e_1,he_1,hF⟩ := bnd_some hF
      obtain ⟨b_2,o,qa,qp⟩ := h_claims.atm he_1
      obtain ⟨e_2,he_2,hF⟩ := bnd_some hF
      obtain ⟨g,rfl,qa_1,qr⟩ := row_atm hc m0 he_2
      obtain ⟨r_1,hr_1,hF⟩ := bnd_some hF
      replace hc := hc.nilRow 0 0
      refine regionE (fun θ => [⟨none,none,0,.slice claims_p claims.length claims_c⟩,⟨none,none,2,i6 rule⟩,⟨none,none,9,.slice (some ⟨g,0,none⟩) out.length c_1⟩,⟨none,none,41,i6 days⟩,⟨none,none,42,i6 x⟩,⟨some 0,none,44,i6 rule⟩,⟨some 1,none,45,.slice claims_p claims.length claims_c⟩,⟨some 2,none,46,.pointer (some ⟨b_2,o,none⟩)⟩,⟨some 3,none,47,i6 e_1⟩,⟨some 4,none,48,.slice (some ⟨g,0,none⟩) out.length c_1⟩,⟨some 5,none,49,.pointer (some ⟨g,(0 : Int).toNat * 1,none⟩)⟩,⟨some 6,none,50,i6 e_2⟩,⟨some 7,none,51,i6 (W (e_2 + 1))⟩,⟨some 8,none,52,.agg #[i6 r_1.claim,i6 r_1.by_]⟩,⟨some 9,none,11,.pointer (some ⟨(θ 72).b,0,none⟩)⟩,⟨some 10,none,10,i6 0⟩]) (fun E θ => (bif E 11 then .box (θ 72).b [i6 r_1.claim,i6 r_1.by_] 121 else bif E 9 then .box (θ 72).b [i6 0,i6 0] 121 else .row none 0 [] 0 0)::.row (some ⟨g,0,none⟩) c_1 (out.map encI_i64) 3 1::Lf) [(11,9)] (fun a w => ∃ (b_4 : Nat),Has 87 a [(0,.slice claims_p claims.length claims_c),(2,i6 rule),(9,.slice (some ⟨g,0,none⟩) out.length c_1),(41,i6 days),(42,i6 x),(11,pq b_4),(10,i6 0)] ∧ Ctx G (.box b_4 [i6 r_1.claim,i6 r_1.by_] 121::.row (some ⟨g,0,none⟩) c_1 (out.map encI_i64) 3 1::Lf) w) follows_mx (by kernel_rfl) (by kernel_rfl) (HasE.of hf ⟨rfl,rfl,rfl,rfl,rfl,trivial,trivial,trivial,trivial,trivial,trivial,trivial,trivial,trivial,trivial,trivial,trivial⟩) hc ⟨?_,?_,?_,?_,?_,?_,?_,?_,?_,?_,?_,?_,trivial⟩ ?_ ?_
      ·intro E θ a w hD hi hp he hc
       have hf := he.h0.mT he 1 rfl
       refine sp 1 hf rfl fun a hf => zD θ he hi hf 5 rfl rfl rfl hc
      ·intro E θ a w hD hi hp he hc
       have hf := he.h0.mT he 0 rfl
       refine sp 1 hf rfl fun a hf => zD θ he hi hf 6 rfl rfl rfl hc
      ·intro E θ a w hD hi hp he hc
       have e1 := hp.o 1 rfl
       have hf := he.h0.mP he 6 rfl e1
       refine zP hf rfl (pIA Tryz.underlying35 sz_3 rfl rfl qa) fun a hf => zD θ he hi hf 7 rfl rfl rfl hc
      ·intro E θ a w hD hi hp he hc
       have e2 := hp.o 2 rfl
       have hf := he.h0.mP he 7 rfl e2
       refine zE hf hc rfl (eLd1 sc_3 rfl (cell_pc (j := 0) qp rfl)) fun a w hf hc => zD θ he hi hf 8 rfl rfl rfl hc
      ·intro E θ a w hD hi hp he hc
       have hf := he.h0.mT he 2 rfl
       refine sp 1 hf rfl fun a hf => zD θ he hi hf 9 rfl rfl rfl hc
      ·intro E θ a w hD hi hp he hc
       have e4 := hp.o 4 rfl
       have hf := he.h0.mP he 9 rfl e4
       refine zP hf rfl (pIA Tryz.underlying35 sz_3 rfl rfl qa_1) fun a hf => zD θ he hi hf 10 rfl rfl rfl hc
      ·intro E θ a w hD hi hp he hc
       have e5 := hp.o 5 rfl
       have hf := he.h0.mP he 10 rfl e5
       refine zE hf hc rfl (eLd1 sc_3 rfl (cell_row (sz := 1) (i := (0 : Int).toNat) (j := 0) m1 qr rfl)) fun a w hf hc => zD θ he hi hf 11 rfl rfl rfl hc
      ·intro E θ a w hD hi hp he hc
       have e6 := hp.o 6 rfl
       have hf := he.h0.mP he 11 rfl e6
       refine sp 1 hf rfl fun a hf => zD θ he hi hf 12 rfl rfl rfl hc
      ·intro E θ a w hD hi hp he hc
       have e0 := hp.o 0 rfl
       have e3 := hp.o 3 rfl
       have e7 := hp.o 7 rfl
       have hf := ((he.h0.mP he 5 rfl e0).mP he 8 rfl e3).mP he 12 rfl e7
       refine zQ (v := .agg #[i6 r_1.claim,i6 r_1.by_]) hf hc en_72 rfl (fun w hc => share_Rule_day_ok rule e_1 (W (e_2 + 1)) hc hr_1) fun a w hf hc => zD θ he hi hf 13 rfl rfl rfl hc
      ·intro E θ a w hD hi hp he hc
       have e11 := hD.f 0 rfl hi
       try dsimp only at hc
       rw [hi,e11] at hc
       have hf := he.h0
       refine zA hf hc zr_121 rfl fun b_3 a w hf hc => cNil ?_
       refine xThenN ?_
       intro ds u hau
       replace hc := hc.drop k1
       refine ⟨(setT θ 72 ⟨b_3,none,0,(fun _ => (none,0))⟩),he.put hi hau hf rfl [] trivial ⟨qq,qq,qq,qq,qq,qq,qq,qq,qq,qq,qq,qq,qq,qq,qq,qq,trivial⟩,?_⟩
       try dsimp only
       rw [updE_self E 9,updE_fls 9 e11 rfl]
       exact hc
      ·intro E θ a w hD hi hp he hc
       have hf := he.h0
       refine sp 1 hf rfl fun a hf => zD θ he hi hf 15 rfl rfl rfl hc
      ·intro E θ a w hD hi hp he hc
       have e8 := hp.o 8 rfl
       have e9 := hp.o 9 rfl
       try dsimp only at hc
       rw [e9,hi] at hc
       have hf := (he.h0.mP he 13 rfl e8).mP he 14 rfl e9
       refine zW hf hc sz_121 u0 rfl fun w hc => zG θ he hi hf rfl ?_
       try dsimp only
       rw [updE_tru 11 e9,updE_self E 11]
       exact hc
      ·intro E θ a w hall he hc
       have hf := he.h0
       have e9 := hall 9 rfl
       have e10 := hall 10 rfl
       have e11 := hall 11 rfl
       replace hf := hf.more he 15 rfl (onP e10)
       replace hf := hf.more he 14 rfl (onP e9)
       replace hf := hf.more he 4 rfl (onT)
       replace hf := hf.more he 3 rfl (onT)
       replace hf := hf.more he 2 rfl (onT)
       replace hf := hf.more he 1 rfl (onT)
       replace hf := hf.more he 0 rfl (onT)
       try dsimp only at hc
       rw [e9,e11] at hc
       exact ⟨(θ 72).b,hf.kp rfl,hc⟩
      rintro a w ⟨b_4,hf,hc⟩
      refine h20 _ _ ?_
      refine wp_seq_k fun K21 h21 => zS fun K h => sp 1 hf rfl fun a hf => zP hf rfl (pLenS Tryz.underlying35 rfl) fun a hf => sp 1 hf rfl fun a hf => zT h ?_
      refine wp_block ?_
      obtain ⟨x23,hx23,hF⟩ := bnd_some hF
      let S23 : (Int × Int × Int × Int) → Act → World → Prop := (fun (zz : Int × Int × Int × Int) a w => Has 87 a [(0,.slice claims_p claims.length claims_c),(2,i6 rule),(9,.slice (some ⟨g,0,none⟩) out.length c_1),(10,i6 zz.1),(11,pq b_4),(41,i6 days),(42,i6 x),(53,.slice claims_p claims.length claims_c),(54,i6 ((claims.length : Nat) : Int)),(55,i6 zz.2.1)] ∧ Ctx G (.box b_4 [i6 zz.2.2.1,i6 zz.2.2.2] 121::.row (some ⟨g,0,none⟩) c_1 (out.map encI_i64) 3 1::Lf) w)
      have hr23 : ∀ (zz : Int × Int × Int × Int) a w,x23 = .go zz → S23 zz a w → K21 a w := by
       rintro ⟨who,x_1,x_2,x_3⟩ a w rfl ⟨hf,hc⟩
       replace hF := exK_go hF
       refine h21 _ _ ?_
       refine cReg ?_
       refine sp 2 hf rfl fun a hf => ?_
       obtain ⟨e_3,he_3,hF⟩ := bnd_some hF
       obtain ⟨qa_2,qr_1⟩ := row_atk hc m1 he_3
       refine zP hf rfl (pIA Tryz.underlying35 sz_3 rfl rfl qa_2) fun a hf => zE hf hc rfl (eLd1 sc_3 rfl (cell_row (sz := 1) (i := who.toNat) (j := 0) m1 qr_1 rfl)) fun a w hf hc => sp 1 hf rfl fun a hf => ?_
       obtain ⟨e_4,he_4,hF⟩ := bnd_some hF
       obtain ⟨qa_3,qr_2⟩ := row_atk hc m1 he_4
       refine zP hf rfl (pIA Tryz.underlying35 sz_3 rfl rfl qa_3) fun a hf => stRw (sz := 1) (vs := [i6 (W (e_3 + 1))]) (o' := 0) (z := W (e_3 + 1)) (xs := out) hf hc rfl rfl rfl rfl sz_3 rfl (fun x => (one_encI_i64 x).1) (getI_lt he_4) (fun _ _ => rfl) rfl u1 fun w hc => cNil ?_
       refine h19 _ _ ?_
       refine cReg ?_
       refine sp 2 hf rfl fun a hf => cNil ?_
       replace hf := hf.castAt 9 (v' := .slice (some ⟨g,0,none⟩) ((out.set who.toNat (W (e_3 + 1))).length) c_1) rfl (congrArg (fun k => Value.slice (some ⟨g,0,none⟩) k c_1) (by simp))
       replace hc := hc.drop k0
       exact hK15 ((out.set who.toNat (W (e_3 + 1))),W (x + 1)) _ _ (sj hF).symm ⟨(some ⟨g,0,none⟩),c_1,hf.kp rfl,hc⟩
      have ho23 : ∀ r,x23 = .out r → r = st15 := by
       rintro r rfl
       exact sj hF
      refine cLoop N (loopW (S := S23) (x := x23) ?_ N (0,0,r_1.claim,r_1.by_) _ _ ⟨hf.kp rfl,hc⟩ hx23)
      clear hF hf hc
      rintro ⟨who,x_1,x_2,x_3⟩ st23 a w KB23 ⟨hf,hc⟩ hF hfin23 hK23
      unfold share_Turns_b23 at hF
      refine zS fun K h => sp 1 hf rfl fun a hf => zT h ?_
      refine wp_seq_k fun K25 h25 => zI hf rfl hF ?_ ?_ <;> clear hF <;> intro hF
      ·refine wp_skip ?_
       refine h25 _ _ ?_
       refine wp_seq_k fun K26 h26 => ?_
       have hj26 : ∀ (who_1 : Int) (x_4 : Int) (x_5 : Int) a w,Has 87 a [(0,.slice claims_p claims.length claims_c),(2,i6 rule),(9,.slice (some ⟨g,0,none⟩) out.length c_1),(10,i6 who_1),(11,pq b_4),(41,i6 days),(42,i6 x),(53,.slice claims_p claims.length claims_c),(54,i6 ((claims.length : Nat) : Int)),(55,i6 x_1)] → Ctx G (.box b_4 [i6 x_4,i6 x_5] 121::.row (some ⟨g,0,none⟩) c_1 (out.map encI_i64) 3 1::Lf) w → share_Turns_j26 N x_1 who_1 x_4 x_5 = some st23 → K26 a w := by
        repeat (clear hF)
        repeat (clear hc)
        repeat (clear hf)
        intro who_1 x_4 x_5 a w hf hc hF
        unfold share_Turns_j26 at hF
        refine h26 _ _ ?_
        refine cReg ?_
        refine sp 2 hf rfl fun a hf => cNil ?_
        exact hK23 (who_1,W (x_1 + 1),x_4,x_5) _ _ (sj hF).symm ⟨hf.kp rfl,hc⟩
       refine wp_block ?_
       refine zS fun K h => sp 1 hf rfl fun a hf => ?_
       obtain ⟨e_5,he_5,hF⟩ := bnd_some hF
       obtain ⟨b_5,o_1,qa_4,qp_1⟩ := h_claims.atm he_5
       refine zP hf rfl (pIA Tryz.underlying35 sz_3 rfl rfl qa_4) fun a hf => zE hf hc rfl (eLd1 sc_3 rfl (cell_pc (j := 0) qp_1 rfl)) fun a w hf hc => sp 2 hf rfl fun a hf => zT h ?_
       refine zS fun K h => sp 4 hf rfl fun a hf => ?_
       obtain ⟨e_6,he_6,hF⟩ := bnd_some hF
       obtain ⟨qa_5,qr_3⟩ := row_atk hc m1 he_6
       refine zP hf rfl (pIA Tryz.underlying35 sz_3 rfl rfl qa_5) fun a hf => zE hf hc rfl (eLd1 sc_3 rfl (cell_row (sz := 1) (i := x_1.toNat) (j := 0) m1 qr_3 rfl)) fun a w hf hc => sp 1 hf rfl fun a hf => ?_
       obtain ⟨r_2,hr_2,hF⟩ := bnd_some hF
       refine zQ (v := .agg #[i6 r_2.claim,i6 r_2.by_]) hf hc en_72 rfl (fun w hc => share_Rule_day_ok rule e_5 (W (e_6 + 1)) hc hr_2) fun a w hf hc => zA hf hc zr_121 rfl fun b_6 a w hf hc => zW hf hc sz_121 u0 rfl fun w hc => zT h ?_
       refine zS fun K h => zN hf hc ag_121 m0 rfl fun a w hf hc => zN hf hc ag_121 m1 rfl fun a w hf hc => zP hf rfl (pNeA ge_121 rfl rfl (eqs_121 _ _ _ _)) fun a hf => sp 1 hf rfl fun a hf => stCc 4 (fun a => Has 87 a [(0,.slice claims_p claims.length claims_c),(2,i6 rule),(9,.slice (some ⟨g,0,none⟩) out.length c_1),(10,i6 who),(11,pq b_4),(41,i6 days),(42,i6 x),(53,.slice claims_p claims.length claims_c),(54,i6 ((claims.length : Nat) : Int)),(55,i6 x_1),(12,i6 x_1),(14,pq b_6),(68,.agg #[i6 r_2.claim,i6 r_2.by_]),(69,.agg #[i6 x_2,i6 x_3]),(70,.bool (!(r_2.claim == x_2 && r_2.by_ == x_3))),(71,.bool (!(r_2.claim == x_2 && r_2.by_ == x_3))),(75,.bool ((!(r_2.claim == x_2 && r_2.by_ == x_3)) && (share_quotient_more r_2 (⟨x_2,x_3⟩ : share_quotient))))]) hc ?_ ?_
       ·cases hb : (!(r_2.claim == x_2 && r_2.by_ == x_3))
        ·rw [hb] at hf
         refine stS hf rfl rfl rfl fun a hf => stS hf rfl rfl rfl fun a hf => stS hf rfl rfl rfl fun a hf => sp 1 hf rfl fun a hf => cNil ⟨hf.kp rfl,hc⟩
        ·rw [hb] at hf
         refine zN hf hc ag_121 m0 rfl fun a w hf hc => zN hf hc ag_121 m1 rfl fun a w hf hc => zQ (v := .bool (share_quotient_more r_2 (⟨x_2,x_3⟩ : share_quotient))) hf hc en_73 rfl (fun w hc => share_quotient_more_ok r_2 (⟨x_2,x_3⟩ : share_quotient) hc rfl) fun a w hf hc => sp 1 hf rfl fun a hf => cNil ⟨hf.kp rfl,hc⟩
       intro a w ⟨hf,hc⟩
       refine zT h ?_
       refine zI hf rfl hF ?_ ?_ <;> clear hF <;> intro hF
       ·refine regionE (fun θ => [⟨none,none,0,.slice claims_p claims.length claims_c⟩,⟨none,none,2,i6 rule⟩,⟨none,none,9,.slice (some ⟨g,0,none⟩) out.length c_1⟩,⟨none,some 2,10,i6 who⟩,⟨none,none,11,pq b_4⟩,⟨none,none,12,i6 x_1⟩,⟨none,none,14,pq b_6⟩,⟨none,none,41,i6 days⟩,⟨none,none,42,i6 x⟩,⟨none,none,53,.slice claims_p claims.length claims_c⟩,⟨none,none,54,i6 ((claims.length : Nat) : Int)⟩,⟨none,none,55,i6 x_1⟩,⟨some 0,none,76,i6 x_1⟩,⟨some 1,none,77,.agg #[i6 r_2.claim,i6 r_2.by_]⟩,⟨some 2,none,10,i6 x_1⟩]) (fun E θ => .box b_6 [i6 r_2.claim,i6 r_2.by_] 121::(bif E 3 then .box b_4 [i6 r_2.claim,i6 r_2.by_] 121 else .box b_4 [i6 x_2,i6 x_3] 121)::.row (some ⟨g,0,none⟩) c_1 (out.map encI_i64) 3 1::Lf) [] (fun a w => Has 87 a [(0,.slice claims_p claims.length claims_c),(2,i6 rule),(9,.slice (some ⟨g,0,none⟩) out.length c_1),(11,pq b_4),(41,i6 days),(42,i6 x),(53,.slice claims_p claims.length claims_c),(54,i6 ((claims.length : Nat) : Int)),(55,i6 x_1),(10,i6 x_1)] ∧ Ctx G (.box b_6 [i6 r_2.claim,i6 r_2.by_] 121::.box b_4 [i6 r_2.claim,i6 r_2.by_] 121::.row (some ⟨g,0,none⟩) c_1 (out.map encI_i64) 3 1::Lf) w) follows_mx (by kernel_rfl) (by kernel_rfl) (HasE.of hf ⟨rfl,rfl,rfl,rfl,rfl,rfl,rfl,rfl,rfl,rfl,rfl,rfl,trivial,trivial,trivial,trivial⟩) hc ⟨?_,?_,?_,?_,trivial⟩ ?_ ?_
        ·intro E θ a w hD hi hp he hc
         have hf := he.h0.mT he 5 rfl
         refine sp 1 hf rfl fun a hf => zD θ he hi hf 12 rfl rfl rfl hc
        ·intro E θ a w hD hi hp he hc
         have hf := he.h0.mT he 6 rfl
         refine zN hf hc ag_121 m0 rfl fun a w hf hc => zD θ he hi hf 13 rfl rfl rfl hc
        ·intro E θ a w hD hi hp he hc
         have e0 := hp.o 0 rfl
         have hf := he.h0.mP he 12 rfl e0
         refine sp 1 hf rfl fun a hf => zD θ he hi hf 14 rfl rfl rfl hc
        ·intro E θ a w hD hi hp he hc
         have e1 := hp.o 1 rfl
         try dsimp only at hc
         rw [hi] at hc
         have hf := (he.h0.mT he 4 rfl).mP he 13 rfl e1
         refine zW hf hc sz_121 u1 rfl fun w hc => zG θ he hi hf rfl ?_
         try dsimp only
         rw [updE_self E 3]
         exact hc
        ·intro E θ a w hall he hc
         have hf := he.h0
         have e2 := hall 2 rfl
         have e3 := hall 3 rfl
         replace hf := hf.more he 14 rfl (onP e2)
         replace hf := hf.more he 11 rfl (onT)
         replace hf := hf.more he 10 rfl (onT)
         replace hf := hf.more he 9 rfl (onT)
         replace hf := hf.more he 8 rfl (onT)
         replace hf := hf.more he 7 rfl (onT)
         replace hf := hf.more he 4 rfl (onT)
         replace hf := hf.more he 2 rfl (onT)
         replace hf := hf.more he 1 rfl (onT)
         replace hf := hf.more he 0 rfl (onT)
         try dsimp only at hc
         rw [e3] at hc
         exact ⟨hf.kp rfl,hc⟩
        rintro a w ⟨hf,hc⟩
        replace hc := hc.drop k0
        exact hj26 x_1 r_2.claim r_2.by_ _ _  (hf.kp rfl) hc hF
       ·refine wp_skip ?_
        replace hc := hc.drop k0
        exact hj26 who x_2 x_3 _ _  (hf.kp rfl) hc hF
      ·refine wp_exit ?_
       refine xThen ?_
       refine xThen ?_
       have he := sj hF
       rw [← he] at hfin23
       refine cHit ?_
       exact hr23 _ _ _ hfin23 ⟨hf.kp rfl,hc⟩
     ·refine wp_exit ?_
      refine xThen ?_
      refine xThen ?_
      have he := sj hF
      rw [← he] at hfin15
      refine cHit ?_
      exact hr15 _ _ _ hfin15 ⟨p_1,c_1,hf.kp rfl,hc⟩

def kit_Same_int_b7 (N : Nat) (a_ : List Int) (b_ : List Int) (i_1 : Int) : Option (Step (Int) (Bool)) :=
 cond (decide (i_1 < ((a_.length : Nat) : Int)))
 (Option.bind (getI a_ i_1) fun e_1 =>
 Option.bind (getI b_ i_1) fun e_2 =>
 cond (e_1 != e_2)
 (some (.ret false))
 (some (.cont (W (i_1 + 1)))))
 (some (.brk i_1))
def kit_Same_int (N : Nat) (a_ : List Int) (b_ : List Int) : Option (Bool) :=
 cond (((a_.length : Nat) : Int) != ((b_.length : Nat) : Int))
 (some false)
 (Option.bind (loopO (fun s7 => kit_Same_int_b7 N a_ b_ s7) N 0) fun x7 =>
 exK x7 (fun s7 => some true) some)
theorem kit_Same_int_ok {N : Nat} {G : Pers} {Lf : List Ent} {w : World} (a_ : List Int) (b_ : List Int) {a__p : Option Addr} {a__c : Nat} {b__p : Option Addr} {b__c : Nat} (h_a_ : Rd G 1 a__p a__c (a_.map encI_i64)) (h_b_ : Rd G 1 b__p b__c (b_.map encI_i64)) (hc : Ctx G (Lf) w) {res : Bool} (hF : kit_Same_int N a_ b_ = some res) : Calls Tryz.prog 48 #[.slice a__p a_.length a__c,.slice b__p b_.length b__c] w (fun e w => e = .returned (.bool res) ∧ Ctx G (Lf) w) := by
 unfold kit_Same_int at hF
 refine fnIn Tryz.func48 rfl Tryz.ntmps48 rfl fun a hf => zS fun K h => sp 1 hf rfl fun a hf => zT h ?_
 refine wp_seq_k fun K2 h2 => zS fun K h => sp 1 hf rfl fun a hf => zP hf rfl (pLenS Tryz.underlying35 rfl) fun a hf => sp 1 hf rfl fun a hf => zP hf rfl (pLenS Tryz.underlying35 rfl) fun a hf => sp 1 hf rfl fun a hf => zT h ?_
 refine zI hf rfl hF ?_ ?_ <;> clear hF <;> intro hF
 ·refine zS fun K h => sp 1 hf rfl fun a hf => zT h ?_
  refine wp_ret ?_
  refine xThenR ?_
  obtain rfl := sj hF
  exact zO1 Tryz.results48 hf rfl ⟨rfl,hc⟩
 ·refine wp_skip ?_
  refine h2 _ _ ?_
  refine wp_seq_k fun K5 h5 => zS fun K h => sp 1 hf rfl fun a hf => zT h ?_
  refine wp_block ?_
  obtain ⟨x7,hx7,hF⟩ := bnd_some hF
  let S7 : Int → Act → World → Prop := (fun (zz : Int) a w => Has 26 a [(0,.slice a__p a_.length a__c),(1,.slice b__p b_.length b__c),(5,i6 zz)] ∧ Ctx G (Lf) w)
  have hr7 : ∀ (zz : Int) a w,x7 = .go zz → S7 zz a w → K5 a w := by
   rintro i_1 a w rfl ⟨hf,hc⟩
   replace hF := exK_go hF
   refine h5 _ _ ?_
   refine zS fun K h => sp 1 hf rfl fun a hf => zT h ?_
   refine wp_ret ?_
   obtain rfl := sj hF
   exact zO1 Tryz.results48 hf rfl ⟨rfl,hc⟩
  have ho7 : ∀ r,x7 = .out r → r = res := by
   rintro r rfl
   exact sj hF
  refine cLoop N (loopW (S := S7) (x := x7) ?_ N 0 _ _ ⟨hf.kp rfl,hc⟩ hx7)
  clear hF hf hc
  rintro i_1 st7 a w KB7 ⟨hf,hc⟩ hF hfin7 hK7
  unfold kit_Same_int_b7 at hF
  refine wp_seq_k fun K9 h9 => zS fun K h => sp 2 hf rfl fun a hf => zP hf rfl (pLenS Tryz.underlying35 rfl) fun a hf => sp 1 hf rfl fun a hf => zT h ?_
  refine zI hf rfl hF ?_ ?_ <;> clear hF <;> intro hF
  ·refine wp_skip ?_
   refine h9 _ _ ?_
   refine wp_seq_k fun K11 h11 => wp_block ?_
   refine wp_seq_k fun K12 h12 => ?_
   obtain ⟨e_1,he_1,hF⟩ := bnd_some hF
   obtain ⟨b_1,o,qa,qp⟩ := h_a_.atm he_1
   obtain ⟨e_2,he_2,hF⟩ := bnd_some hF
   obtain ⟨b_2,o_1,qa_1,qp_1⟩ := h_b_.atm he_2
   refine cQ hc follows_mx (by kernel_rfl) ?_
   refine qE hf rfl rfl rfl (Pu.ev (pM rfl)) fun a hf => qE hf rfl rfl rfl (Pu.ev (pM rfl)) fun a hf => qE hf rfl rfl rfl (Pu.ev (pIA Tryz.underlying35 sz_3 rfl rfl qa)) fun a hf => qE hf rfl rfl rfl (eLd1 sc_3 rfl (cell_pc (j := 0) qp rfl)) fun a hf => qE hf rfl rfl rfl (Pu.ev (pM rfl)) fun a hf => qE hf rfl rfl rfl (Pu.ev (pM rfl)) fun a hf => qE hf rfl rfl rfl (Pu.ev (pIA Tryz.underlying35 sz_3 rfl rfl qa_1)) fun a hf => qE hf rfl rfl rfl (eLd1 sc_3 rfl (cell_pc (j := 0) qp_1 rfl)) fun a hf => qE hf rfl rfl rfl (Pu.ev (pNe rfl rfl)) fun a hf => ?_
   intro w hc
   refine h12 _ _ ?_
   refine zI hf rfl hF ?_ ?_ <;> clear hF <;> intro hF
   ·refine zS fun K h => sp 1 hf rfl fun a hf => zT h ?_
    refine wp_ret ?_
    refine xBlkR ?_
    refine xThenR ?_
    refine xThenR ?_
    have he := sj hF
    rw [← he] at hfin7
    replace hF := ho7 _ hfin7
    refine xBlkR ?_
    refine xThenR ?_
    obtain rfl := hF
    exact zO1 Tryz.results48 hf rfl ⟨rfl,hc⟩
   ·refine wp_skip ?_
    refine h11 _ _ ?_
    refine cReg ?_
    refine sp 3 hf rfl fun a hf => cNil ?_
    exact hK7 (W (i_1 + 1)) _ _ (sj hF).symm ⟨hf.kp rfl,hc⟩
  ·refine wp_exit ?_
   refine xThen ?_
   refine xThen ?_
   have he := sj hF
   rw [← he] at hfin7
   refine cHit ?_
   exact hr7 _ _ _ hfin7 ⟨hf.kp rfl,hc⟩

def top_aware13 (N : Nat)  : Option (Bool) :=
 Option.bind (law13_Six N) fun r =>
 Option.bind (notes_Stale N r ([0] : List Int)) fun r_1 =>
 Option.bind (law11_Two N) fun r_2 =>
 Option.bind (crew_Assign N r_2) fun r_3 =>
 Option.bind (share_Turns N ([60,30,10] : List Int) 9 1) fun r_4 =>
 Option.bind (cond (((r_1.2 == 0) && (r_3.2 == 0)) && (r_4.2 == 0)) (Option.bind (kit_Same_int N r_1.1 ([0,2,4,5] : List Int)) fun r_5 =>
 some r_5) (some false)) fun t_1 =>
 Option.bind (cond t_1 (Option.bind (kit_Same_int N r_3.1 ([1,0] : List Int)) fun r_6 =>
 some r_6) (some false)) fun t_2 =>
 Option.bind (cond t_2 (Option.bind (kit_Same_int N r_4.1 ([5,3,1] : List Int)) fun r_7 =>
 some r_7) (some false)) fun t_3 =>
 some t_3
theorem top_aware13_ok {N : Nat} {G : Pers} {Lf : List Ent} {w : World}    (hc : Ctx G (Lf) w) {res : Bool} (hF : top_aware13 N = some res) : Calls Tryz.prog 14 #[] w (fun e w => e = .returned (.bool res) ∧ Ctx G (Lf) w) := by
 unfold top_aware13 at hF
 refine fnIn Tryz.func14 rfl Tryz.ntmps14 rfl fun a hf => zS fun K h => sp 1 hf rfl fun a hf => zT h ?_
 refine zS fun K h => ?_
 obtain ⟨r,hr,hF⟩ := bnd_some hF
 refine zC hf en_44 rfl (law13_Six_ok hc hr) ?_
 rintro _ w ⟨p_1,tcq,rfl,hc⟩
 refine ⟨_,rfl,fun a hf => ?_⟩
 refine stBS (rows := ([0] : List Int).map encI_i64) (vs := [(0,i6 0)]) hf hc rfl rfl sl_35 rfl ⟨rfl,rfl,rfl,trivial⟩ rfl rfl fun b_1 a w hf hc => ?_
 obtain ⟨r_1,hr_1,hF⟩ := bnd_some hF
 obtain ⟨G1,hle1,hrd1,hc,hth1⟩ := lendT kdo_110 hc k1 k1
 obtain ⟨G2,hle2,hrd2,hc,hth2⟩ := lend hc k0
 refine zC hf en_43 rfl (notes_Stale_ok r ([0] : List Int) (hrd1.mono hle2) hrd2 hc hr_1) ?_
 rintro _ w ⟨p_2,c_1,rfl,hc⟩
 refine ⟨_,rfl,fun a hf => ?_⟩
 replace hc := hth2 _ _ hc
 replace hc := hth1 _ _ hc
 refine sp 5 hf rfl fun a hf => zT h ?_
 refine wp_seq_k fun K3 h3 => cReg ?_
 obtain ⟨r_2,hr_2,hF⟩ := bnd_some hF
 refine zC hf en_46 rfl (law11_Two_ok hc hr_2) ?_
 rintro _ w ⟨p_3,tcq_1,p_4,tcq_2,rfl,hc⟩
 refine ⟨_,rfl,fun a hf => ?_⟩
 obtain ⟨r_3,hr_3,hF⟩ := bnd_some hF
 obtain ⟨G1,hle1,hrd1,hc,hth1⟩ := lendT kdo_35 hc k0 k0
 obtain ⟨G2,hle2,hrd2,hc,hth2⟩ := lendT kdo_118 hc k0 k0
 refine zC hf en_45 rfl (crew_Assign_ok r_2 (hrd1.mono hle2) hrd2 hc hr_3) ?_
 rintro _ w ⟨p_5,c_2,rfl,hc⟩
 refine ⟨_,rfl,fun a hf => ?_⟩
 replace hc := hth2 _ _ hc
 replace hc := hth1 _ _ hc
 refine sp 5 hf rfl fun a hf => cNil ?_
 replace hc := ((((((hc.drop k7).drop k6).drop k5).drop k3).drop k2).drop k1).drop k0
 refine h3 _ _ ?_
 refine zS fun K h => stBS (rows := ([60,30,10] : List Int).map encI_i64) (vs := [(0,i6 60),(1,i6 30),(2,i6 10)]) hf hc rfl rfl sl_35 rfl ⟨rfl,rfl,rfl,rfl,rfl,rfl,rfl,rfl,rfl,trivial⟩ rfl rfl fun b_2 a w hf hc => ?_
 obtain ⟨r_4,hr_4,hF⟩ := bnd_some hF
 obtain ⟨G1,hle1,hrd1,hc,hth1⟩ := lend hc k0
 refine zC hf en_47 rfl (share_Turns_ok ([60,30,10] : List Int) 9 1 hrd1 hc hr_4) ?_
 rintro _ w ⟨p_6,c_3,rfl,hc⟩
 refine ⟨_,rfl,fun a hf => ?_⟩
 replace hc := hth1 _ _ hc
 refine sp 5 hf rfl fun a hf => zT h ?_
 refine zS fun K h => sp 3 hf rfl fun a hf => stCc 3 (fun a => Has 48 a [(0,.bool false),(1,.slice p_2 r_1.1.length c_1),(2,i6 r_1.2),(3,.slice p_5 r_3.1.length c_2),(4,i6 r_3.2),(5,.slice p_6 r_4.1.length c_3),(6,i6 r_4.2),(23,i6 r_1.2),(24,.bool (r_1.2 == 0)),(25,.bool (r_1.2 == 0)),(28,.bool ((r_1.2 == 0) && (r_3.2 == 0)))]) hc ?_ ?_
 ·cases hb : (r_1.2 == 0)
  ·rw [hb] at hf
   refine stS hf rfl rfl rfl fun a hf => stS hf rfl rfl rfl fun a hf => sp 1 hf rfl fun a hf => cNil ⟨hf.kp rfl,hc⟩
  ·rw [hb] at hf
   refine sp 3 hf rfl fun a hf => cNil ⟨hf.kp rfl,hc⟩
 intro a w ⟨hf,hc⟩
 refine sp 1 hf rfl fun a hf => stCc 3 (fun a => Has 48 a [(0,.bool false),(1,.slice p_2 r_1.1.length c_1),(2,i6 r_1.2),(3,.slice p_5 r_3.1.length c_2),(4,i6 r_3.2),(5,.slice p_6 r_4.1.length c_3),(6,i6 r_4.2),(23,i6 r_1.2),(24,.bool (r_1.2 == 0)),(25,.bool (r_1.2 == 0)),(28,.bool ((r_1.2 == 0) && (r_3.2 == 0))),(29,.bool ((r_1.2 == 0) && (r_3.2 == 0))),(32,.bool (((r_1.2 == 0) && (r_3.2 == 0)) && (r_4.2 == 0)))]) hc ?_ ?_
 ·cases hb : ((r_1.2 == 0) && (r_3.2 == 0))
  ·rw [hb] at hf
   refine stS hf rfl rfl rfl fun a hf => stS hf rfl rfl rfl fun a hf => sp 1 hf rfl fun a hf => cNil ⟨hf.kp rfl,hc⟩
  ·rw [hb] at hf
   refine sp 3 hf rfl fun a hf => cNil ⟨hf.kp rfl,hc⟩
 intro a w ⟨hf,hc⟩
 refine sp 1 hf rfl fun a hf => ?_
 obtain ⟨t_1,ht_1,hF⟩ := bnd_some hF
 refine stCc 4 (fun a => Has 48 a [(0,.bool false),(1,.slice p_2 r_1.1.length c_1),(2,i6 r_1.2),(3,.slice p_5 r_3.1.length c_2),(4,i6 r_3.2),(5,.slice p_6 r_4.1.length c_3),(6,i6 r_4.2),(23,i6 r_1.2),(24,.bool (r_1.2 == 0)),(25,.bool (r_1.2 == 0)),(28,.bool ((r_1.2 == 0) && (r_3.2 == 0))),(29,.bool ((r_1.2 == 0) && (r_3.2 == 0))),(32,.bool (((r_1.2 == 0) && (r_3.2 == 0)) && (r_4.2 == 0))),(33,.bool (((r_1.2 == 0) && (r_3.2 == 0)) && (r_4.2 == 0))),(37,.bool t_1)]) hc ?_ ?_
 ·cases hb : (((r_1.2 == 0) && (r_3.2 == 0)) && (r_4.2 == 0))
  ·rw [hb] at hf
   have hF := condF hb ht_1
   obtain rfl := sj hF
   refine stS hf rfl rfl rfl fun a hf => stS hf rfl rfl rfl fun a hf => stS hf rfl rfl rfl fun a hf => sp 1 hf rfl fun a hf => cNil ⟨hf.kp rfl,hc⟩
  ·rw [hb] at hf
   have hF := condT hb ht_1
   refine sp 1 hf rfl fun a hf => stBS (rows := ([0,2,4,5] : List Int).map encI_i64) (vs := [(0,i6 0),(1,i6 2),(2,i6 4),(3,i6 5)]) hf hc rfl rfl sl_35 rfl ⟨rfl,rfl,rfl,rfl,rfl,rfl,rfl,rfl,rfl,rfl,rfl,rfl,trivial⟩ rfl rfl fun b_3 a w hf hc => ?_
   obtain ⟨r_5,hr_5,hF⟩ := bnd_some hF
   refine zQ (v := .bool r_5) hf hc en_48 rfl (fun w hc => by obtain ⟨G1,hle1,hrd1,hc,hth1⟩ := lend hc k4; obtain ⟨G2,hle2,hrd2,hc,hth2⟩ := lend hc k0; exact (kit_Same_int_ok r_1.1 ([0,2,4,5] : List Int) (hrd1.mono hle2) hrd2 hc hr_5).mono fun e w h => ⟨h.1,((hth1 _ _ ((hth2 _ _ h.2).unpick k0)).unpick k4)⟩) fun a w hf hc => sp 1 hf rfl fun a hf => ?_
   replace hc := hc.drop k0
   obtain rfl := sj hF
   exact cNil ⟨hf.kp rfl,hc⟩
 intro a w ⟨hf,hc⟩
 refine sp 1 hf rfl fun a hf => ?_
 obtain ⟨t_2,ht_2,hF⟩ := bnd_some hF
 refine stCc 4 (fun a => Has 48 a [(0,.bool false),(1,.slice p_2 r_1.1.length c_1),(2,i6 r_1.2),(3,.slice p_5 r_3.1.length c_2),(4,i6 r_3.2),(5,.slice p_6 r_4.1.length c_3),(6,i6 r_4.2),(23,i6 r_1.2),(24,.bool (r_1.2 == 0)),(25,.bool (r_1.2 == 0)),(28,.bool ((r_1.2 == 0) && (r_3.2 == 0))),(29,.bool ((r_1.2 == 0) && (r_3.2 == 0))),(32,.bool (((r_1.2 == 0) && (r_3.2 == 0)) && (r_4.2 == 0))),(33,.bool (((r_1.2 == 0) && (r_3.2 == 0)) && (r_4.2 == 0))),(37,.bool t_1),(38,.bool t_1),(42,.bool t_2)]) hc ?_ ?_
 ·cases hb : t_1
  ·rw [hb] at hf
   try rw [hb] at hc
   have hF := condF hb ht_2
   obtain rfl := sj hF
   refine stS hf rfl rfl rfl fun a hf => stS hf rfl rfl rfl fun a hf => stS hf rfl rfl rfl fun a hf => sp 1 hf rfl fun a hf => cNil ⟨hf.kp rfl,hc⟩
  ·rw [hb] at hf
   try rw [hb] at hc
   have hF := condT hb ht_2
   refine sp 1 hf rfl fun a hf => stBS (rows := ([1,0] : List Int).map encI_i64) (vs := [(0,i6 1),(1,i6 0)]) hf hc rfl rfl sl_35 rfl ⟨rfl,rfl,rfl,rfl,rfl,rfl,trivial⟩ rfl rfl fun b_4 a w hf hc => ?_
   obtain ⟨r_6,hr_6,hF⟩ := bnd_some hF
   refine zQ (v := .bool r_6) hf hc en_48 rfl (fun w hc => by obtain ⟨G1,hle1,hrd1,hc,hth1⟩ := lend hc k3; obtain ⟨G2,hle2,hrd2,hc,hth2⟩ := lend hc k0; exact (kit_Same_int_ok r_3.1 ([1,0] : List Int) (hrd1.mono hle2) hrd2 hc hr_6).mono fun e w h => ⟨h.1,((hth1 _ _ ((hth2 _ _ h.2).unpick k0)).unpick k3)⟩) fun a w hf hc => sp 1 hf rfl fun a hf => ?_
   replace hc := hc.drop k0
   obtain rfl := sj hF
   exact cNil ⟨hf.kp rfl,hc⟩
 intro a w ⟨hf,hc⟩
 refine sp 1 hf rfl fun a hf => ?_
 obtain ⟨t_3,ht_3,hF⟩ := bnd_some hF
 refine stCc 4 (fun a => Has 48 a [(0,.bool false),(1,.slice p_2 r_1.1.length c_1),(2,i6 r_1.2),(3,.slice p_5 r_3.1.length c_2),(4,i6 r_3.2),(5,.slice p_6 r_4.1.length c_3),(6,i6 r_4.2),(23,i6 r_1.2),(24,.bool (r_1.2 == 0)),(25,.bool (r_1.2 == 0)),(28,.bool ((r_1.2 == 0) && (r_3.2 == 0))),(29,.bool ((r_1.2 == 0) && (r_3.2 == 0))),(32,.bool (((r_1.2 == 0) && (r_3.2 == 0)) && (r_4.2 == 0))),(33,.bool (((r_1.2 == 0) && (r_3.2 == 0)) && (r_4.2 == 0))),(37,.bool t_1),(38,.bool t_1),(42,.bool t_2),(43,.bool t_2),(47,.bool t_3)]) hc ?_ ?_
 ·cases hb : t_2
  ·rw [hb] at hf
   try rw [hb] at hc
   have hF := condF hb ht_3
   obtain rfl := sj hF
   refine stS hf rfl rfl rfl fun a hf => stS hf rfl rfl rfl fun a hf => stS hf rfl rfl rfl fun a hf => sp 1 hf rfl fun a hf => cNil ⟨hf.kp rfl,hc⟩
  ·rw [hb] at hf
   try rw [hb] at hc
   have hF := condT hb ht_3
   refine sp 1 hf rfl fun a hf => stBS (rows := ([5,3,1] : List Int).map encI_i64) (vs := [(0,i6 5),(1,i6 3),(2,i6 1)]) hf hc rfl rfl sl_35 rfl ⟨rfl,rfl,rfl,rfl,rfl,rfl,rfl,rfl,rfl,trivial⟩ rfl rfl fun b_5 a w hf hc => ?_
   obtain ⟨r_7,hr_7,hF⟩ := bnd_some hF
   refine zQ (v := .bool r_7) hf hc en_48 rfl (fun w hc => by obtain ⟨G1,hle1,hrd1,hc,hth1⟩ := lend hc k2; obtain ⟨G2,hle2,hrd2,hc,hth2⟩ := lend hc k0; exact (kit_Same_int_ok r_4.1 ([5,3,1] : List Int) (hrd1.mono hle2) hrd2 hc hr_7).mono fun e w h => ⟨h.1,((hth1 _ _ ((hth2 _ _ h.2).unpick k0)).unpick k2)⟩) fun a w hf hc => sp 1 hf rfl fun a hf => ?_
   replace hc := hc.drop k0
   obtain rfl := sj hF
   exact cNil ⟨hf.kp rfl,hc⟩
 intro a w ⟨hf,hc⟩
 refine sp 1 hf rfl fun a hf => zT h ?_
 refine wp_ret ?_
 obtain rfl := sj hF
 replace hc := (((hc.drop k3).drop k2).drop k1).drop k0
 exact zO1 Tryz.results14 hf rfl ⟨rfl,hc⟩

end Go.Nilo
