/-
 What functions of the Go text compute, as plain functions, and that they do, part 4 of 5. Conditions: what each theorem names.
-/
import Derived.Test.YtpfmkhhhamdpeaaGreatTu3
import Derived.Test.YtpfmkhhhamdpeaaGreatProg
set_option linter.unusedVariables false
set_option linter.unusedSimpArgs false
set_option maxRecDepth 100000
set_option maxHeartbeats 4000000
namespace Go.Nilo
open Go.Proofs


def crew_every_crew_Ride_1 (x : crew_Ride) : Bool :=
 (!(crew_CheckCable_1 (⟨x.From,x.Long,x.Weight⟩ : crew_Ride)))
theorem crew_every_crew_Ride_1_ok {G : Pers} {Lf : List Ent} {w : World} (x : crew_Ride) {b_ : Nat}  (hc : Ctx G (.box b_ [.func (.func 91) #[] #[]] 155::Lf) w) {res : Bool} (hF : crew_every_crew_Ride_1 x = res) : Calls Tryz.prog 159 #[.agg #[i6 x.From,i6 x.Long,i6 x.Weight.Lo,i6 x.Weight.Hi],pq b_] w (fun e w => e = .returned (.bool res) ∧ Ctx G (.box b_ [.func (.func 91) #[] #[]] 155::Lf) w) := by
 unfold crew_every_crew_Ride_1 at hF
 refine fnIn (args := [.agg #[i6 x.From,i6 x.Long,i6 x.Weight.Lo,i6 x.Weight.Hi],pq b_]) Tryz.func159 rfl Tryz.ntmps159 rfl fun a hf => wp_seq_k fun K1 h1 => cReg ?_
 refine stBx (cs := [i6 x.From,i6 x.Long,i6 x.Weight.Lo,i6 x.Weight.Hi]) hf hc rfl rfl rfl rfl fun b_1 a w hf hc => stP hf rfl rfl rfl (pA rfl) fun a hf => cNil ?_
 refine h1 _ _ ?_
 refine wp_seq_k fun K2 h2 => cReg ?_
 refine stE hf hc rfl rfl rfl (eLd1 sc_155 rfl (cell_box m1 rfl)) fun a w hf hc => stE hf hc rfl rfl rfl (eLdN (vs := [i6 x.From,i6 x.Long,i6 x.Weight.Lo,i6 x.Weight.Hi]) ag_72 rfl rfl (cells_box (n := 4) m0 rfl)) fun a w hf hc => stE hf hc rfl rfl rfl (eC (v := .bool (crew_CheckCable_1 (⟨x.From,x.Long,x.Weight⟩ : crew_Ride))) (vs := [.agg #[i6 x.From,i6 x.Long,i6 x.Weight.Lo,i6 x.Weight.Hi]]) (caps := []) en_91 rfl rfl rfl rfl (fun w hc => crew_CheckCable_1_ok (⟨x.From,x.Long,x.Weight⟩ : crew_Ride) hc rfl)) fun a w hf hc => stP hf rfl rfl rfl (pNot rfl) fun a hf => stP hf rfl rfl rfl (pA rfl) fun a hf => cNil ?_
 refine h2 _ _ ?_
 refine wp_ret ?_
 obtain rfl := hF
 replace hc := hc.drop k0
 exact fnOut1 (by simp) rfl Tryz.results159 hf hc (show look _ 3 = _ from rfl) ⟨rfl,hc⟩

def slices_IndexFunc_Lcrew_Ride_crew_Ride_b4 (N : Nat) (s_ : List crew_Ride) (x : Int) : Option (Step (Int) (Int)) :=
 cond (decide (x < ((s_.length : Nat) : Int)))
 (Option.bind (getI s_ x) fun e_1 =>
 cond (crew_every_crew_Ride_1 e_1)
 (some (.ret x))
 (some (.cont (W (x + 1)))))
 (some (.brk x))
def slices_IndexFunc_Lcrew_Ride_crew_Ride (N : Nat) (s_ : List crew_Ride) : Option (Int) :=
 Option.bind (loopO (fun s4 => slices_IndexFunc_Lcrew_Ride_crew_Ride_b4 N s_ s4) N 0) fun x4 =>
 exK x4 (fun s4 => some (-1)) some
theorem slices_IndexFunc_Lcrew_Ride_crew_Ride_ok {N : Nat} {G : Pers} {Lf : List Ent} {w : World} (s_ : List crew_Ride) {s__p : Option Addr} {s__c : Nat} {b_ : Nat} (h_s_ : Rd G 4 s__p s__c (s_.map enc_crew_Ride)) (hc : Ctx G (.box b_ [.func (.func 91) #[] #[]] 155::Lf) w) {res : Int} (hF : slices_IndexFunc_Lcrew_Ride_crew_Ride N s_ = some res) : Calls Tryz.prog 185 #[.slice s__p s_.length s__c,.func (.func 159) #[] #[pq b_]] w (fun e w => e = .returned (i6 res) ∧ Ctx G (.box b_ [.func (.func 91) #[] #[]] 155::Lf) w) := by
 unfold slices_IndexFunc_Lcrew_Ride_crew_Ride at hF
 refine fnIn (args := [.slice s__p s_.length s__c,.func (.func 159) #[] #[pq b_]]) Tryz.func185 rfl Tryz.ntmps185 rfl fun a hf => wp_seq_k fun K1 h1 => cReg ?_
 refine stP hf rfl rfl rfl (pA rfl) fun a hf => cNil ?_
 refine h1 _ _ ?_
 refine wp_seq_k fun K2 h2 => wp_seq_k fun K3 h3 => cReg ?_
 refine stP hf rfl rfl rfl (pM rfl) fun a hf => stP hf rfl rfl rfl (pLenS Tryz.underlying52 rfl) fun a hf => stP hf rfl rfl rfl (pM rfl) fun a hf => cNil ?_
 refine h3 _ _ ?_
 refine wp_block ?_
 obtain ⟨x4,hx4,hF⟩ := bnd_some hF
 let S4 : Int → Act → World → Prop := (fun (zz : Int) a w => Has 19 a [(0,.slice s__p s_.length s__c),(1,.func (.func 159) #[] #[pq b_]),(7,i6 ((s_.length : Nat) : Int)),(8,i6 zz)] ∧ Ctx G (.box b_ [.func (.func 91) #[] #[]] 155::Lf) w)
 have hr4 : ∀ (zz : Int) a w,x4 = .go zz → S4 zz a w → K2 a w := by
  rintro x a w rfl ⟨hf,hc⟩
  replace hF := exK_go hF
  refine h2 _ _ ?_
  refine wp_seq_k fun K5 h5 => cReg ?_
  refine stP hf rfl rfl rfl (pA rfl) fun a hf => cNil ?_
  refine h5 _ _ ?_
  refine wp_ret ?_
  obtain rfl := sj hF
  exact fnOut1 (by simp) rfl Tryz.results185 hf hc (show look _ 4 = _ from rfl) ⟨rfl,hc⟩
 have ho4 : ∀ r,x4 = .out r → r = res := by
  rintro r rfl
  exact sj hF
 refine cLoop N (loopW (S := S4) (x := x4) ?_ N 0 _ _ ⟨hf.kp rfl,hc⟩ hx4)
 clear hF hf hc
 rintro x st4 a w KB4 ⟨hf,hc⟩ hF hfin4 hK4
 unfold slices_IndexFunc_Lcrew_Ride_crew_Ride_b4 at hF
 refine wp_seq_k fun K6 h6 => cReg ?_
 refine stP hf rfl rfl rfl (pLt rfl rfl) fun a hf => cNil ?_
 refine h6 _ _ ?_
 refine wp_seq_k fun K7 h7 => cCond (b := (decide (x < ((s_.length : Nat) : Int)))) hf rfl (fun hb => ?_) (fun hb => ?_)
 ·replace hF := condT hb hF
  clear hb
  refine wp_skip ?_
  refine h7 _ _ ?_
  refine wp_seq_k fun K8 h8 => wp_block ?_
  refine wp_seq_k fun K9 h9 => cReg ?_
  refine stP hf rfl rfl rfl (pM rfl) fun a hf => stP hf rfl rfl rfl (pA rfl) fun a hf => cNil ?_
  refine h9 _ _ ?_
  refine wp_seq_k fun K10 h10 => cReg ?_
  refine stP hf rfl rfl rfl (pM rfl) fun a hf => stP hf rfl rfl rfl (pM rfl) fun a hf => stP hf rfl rfl rfl (pM rfl) fun a hf => ?_
  obtain ⟨e_1,he_1,hF⟩ := bnd_some hF
  obtain ⟨b_1,o,qa,qp⟩ := h_s_.atm he_1
  refine stP hf rfl rfl rfl (pIA Tryz.underlying52 sz_72 rfl rfl qa) fun a hf => stE hf hc rfl rfl rfl (eLdN (vs := [i6 e_1.From,i6 e_1.Long,i6 e_1.Weight.Lo,i6 e_1.Weight.Hi]) ag_72 rfl rfl (cells_pc qp (n := 4) (o' := 0) rfl)) fun a w hf hc => stE hf hc rfl rfl rfl (eC (v := .bool (crew_every_crew_Ride_1 e_1)) (vs := [.agg #[i6 e_1.From,i6 e_1.Long,i6 e_1.Weight.Lo,i6 e_1.Weight.Hi]]) (caps := [pq b_]) en_159 rfl rfl rfl rfl (fun w hc => (crew_every_crew_Ride_1_ok e_1 (hc.pick k0) rfl).mono fun e w h => ⟨h.1,(h.2.unpick k0)⟩)) fun a w hf hc => cNil ?_
  refine h10 _ _ ?_
  refine cCond (b := (crew_every_crew_Ride_1 e_1)) hf rfl (fun hb => ?_) (fun hb => ?_)
  ·replace hF := condT hb hF
   clear hb
   refine wp_seq_k fun K11 h11 => cReg ?_
   refine stP hf rfl rfl rfl (pM rfl) fun a hf => stP hf rfl rfl rfl (pA rfl) fun a hf => cNil ?_
   refine h11 _ _ ?_
   refine wp_ret ?_
   refine xBlkR ?_
   refine xThenR ?_
   refine xThenR ?_
   have he := sj hF
   rw [← he] at hfin4
   replace hF := ho4 _ hfin4
   refine xBlkR ?_
   refine xThenR ?_
   obtain rfl := hF
   exact fnOut1 (by simp) rfl Tryz.results185 hf hc (show look _ 4 = _ from rfl) ⟨rfl,hc⟩
  ·replace hF := condF hb hF
   clear hb
   refine wp_skip ?_
   refine h8 _ _ ?_
   refine cReg ?_
   refine stP hf rfl rfl rfl (pAdd rfl rfl) fun a hf => stP hf rfl rfl rfl (pM rfl) fun a hf => cNil ?_
   exact hK4 (W (x + 1)) _ _ (sj hF).symm ⟨hf.kp rfl,hc⟩
 ·replace hF := condF hb hF
  clear hb
  refine wp_exit ?_
  refine xThen ?_
  refine xThen ?_
  have he := sj hF
  rw [← he] at hfin4
  refine cHit ?_
  exact hr4 _ _ _ hfin4 ⟨hf.kp rfl,hc⟩

def slices_ContainsFunc_Lcrew_Ride_crew_Ride (N : Nat) (s_ : List crew_Ride) : Option (Bool) :=
 Option.bind (slices_IndexFunc_Lcrew_Ride_crew_Ride N s_) fun r =>
 some (decide (0 ≤ r))
theorem slices_ContainsFunc_Lcrew_Ride_crew_Ride_ok {N : Nat} {G : Pers} {Lf : List Ent} {w : World} (s_ : List crew_Ride) {s__p : Option Addr} {s__c : Nat} {b_ : Nat} (h_s_ : Rd G 4 s__p s__c (s_.map enc_crew_Ride)) (hc : Ctx G (.box b_ [.func (.func 91) #[] #[]] 155::Lf) w) {res : Bool} (hF : slices_ContainsFunc_Lcrew_Ride_crew_Ride N s_ = some res) : Calls Tryz.prog 158 #[.slice s__p s_.length s__c,.func (.func 159) #[] #[pq b_]] w (fun e w => e = .returned (.bool res) ∧ Ctx G (.box b_ [.func (.func 91) #[] #[]] 155::Lf) w) := by
 unfold slices_ContainsFunc_Lcrew_Ride_crew_Ride at hF
 refine fnIn (args := [.slice s__p s_.length s__c,.func (.func 159) #[] #[pq b_]]) Tryz.func158 rfl Tryz.ntmps158 rfl fun a hf => wp_seq_k fun K1 h1 => cReg ?_
 refine stP hf rfl rfl rfl (pA rfl) fun a hf => cNil ?_
 refine h1 _ _ ?_
 refine wp_seq_k fun K2 h2 => cReg ?_
 refine stP hf rfl rfl rfl (pM rfl) fun a hf => stP hf rfl rfl rfl (pM rfl) fun a hf => ?_
 obtain ⟨r,hr,hF⟩ := bnd_some hF
 refine stE hf hc rfl rfl rfl (eC (v := i6 r) (vs := [.slice s__p s_.length s__c,.func (.func 159) #[] #[pq b_]]) (caps := []) en_185 rfl rfl rfl rfl (fun w hc => (slices_IndexFunc_Lcrew_Ride_crew_Ride_ok s_ h_s_ (hc.pick k0) hr).mono fun e w h => ⟨h.1,(h.2.unpick k0)⟩)) fun a w hf hc => stP hf rfl rfl rfl (pGe rfl rfl) fun a hf => stP hf rfl rfl rfl (pA rfl) fun a hf => cNil ?_
 refine h2 _ _ ?_
 refine wp_ret ?_
 obtain rfl := sj hF
 exact fnOut1 (by simp) rfl Tryz.results158 hf hc (show look _ 4 = _ from rfl) ⟨rfl,hc⟩

def crew_every_crew_Ride (N : Nat) (l : List crew_Ride) : Option (Bool) :=
 Option.bind (slices_ContainsFunc_Lcrew_Ride_crew_Ride N l) fun r =>
 some (!r)
theorem crew_every_crew_Ride_ok {N : Nat} {G : Pers} {Lf : List Ent} {w : World} (l : List crew_Ride) {l_p : Option Addr} {l_c : Nat} (h_l : Rd G 4 l_p l_c (l.map enc_crew_Ride)) (hc : Ctx G (Lf) w) {res : Bool} (hF : crew_every_crew_Ride N l = some res) : Calls Tryz.prog 90 #[.slice l_p l.length l_c,.func (.func 91) #[] #[]] w (fun e w => e = .returned (.bool res) ∧ Ctx G (Lf) w) := by
 unfold crew_every_crew_Ride at hF
 refine fnIn (args := [.slice l_p l.length l_c,.func (.func 91) #[] #[]]) Tryz.func90 rfl Tryz.ntmps90 rfl fun a hf => wp_seq_k fun K1 h1 => cReg ?_
 refine stBx (cs := [.func (.func 91) #[] #[]]) hf hc rfl rfl rfl rfl fun b_1 a w hf hc => stP hf rfl rfl rfl (pA rfl) fun a hf => cNil ?_
 refine h1 _ _ ?_
 refine wp_seq_k fun K2 h2 => cReg ?_
 refine stP hf rfl rfl rfl (pM rfl) fun a hf => stP hf rfl rfl rfl (pMF (us := [pq b_1]) rfl rfl) fun a hf => ?_
 obtain ⟨r,hr,hF⟩ := bnd_some hF
 refine stE hf hc rfl rfl rfl (eC (v := .bool r) (vs := [.slice l_p l.length l_c,.func (.func 159) #[] #[pq b_1]]) (caps := []) en_158 rfl rfl rfl rfl (fun w hc => (slices_ContainsFunc_Lcrew_Ride_crew_Ride_ok l h_l (hc.pick k0) hr).mono fun e w h => ⟨h.1,(h.2.unpick k0)⟩)) fun a w hf hc => stP hf rfl rfl rfl (pNot rfl) fun a hf => stP hf rfl rfl rfl (pA rfl) fun a hf => cNil ?_
 refine h2 _ _ ?_
 refine wp_ret ?_
 obtain rfl := sj hF
 replace hc := hc.drop k0
 exact fnOut1 (by simp) rfl Tryz.results90 hf hc (show look _ 4 = _ from rfl) ⟨rfl,hc⟩

def crew_CheckCable (N : Nat) (c_ : crew_Cable) : Option (Int) :=
 cond (decide (30 < ((c_.Rides.length : Nat) : Int)))
 (some 3)
 (Option.bind (cond ((((!(crew_in c_.Car 0 1000)) || (!(crew_in c_.Wide 1 1000))) || (!(crew_in c_.Sag 1 10000))) || (!(crew_in c_.Most 0 10000000))) (some true) (Option.bind (crew_every_crew_Ride N c_.Rides) fun r =>
 some (!r))) fun t_1 =>
 cond t_1
 (some 120)
 (some 0))
theorem crew_CheckCable_ok {N : Nat} {G : Pers} {Lf : List Ent} {w : World} (c_ : crew_Cable) {c__Rides_p : Option Addr} {c__Rides_c : Nat} (h_c__Rides : Rd G 4 c__Rides_p c__Rides_c (c_.Rides.map enc_crew_Ride)) (hc : Ctx G (Lf) w) {res : Int} (hF : crew_CheckCable N c_ = some res) : Calls Tryz.prog 31 #[.agg #[i6 c_.Car,i6 c_.Wide,i6 c_.Sag,i6 c_.Most,.slice c__Rides_p c_.Rides.length c__Rides_c]] w (fun e w => e = .returned (i6 res) ∧ Ctx G (Lf) w) := by
 unfold crew_CheckCable at hF
 refine fnIn (args := [.agg #[i6 c_.Car,i6 c_.Wide,i6 c_.Sag,i6 c_.Most,.slice c__Rides_p c_.Rides.length c__Rides_c]]) Tryz.func31 rfl Tryz.ntmps31 rfl fun a hf => wp_seq_k fun K1 h1 => cReg ?_
 refine stBx (cs := [i6 c_.Car,i6 c_.Wide,i6 c_.Sag,i6 c_.Most,.slice c__Rides_p c_.Rides.length c__Rides_c]) hf hc rfl rfl rfl rfl fun b_1 a w hf hc => stP hf rfl rfl rfl (pA rfl) fun a hf => cNil ?_
 refine h1 _ _ ?_
 refine wp_seq_k fun K2 h2 => wp_block ?_
 refine wp_seq_k fun K3 h3 => cReg ?_
 refine stP hf rfl rfl rfl (pFA fa_54_4 rfl) fun a hf => stE hf hc rfl rfl rfl (eLd1 sc_52 rfl (cell_box m0 rfl)) fun a w hf hc => stP hf rfl rfl rfl (pLenS Tryz.underlying52 rfl) fun a hf => stP hf rfl rfl rfl (pGt rfl rfl) fun a hf => stP hf rfl rfl rfl (pA rfl) fun a hf => cNil ?_
 refine h3 _ _ ?_
 refine cCond (b := (decide (30 < ((c_.Rides.length : Nat) : Int)))) hf rfl (fun hb => ?_) (fun hb => ?_)
 ·replace hF := condT hb hF
  clear hb
  refine wp_seq_k fun K4 h4 => cReg ?_
  refine stP hf rfl rfl rfl (pA rfl) fun a hf => cNil ?_
  refine h4 _ _ ?_
  refine wp_ret ?_
  refine xBlkR ?_
  refine xThenR ?_
  obtain rfl := sj hF
  replace hc := hc.drop k0
  exact fnOut1 (by simp) rfl Tryz.results31 hf hc (show look _ 2 = _ from rfl) ⟨rfl,hc⟩
 ·replace hF := condF hb hF
  clear hb
  refine wp_seq_k fun K5 h5 => cReg ?_
  refine stP hf rfl rfl rfl (pFA fa_54_0 rfl) fun a hf => stE hf hc rfl rfl rfl (eLd1 sc_3 rfl (cell_box m0 rfl)) fun a w hf hc => stE hf hc rfl rfl rfl (eC (v := .bool (crew_in c_.Car 0 1000)) (vs := [i6 c_.Car,i6 0,i6 1000]) (caps := []) en_86 rfl rfl rfl rfl (fun w hc => crew_in_ok c_.Car 0 1000 hc rfl)) fun a w hf hc => stP hf rfl rfl rfl (pNot rfl) fun a hf => stP hf rfl rfl rfl (pM rfl) fun a hf => stCut 5 (fun a w => Has 37 a [(1,pq b_1),(9,pq b_1),(10,i6 c_.Car),(11,.bool (crew_in c_.Car 0 1000)),(12,.bool (!(crew_in c_.Car 0 1000))),(13,.bool (!(crew_in c_.Car 0 1000))),(18,.bool ((!(crew_in c_.Car 0 1000)) || (!(crew_in c_.Wide 1 1000))))] ∧ Ctx G (.box b_1 [i6 c_.Car,i6 c_.Wide,i6 c_.Sag,i6 c_.Most,.slice c__Rides_p c_.Rides.length c__Rides_c] 54::Lf) w) ?_ ?_
  ·cases hb : (!(crew_in c_.Car 0 1000))
   ·rw [hb] at hf
    refine stP hf rfl rfl rfl (pFA fa_54_1 rfl) fun a hf => stE hf hc rfl rfl rfl (eLd1 sc_3 rfl (cell_box m0 rfl)) fun a w hf hc => stE hf hc rfl rfl rfl (eC (v := .bool (crew_in c_.Wide 1 1000)) (vs := [i6 c_.Wide,i6 1,i6 1000]) (caps := []) en_86 rfl rfl rfl rfl (fun w hc => crew_in_ok c_.Wide 1 1000 hc rfl)) fun a w hf hc => stP hf rfl rfl rfl (pNot rfl) fun a hf => stP hf rfl rfl rfl (pPf rfl rfl) fun a hf => cNil ⟨hf.kp rfl,hc⟩
   ·rw [hb] at hf
    refine stS hf rfl rfl rfl fun a hf => stS hf rfl rfl rfl fun a hf => stS hf rfl rfl rfl fun a hf => stS hf rfl rfl rfl fun a hf => stP hf rfl rfl rfl (pPt rfl rfl) fun a hf => cNil ⟨hf.kp rfl,hc⟩
  intro a w ⟨hf,hc⟩
  refine stP hf rfl rfl rfl (pM rfl) fun a hf => stCut 5 (fun a w => Has 37 a [(1,pq b_1),(9,pq b_1),(10,i6 c_.Car),(11,.bool (crew_in c_.Car 0 1000)),(12,.bool (!(crew_in c_.Car 0 1000))),(13,.bool (!(crew_in c_.Car 0 1000))),(18,.bool ((!(crew_in c_.Car 0 1000)) || (!(crew_in c_.Wide 1 1000)))),(19,.bool ((!(crew_in c_.Car 0 1000)) || (!(crew_in c_.Wide 1 1000)))),(24,.bool (((!(crew_in c_.Car 0 1000)) || (!(crew_in c_.Wide 1 1000))) || (!(crew_in c_.Sag 1 10000))))] ∧ Ctx G (.box b_1 [i6 c_.Car,i6 c_.Wide,i6 c_.Sag,i6 c_.Most,.slice c__Rides_p c_.Rides.length c__Rides_c] 54::Lf) w) ?_ ?_
  ·cases hb : ((!(crew_in c_.Car 0 1000)) || (!(crew_in c_.Wide 1 1000)))
   ·rw [hb] at hf
    refine stP hf rfl rfl rfl (pFA fa_54_2 rfl) fun a hf => stE hf hc rfl rfl rfl (eLd1 sc_3 rfl (cell_box m0 rfl)) fun a w hf hc => stE hf hc rfl rfl rfl (eC (v := .bool (crew_in c_.Sag 1 10000)) (vs := [i6 c_.Sag,i6 1,i6 10000]) (caps := []) en_86 rfl rfl rfl rfl (fun w hc => crew_in_ok c_.Sag 1 10000 hc rfl)) fun a w hf hc => stP hf rfl rfl rfl (pNot rfl) fun a hf => stP hf rfl rfl rfl (pPf rfl rfl) fun a hf => cNil ⟨hf.kp rfl,hc⟩
   ·rw [hb] at hf
    refine stS hf rfl rfl rfl fun a hf => stS hf rfl rfl rfl fun a hf => stS hf rfl rfl rfl fun a hf => stS hf rfl rfl rfl fun a hf => stP hf rfl rfl rfl (pPt rfl rfl) fun a hf => cNil ⟨hf.kp rfl,hc⟩
  intro a w ⟨hf,hc⟩
  refine stP hf rfl rfl rfl (pM rfl) fun a hf => stCut 5 (fun a w => Has 37 a [(1,pq b_1),(9,pq b_1),(10,i6 c_.Car),(11,.bool (crew_in c_.Car 0 1000)),(12,.bool (!(crew_in c_.Car 0 1000))),(13,.bool (!(crew_in c_.Car 0 1000))),(18,.bool ((!(crew_in c_.Car 0 1000)) || (!(crew_in c_.Wide 1 1000)))),(19,.bool ((!(crew_in c_.Car 0 1000)) || (!(crew_in c_.Wide 1 1000)))),(24,.bool (((!(crew_in c_.Car 0 1000)) || (!(crew_in c_.Wide 1 1000))) || (!(crew_in c_.Sag 1 10000)))),(25,.bool (((!(crew_in c_.Car 0 1000)) || (!(crew_in c_.Wide 1 1000))) || (!(crew_in c_.Sag 1 10000)))),(30,.bool ((((!(crew_in c_.Car 0 1000)) || (!(crew_in c_.Wide 1 1000))) || (!(crew_in c_.Sag 1 10000))) || (!(crew_in c_.Most 0 10000000))))] ∧ Ctx G (.box b_1 [i6 c_.Car,i6 c_.Wide,i6 c_.Sag,i6 c_.Most,.slice c__Rides_p c_.Rides.length c__Rides_c] 54::Lf) w) ?_ ?_
  ·cases hb : (((!(crew_in c_.Car 0 1000)) || (!(crew_in c_.Wide 1 1000))) || (!(crew_in c_.Sag 1 10000)))
   ·rw [hb] at hf
    refine stP hf rfl rfl rfl (pFA fa_54_3 rfl) fun a hf => stE hf hc rfl rfl rfl (eLd1 sc_3 rfl (cell_box m0 rfl)) fun a w hf hc => stE hf hc rfl rfl rfl (eC (v := .bool (crew_in c_.Most 0 10000000)) (vs := [i6 c_.Most,i6 0,i6 10000000]) (caps := []) en_86 rfl rfl rfl rfl (fun w hc => crew_in_ok c_.Most 0 10000000 hc rfl)) fun a w hf hc => stP hf rfl rfl rfl (pNot rfl) fun a hf => stP hf rfl rfl rfl (pPf rfl rfl) fun a hf => cNil ⟨hf.kp rfl,hc⟩
   ·rw [hb] at hf
    refine stS hf rfl rfl rfl fun a hf => stS hf rfl rfl rfl fun a hf => stS hf rfl rfl rfl fun a hf => stS hf rfl rfl rfl fun a hf => stP hf rfl rfl rfl (pPt rfl rfl) fun a hf => cNil ⟨hf.kp rfl,hc⟩
  intro a w ⟨hf,hc⟩
  refine stP hf rfl rfl rfl (pM rfl) fun a hf => ?_
  obtain ⟨t_1,ht_1,hF⟩ := bnd_some hF
  refine stCut 5 (fun a w => Has 37 a [(1,pq b_1),(9,pq b_1),(10,i6 c_.Car),(11,.bool (crew_in c_.Car 0 1000)),(12,.bool (!(crew_in c_.Car 0 1000))),(13,.bool (!(crew_in c_.Car 0 1000))),(18,.bool ((!(crew_in c_.Car 0 1000)) || (!(crew_in c_.Wide 1 1000)))),(19,.bool ((!(crew_in c_.Car 0 1000)) || (!(crew_in c_.Wide 1 1000)))),(24,.bool (((!(crew_in c_.Car 0 1000)) || (!(crew_in c_.Wide 1 1000))) || (!(crew_in c_.Sag 1 10000)))),(25,.bool (((!(crew_in c_.Car 0 1000)) || (!(crew_in c_.Wide 1 1000))) || (!(crew_in c_.Sag 1 10000)))),(30,.bool ((((!(crew_in c_.Car 0 1000)) || (!(crew_in c_.Wide 1 1000))) || (!(crew_in c_.Sag 1 10000))) || (!(crew_in c_.Most 0 10000000)))),(31,.bool ((((!(crew_in c_.Car 0 1000)) || (!(crew_in c_.Wide 1 1000))) || (!(crew_in c_.Sag 1 10000))) || (!(crew_in c_.Most 0 10000000)))),(36,.bool t_1)] ∧ Ctx G (.box b_1 [i6 c_.Car,i6 c_.Wide,i6 c_.Sag,i6 c_.Most,.slice c__Rides_p c_.Rides.length c__Rides_c] 54::Lf) w) ?_ ?_
  ·cases hb : ((((!(crew_in c_.Car 0 1000)) || (!(crew_in c_.Wide 1 1000))) || (!(crew_in c_.Sag 1 10000))) || (!(crew_in c_.Most 0 10000000)))
   ·rw [hb] at hf
    have hF := condF hb ht_1
    refine stP hf rfl rfl rfl (pFA fa_54_4 rfl) fun a hf => stE hf hc rfl rfl rfl (eLd1 sc_52 rfl (cell_box m0 rfl)) fun a w hf hc => ?_
    obtain ⟨r,hr,hF⟩ := bnd_some hF
    refine stE hf hc rfl rfl rfl (eC (v := .bool r) (vs := [.slice c__Rides_p c_.Rides.length c__Rides_c,.func (.func 91) #[] #[]]) (caps := []) en_90 rfl rfl rfl rfl (fun w hc => crew_every_crew_Ride_ok c_.Rides h_c__Rides hc hr)) fun a w hf hc => stP hf rfl rfl rfl (pNot rfl) fun a hf => stP hf rfl rfl rfl (pPf rfl rfl) fun a hf => ?_
    obtain rfl := sj hF
    exact cNil ⟨hf.kp rfl,hc⟩
   ·rw [hb] at hf
    have hF := condT hb ht_1
    obtain rfl := sj hF
    refine stS hf rfl rfl rfl fun a hf => stS hf rfl rfl rfl fun a hf => stS hf rfl rfl rfl fun a hf => stS hf rfl rfl rfl fun a hf => stP hf rfl rfl rfl (pPt rfl rfl) fun a hf => cNil ⟨hf.kp rfl,hc⟩
  intro a w ⟨hf,hc⟩
  refine stP hf rfl rfl rfl (pA rfl) fun a hf => cNil ?_
  refine h5 _ _ ?_
  refine cCond (b := t_1) hf rfl (fun hb => ?_) (fun hb => ?_)
  ·replace hF := condT hb hF
   clear hb
   refine wp_seq_k fun K6 h6 => cReg ?_
   refine stP hf rfl rfl rfl (pA rfl) fun a hf => cNil ?_
   refine h6 _ _ ?_
   refine wp_ret ?_
   refine xBlkR ?_
   refine xThenR ?_
   obtain rfl := sj hF
   replace hc := hc.drop k0
   exact fnOut1 (by simp) rfl Tryz.results31 hf hc (show look _ 2 = _ from rfl) ⟨rfl,hc⟩
  ·replace hF := condF hb hF
   clear hb
   refine wp_skip ?_
   refine h2 _ _ ?_
   refine wp_seq_k fun K7 h7 => cReg ?_
   refine stP hf rfl rfl rfl (pA rfl) fun a hf => cNil ?_
   refine h7 _ _ ?_
   refine wp_ret ?_
   obtain rfl := sj hF
   replace hc := hc.drop k0
   exact fnOut1 (by simp) rfl Tryz.results31 hf hc (show look _ 2 = _ from rfl) ⟨rfl,hc⟩

def crew_Ride_on (r : crew_Ride) (n : Int) : Bool :=
 ((decide (r.From ≤ n)) && (decide ((W (n - r.From)) < r.Long)))
theorem crew_Ride_on_ok {G : Pers} {Lf : List Ent} {w : World} (r : crew_Ride) (n : Int)   (hc : Ctx G (Lf) w) {res : Bool} (hF : crew_Ride_on r n = res) : Calls Tryz.prog 104 #[.agg #[i6 r.From,i6 r.Long,i6 r.Weight.Lo,i6 r.Weight.Hi],i6 n] w (fun e w => e = .returned (.bool res) ∧ Ctx G (Lf) w) := by
 unfold crew_Ride_on at hF
 refine fnIn (args := [.agg #[i6 r.From,i6 r.Long,i6 r.Weight.Lo,i6 r.Weight.Hi],i6 n]) Tryz.func104 rfl Tryz.ntmps104 rfl fun a hf => wp_seq_k fun K1 h1 => cReg ?_
 refine stBx (cs := [i6 r.From,i6 r.Long,i6 r.Weight.Lo,i6 r.Weight.Hi]) hf hc rfl rfl rfl rfl fun b_1 a w hf hc => stP hf rfl rfl rfl (pA rfl) fun a hf => cNil ?_
 refine h1 _ _ ?_
 refine wp_seq_k fun K2 h2 => cReg ?_
 refine stP hf rfl rfl rfl (pM rfl) fun a hf => stP hf rfl rfl rfl (pFA fa_72_0 rfl) fun a hf => stE hf hc rfl rfl rfl (eLd1 sc_3 rfl (cell_box m0 rfl)) fun a w hf hc => stP hf rfl rfl rfl (pGe rfl rfl) fun a hf => stP hf rfl rfl rfl (pM rfl) fun a hf => stCut 8 (fun a w => Has 18 a [(1,i6 n),(2,pq b_1),(4,.bool false),(5,i6 n),(6,pq b_1),(7,i6 r.From),(8,.bool (decide (r.From ≤ n))),(9,.bool (decide (r.From ≤ n))),(17,.bool ((decide (r.From ≤ n)) && (decide ((W (n - r.From)) < r.Long))))] ∧ Ctx G (.box b_1 [i6 r.From,i6 r.Long,i6 r.Weight.Lo,i6 r.Weight.Hi] 72::Lf) w) ?_ ?_
 ·cases hb : (decide (r.From ≤ n))
  ·rw [hb] at hf
   refine stS hf rfl rfl rfl fun a hf => stS hf rfl rfl rfl fun a hf => stS hf rfl rfl rfl fun a hf => stS hf rfl rfl rfl fun a hf => stS hf rfl rfl rfl fun a hf => stS hf rfl rfl rfl fun a hf => stS hf rfl rfl rfl fun a hf => stP hf rfl rfl rfl (pPf rfl rfl) fun a hf => cNil ⟨hf.kp rfl,hc⟩
  ·rw [hb] at hf
   refine stP hf rfl rfl rfl (pM rfl) fun a hf => stP hf rfl rfl rfl (pFA fa_72_0 rfl) fun a hf => stE hf hc rfl rfl rfl (eLd1 sc_3 rfl (cell_box m0 rfl)) fun a w hf hc => stP hf rfl rfl rfl (pSub rfl rfl) fun a hf => stP hf rfl rfl rfl (pFA fa_72_1 rfl) fun a hf => stE hf hc rfl rfl rfl (eLd1 sc_3 rfl (cell_box m0 rfl)) fun a w hf hc => stP hf rfl rfl rfl (pLt rfl rfl) fun a hf => stP hf rfl rfl rfl (pPt rfl rfl) fun a hf => cNil ⟨hf.kp rfl,hc⟩
 intro a w ⟨hf,hc⟩
 refine stP hf rfl rfl rfl (pA rfl) fun a hf => cNil ?_
 refine h2 _ _ ?_
 refine wp_ret ?_
 obtain rfl := hF
 replace hc := hc.drop k0
 exact fnOut1 (by simp) rfl Tryz.results104 hf hc (show look _ 4 = _ from rfl) ⟨rfl,hc⟩

def crew_sum_b5 (N : Nat) (l : List Int) (out : Int) (x : Int) : Option (Step (Int × Int) (Int)) :=
 cond (decide (x < ((l.length : Nat) : Int)))
 (Option.bind (getI l x) fun e_1 =>
 some (.cont (W (out + e_1),W (x + 1))))
 (some (.brk (out,x)))
def crew_sum (N : Nat) (l : List Int) : Option (Int) :=
 Option.bind (loopO (fun s5 => crew_sum_b5 N l s5.1 s5.2) N (0,0)) fun x5 =>
 exK x5 (fun s5 => some s5.1) some
theorem crew_sum_ok {N : Nat} {G : Pers} {Lf : List Ent} {w : World} (l : List Int) {l_p : Option Addr} {l_c : Nat} (h_l : Rd G 1 l_p l_c (l.map encI_i64)) (hc : Ctx G (Lf) w) {res : Int} (hF : crew_sum N l = some res) : Calls Tryz.prog 160 #[.slice l_p l.length l_c] w (fun e w => e = .returned (i6 res) ∧ Ctx G (Lf) w) := by
 unfold crew_sum at hF
 refine fnIn (args := [.slice l_p l.length l_c]) Tryz.func160 rfl Tryz.ntmps160 rfl fun a hf => wp_seq_k fun K1 h1 => cReg ?_
 refine stP hf rfl rfl rfl (pA rfl) fun a hf => cNil ?_
 refine h1 _ _ ?_
 refine wp_seq_k fun K2 h2 => cReg ?_
 refine stP hf rfl rfl rfl (pA rfl) fun a hf => cNil ?_
 refine h2 _ _ ?_
 refine wp_seq_k fun K3 h3 => wp_seq_k fun K4 h4 => cReg ?_
 refine stP hf rfl rfl rfl (pM rfl) fun a hf => stP hf rfl rfl rfl (pLenS Tryz.underlying25 rfl) fun a hf => stP hf rfl rfl rfl (pM rfl) fun a hf => cNil ?_
 refine h4 _ _ ?_
 refine wp_block ?_
 obtain ⟨x5,hx5,hF⟩ := bnd_some hF
 let S5 : (Int × Int) → Act → World → Prop := (fun (zz : Int × Int) a w => Has 17 a [(3,i6 zz.1),(6,.slice l_p l.length l_c),(7,i6 ((l.length : Nat) : Int)),(8,i6 zz.2)] ∧ Ctx G (Lf) w)
 have hr5 : ∀ (zz : Int × Int) a w,x5 = .go zz → S5 zz a w → K3 a w := by
  rintro ⟨out,x⟩ a w rfl ⟨hf,hc⟩
  replace hF := exK_go hF
  refine h3 _ _ ?_
  refine wp_seq_k fun K6 h6 => cReg ?_
  refine stP hf rfl rfl rfl (pM rfl) fun a hf => stP hf rfl rfl rfl (pA rfl) fun a hf => cNil ?_
  refine h6 _ _ ?_
  refine wp_ret ?_
  obtain rfl := sj hF
  exact fnOut1 (by simp) rfl Tryz.results160 hf hc (show look _ 2 = _ from rfl) ⟨rfl,hc⟩
 have ho5 : ∀ r,x5 = .out r → r = res := by
  rintro r rfl
  exact sj hF
 refine cLoop N (loopW (S := S5) (x := x5) ?_ N (0,0) _ _ ⟨hf.kp rfl,hc⟩ hx5)
 clear hF hf hc
 rintro ⟨out,x⟩ st5 a w KB5 ⟨hf,hc⟩ hF hfin5 hK5
 unfold crew_sum_b5 at hF
 refine wp_seq_k fun K7 h7 => cReg ?_
 refine stP hf rfl rfl rfl (pLt rfl rfl) fun a hf => cNil ?_
 refine h7 _ _ ?_
 refine wp_seq_k fun K8 h8 => cCond (b := (decide (x < ((l.length : Nat) : Int)))) hf rfl (fun hb => ?_) (fun hb => ?_)
 ·replace hF := condT hb hF
  clear hb
  refine wp_skip ?_
  refine h8 _ _ ?_
  refine wp_seq_k fun K9 h9 => wp_block ?_
  refine wp_seq_k fun K10 h10 => cReg ?_
  obtain ⟨e_1,he_1,hF⟩ := bnd_some hF
  obtain ⟨b_1,o,qa,qp⟩ := h_l.atm he_1
  refine stP hf rfl rfl rfl (pIA Tryz.underlying25 sz_3 rfl rfl qa) fun a hf => stE hf hc rfl rfl rfl (eLd1 sc_3 rfl (cell_pc (j := 0) qp rfl)) fun a w hf hc => stP hf rfl rfl rfl (pA rfl) fun a hf => cNil ?_
  refine h10 _ _ ?_
  refine cReg ?_
  refine stP hf rfl rfl rfl (pM rfl) fun a hf => stP hf rfl rfl rfl (pM rfl) fun a hf => stP hf rfl rfl rfl (pAdd rfl rfl) fun a hf => stP hf rfl rfl rfl (pA rfl) fun a hf => cNil ?_
  refine h9 _ _ ?_
  refine cReg ?_
  refine stP hf rfl rfl rfl (pAdd rfl rfl) fun a hf => stP hf rfl rfl rfl (pM rfl) fun a hf => cNil ?_
  exact hK5 (W (out + e_1),W (x + 1)) _ _ (sj hF).symm ⟨hf.kp rfl,hc⟩
 ·replace hF := condF hb hF
  clear hb
  refine wp_exit ?_
  refine xThen ?_
  refine xThen ?_
  have he := sj hF
  rw [← he] at hfin5
  refine cHit ?_
  exact hr5 _ _ _ hfin5 ⟨hf.kp rfl,hc⟩

def crew_Cable_load_j9 (N : Nat) (x : Int) (l_1 : List Int) : Option (Step ((List Int) × Int) (Int)) :=
 some (.cont (l_1,W (x + 1)))
def crew_Cable_load_b5 (N : Nat) (c_ : crew_Cable) (n : Int) (l : List Int) (x : Int) : Option (Step ((List Int) × Int) (Int)) :=
 cond (decide (x < ((c_.Rides.length : Nat) : Int)))
 (Option.bind (getI c_.Rides x) fun e_1 =>
 cond (crew_Ride_on e_1 n)
 (Option.bind (room ((l ++ [(crew_low_1 e_1.Weight)])).length) fun un =>
 crew_Cable_load_j9 N x (l ++ [(crew_low_1 e_1.Weight)]))
 (crew_Cable_load_j9 N x l))
 (some (.brk (l,x)))
def crew_Cable_load (N : Nat) (c_ : crew_Cable) (n : Int) : Option (Int) :=
 Option.bind (loopO (fun s5 => crew_Cable_load_b5 N c_ n s5.1 s5.2) N (([c_.Car] : List Int),0)) fun x5 =>
 exK x5 (fun s5 => Option.bind (crew_sum N s5.1) fun r =>
 some r) some
theorem crew_Cable_load_ok {N : Nat} {G : Pers} {Lf : List Ent} {w : World} (c_ : crew_Cable) (n : Int) {c__Rides_p : Option Addr} {c__Rides_c : Nat} (h_c__Rides : Rd G 4 c__Rides_p c__Rides_c (c_.Rides.map enc_crew_Ride)) (hc : Ctx G (Lf) w) {res : Int} (hF : crew_Cable_load N c_ n = some res) : Calls Tryz.prog 93 #[.agg #[i6 c_.Car,i6 c_.Wide,i6 c_.Sag,i6 c_.Most,.slice c__Rides_p c_.Rides.length c__Rides_c],i6 n,.agg #[.func (.func 155) #[] #[]]] w (fun e w => e = .returned (i6 res) ∧ Ctx G (Lf) w) := by
 unfold crew_Cable_load at hF
 refine fnIn (args := [.agg #[i6 c_.Car,i6 c_.Wide,i6 c_.Sag,i6 c_.Most,.slice c__Rides_p c_.Rides.length c__Rides_c],i6 n,.agg #[.func (.func 155) #[] #[]]]) Tryz.func93 rfl Tryz.ntmps93 rfl fun a hf => wp_seq_k fun K1 h1 => cReg ?_
 refine stBx (cs := [i6 c_.Car,i6 c_.Wide,i6 c_.Sag,i6 c_.Most,.slice c__Rides_p c_.Rides.length c__Rides_c]) hf hc rfl rfl rfl rfl fun b_1 a w hf hc => stBx (cs := [.func (.func 155) #[] #[]]) hf hc rfl rfl rfl rfl fun b_2 a w hf hc => stP hf rfl rfl rfl (pA rfl) fun a hf => cNil ?_
 refine h1 _ _ ?_
 refine wp_seq_k fun K2 h2 => cReg ?_
 refine stP hf rfl rfl rfl (pFA fa_54_0 rfl) fun a hf => stE hf hc rfl rfl rfl (eLd1 sc_3 rfl (cell_box m1 rfl)) fun a w hf hc => stBS (rows := ([c_.Car] : List Int).map encI_i64) (vs := [(0,i6 c_.Car)]) hf hc rfl rfl sl_25 rfl ⟨rfl,rfl,rfl,trivial⟩ rfl rfl fun b_3 a w hf hc => stP hf rfl rfl rfl (pA rfl) fun a hf => cNil ?_
 refine h2 _ _ ?_
 refine wp_seq_k fun K3 h3 => wp_seq_k fun K4 h4 => cReg ?_
 refine stP hf rfl rfl rfl (pFA fa_54_4 rfl) fun a hf => stE hf hc rfl rfl rfl (eLd1 sc_52 rfl (cell_box m2 rfl)) fun a w hf hc => stP hf rfl rfl rfl (pLenS Tryz.underlying52 rfl) fun a hf => stP hf rfl rfl rfl (pM rfl) fun a hf => cNil ?_
 refine h4 _ _ ?_
 refine wp_block ?_
 obtain ⟨x5,hx5,hF⟩ := bnd_some hF
 let S5 : ((List Int) × Int) → Act → World → Prop := (fun (zz : (List Int) × Int) a w => ∃ (p_1 : Option Addr) (c_1 : Nat),Has 34 a [(1,i6 n),(5,pq b_2),(7,.slice p_1 zz.1.length c_1),(14,.slice c__Rides_p c_.Rides.length c__Rides_c),(15,i6 ((c_.Rides.length : Nat) : Int)),(16,i6 zz.2)] ∧ Ctx G (.row p_1 c_1 (zz.1.map encI_i64) 3 1::.box b_2 [.func (.func 155) #[] #[]] 147::Lf) w)
 have hr5 : ∀ (zz : (List Int) × Int) a w,x5 = .go zz → S5 zz a w → K3 a w := by
  rintro ⟨l,x⟩ a w rfl ⟨p_1,c_1,hf,hc⟩
  replace hF := exK_go hF
  refine h3 _ _ ?_
  refine wp_seq_k fun K6 h6 => cReg ?_
  refine stP hf rfl rfl rfl (pM rfl) fun a hf => ?_
  obtain ⟨r,hr,hF⟩ := bnd_some hF
  refine stE hf hc rfl rfl rfl (eC (v := i6 r) (vs := [.slice p_1 l.length c_1]) (caps := []) en_160 rfl rfl rfl rfl (fun w hc => by obtain ⟨G1,hle1,hrd1,hc,hth1⟩ := lend hc k0; exact (crew_sum_ok l hrd1 hc hr).mono fun e w h => ⟨h.1,((hth1 _ _ h.2).unpick k0)⟩)) fun a w hf hc => stP hf rfl rfl rfl (pA rfl) fun a hf => cNil ?_
  refine h6 _ _ ?_
  refine wp_ret ?_
  obtain rfl := sj hF
  replace hc := hc.drop k1
  replace hc := hc.drop k0
  exact fnOut1 (by simp) rfl Tryz.results93 hf hc (show look _ 6 = _ from rfl) ⟨rfl,hc⟩
 have ho5 : ∀ r,x5 = .out r → r = res := by
  rintro r rfl
  exact sj hF
 replace hc := hc.drop k2
 refine cLoop N (loopW (S := S5) (x := x5) ?_ N (([c_.Car] : List Int),0) _ _ ⟨(some ⟨b_3,0,none⟩),1,hf.kp rfl,hc⟩ hx5)
 clear hF hf hc
 rintro ⟨l,x⟩ st5 a w KB5 ⟨p_1,c_1,hf,hc⟩ hF hfin5 hK5
 unfold crew_Cable_load_b5 at hF
 refine wp_seq_k fun K7 h7 => cReg ?_
 refine stP hf rfl rfl rfl (pLt rfl rfl) fun a hf => cNil ?_
 refine h7 _ _ ?_
 refine wp_seq_k fun K8 h8 => cCond (b := (decide (x < ((c_.Rides.length : Nat) : Int)))) hf rfl (fun hb => ?_) (fun hb => ?_)
 ·replace hF := condT hb hF
  clear hb
  refine wp_skip ?_
  refine h8 _ _ ?_
  refine wp_seq_k fun K9 h9 => ?_
  have hj9 : ∀ (l_1 : List Int) (p_2 : Option Addr) (c_2 : Nat) a w,Has 34 a [(1,i6 n),(5,pq b_2),(7,.slice p_2 l_1.length c_2),(14,.slice c__Rides_p c_.Rides.length c__Rides_c),(15,i6 ((c_.Rides.length : Nat) : Int)),(16,i6 x)] → Ctx G (.row p_2 c_2 (l_1.map encI_i64) 3 1::.box b_2 [.func (.func 155) #[] #[]] 147::Lf) w → crew_Cable_load_j9 N x l_1 = some st5 → K9 a w := by
   repeat (clear hF)
   repeat (clear hc)
   repeat (clear hf)
   intro l_1 p_2 c_2 a w hf hc hF
   unfold crew_Cable_load_j9 at hF
   refine h9 _ _ ?_
   refine cReg ?_
   refine stP hf rfl rfl rfl (pAdd rfl rfl) fun a hf => stP hf rfl rfl rfl (pM rfl) fun a hf => cNil ?_
   exact hK5 (l_1,W (x + 1)) _ _ (sj hF).symm ⟨p_2,c_2,hf.kp rfl,hc⟩
  refine wp_block ?_
  refine wp_seq_k fun K10 h10 => cReg ?_
  obtain ⟨e_1,he_1,hF⟩ := bnd_some hF
  obtain ⟨b_4,o,qa,qp⟩ := h_c__Rides.atm he_1
  refine stP hf rfl rfl rfl (pIA Tryz.underlying52 sz_72 rfl rfl qa) fun a hf => stE hf hc rfl rfl rfl (eLdN (vs := [i6 e_1.From,i6 e_1.Long,i6 e_1.Weight.Lo,i6 e_1.Weight.Hi]) ag_72 rfl rfl (cells_pc qp (n := 4) (o' := 0) rfl)) fun a w hf hc => stAl (cs := [i6 0,i6 0,i6 0,i6 0]) hf hc rfl rfl zr_72 rfl fun b_5 a w hf hc => stSt (vs := [i6 e_1.From,i6 e_1.Long,i6 e_1.Weight.Lo,i6 e_1.Weight.Hi]) hf hc rfl rfl rfl rfl sz_72 rfl rfl u0 fun w hc => cNil ?_
  refine h10 _ _ ?_
  refine wp_seq_k fun K11 h11 => cReg ?_
  refine stE hf hc rfl rfl rfl (eLdN (vs := [i6 e_1.From,i6 e_1.Long,i6 e_1.Weight.Lo,i6 e_1.Weight.Hi]) ag_72 rfl rfl (cells_box (n := 4) m0 rfl)) fun a w hf hc => stP hf rfl rfl rfl (pM rfl) fun a hf => stE hf hc rfl rfl rfl (eC (v := .bool (crew_Ride_on e_1 n)) (vs := [.agg #[i6 e_1.From,i6 e_1.Long,i6 e_1.Weight.Lo,i6 e_1.Weight.Hi],i6 n]) (caps := []) en_104 rfl rfl rfl rfl (fun w hc => crew_Ride_on_ok e_1 n hc rfl)) fun a w hf hc => cNil ?_
  refine h11 _ _ ?_
  refine cCond (b := (crew_Ride_on e_1 n)) hf rfl (fun hb => ?_) (fun hb => ?_)
  ·replace hF := condT hb hF
   clear hb
   refine cReg ?_
   refine stP hf rfl rfl rfl (pM rfl) fun a hf => stP hf rfl rfl rfl (pFA fa_147_0 rfl) fun a hf => stE hf hc rfl rfl rfl (eLd1 sc_145 rfl (cell_box m2 rfl)) fun a w hf hc => stP hf rfl rfl rfl (pFA fa_72_2 rfl) fun a hf => stE hf hc rfl rfl rfl (eLdN (vs := [i6 e_1.Weight.Lo,i6 e_1.Weight.Hi]) ag_29 rfl rfl (cells_box (n := 2) m0 rfl)) fun a w hf hc => stE hf hc rfl rfl rfl (eC (v := i6 (crew_low_1 e_1.Weight)) (vs := [.agg #[i6 e_1.Weight.Lo,i6 e_1.Weight.Hi]]) (caps := []) en_155 rfl rfl rfl rfl (fun w hc => crew_low_1_ok e_1.Weight hc rfl)) fun a w hf hc => stBS (rows := ([(crew_low_1 e_1.Weight)] : List Int).map encI_i64) (vs := [(0,i6 (crew_low_1 e_1.Weight))]) hf hc rfl rfl sl_25 rfl ⟨rfl,rfl,rfl,trivial⟩ rfl rfl fun b_6 a w hf hc => ?_
   obtain ⟨un,hun,hF⟩ := bnd_some hF
   refine stApm (xs := l) (ys := ([(crew_low_1 e_1.Weight)] : List Int)) hf hc rfl rfl sl_25 rfl rfl rfl rfl rfl one_encI_i64 (src_row hc m0) (fun _ _ => u2) (by simpa using room_spec hun) fun p_3 c_3 a w hf hc => stP hf rfl rfl rfl (pA rfl) fun a hf => cNil ?_
   replace hc := hc.drop k1
   replace hc := hc.drop k0
   exact hj9 (l ++ [(crew_low_1 e_1.Weight)]) p_3 c_3 _ _  (hf.kp rfl) hc hF
  ·replace hF := condF hb hF
   clear hb
   refine wp_skip ?_
   replace hc := hc.drop k0
   exact hj9 l p_1 c_1 _ _  (hf.kp rfl) hc hF
 ·replace hF := condF hb hF
  clear hb
  refine wp_exit ?_
  refine xThen ?_
  refine xThen ?_
  have he := sj hF
  rw [← he] at hfin5
  refine cHit ?_
  exact hr5 _ _ _ hfin5 ⟨p_1,c_1,hf.kp rfl,hc⟩

def crew_Cable_load_s2_j9 (N : Nat) (x : Int) (l_1 : List Int) : Option (Step ((List Int) × Int) (Int)) :=
 some (.cont (l_1,W (x + 1)))
def crew_Cable_load_s2_b5 (N : Nat) (c_ : crew_Cable) (n : Int) (l : List Int) (x : Int) : Option (Step ((List Int) × Int) (Int)) :=
 cond (decide (x < ((c_.Rides.length : Nat) : Int)))
 (Option.bind (getI c_.Rides x) fun e_1 =>
 cond (crew_Ride_on e_1 n)
 (Option.bind (room ((l ++ [(crew_high_1 e_1.Weight)])).length) fun un =>
 crew_Cable_load_s2_j9 N x (l ++ [(crew_high_1 e_1.Weight)]))
 (crew_Cable_load_s2_j9 N x l))
 (some (.brk (l,x)))
def crew_Cable_load_s2 (N : Nat) (c_ : crew_Cable) (n : Int) : Option (Int) :=
 Option.bind (loopO (fun s5 => crew_Cable_load_s2_b5 N c_ n s5.1 s5.2) N (([c_.Car] : List Int),0)) fun x5 =>
 exK x5 (fun s5 => Option.bind (crew_sum N s5.1) fun r =>
 some r) some
theorem crew_Cable_load_s2_ok {N : Nat} {G : Pers} {Lf : List Ent} {w : World} (c_ : crew_Cable) (n : Int) {c__Rides_p : Option Addr} {c__Rides_c : Nat} (h_c__Rides : Rd G 4 c__Rides_p c__Rides_c (c_.Rides.map enc_crew_Ride)) (hc : Ctx G (Lf) w) {res : Int} (hF : crew_Cable_load_s2 N c_ n = some res) : Calls Tryz.prog 93 #[.agg #[i6 c_.Car,i6 c_.Wide,i6 c_.Sag,i6 c_.Most,.slice c__Rides_p c_.Rides.length c__Rides_c],i6 n,.agg #[.func (.func 156) #[] #[]]] w (fun e w => e = .returned (i6 res) ∧ Ctx G (Lf) w) := by
 unfold crew_Cable_load_s2 at hF
 refine fnIn (args := [.agg #[i6 c_.Car,i6 c_.Wide,i6 c_.Sag,i6 c_.Most,.slice c__Rides_p c_.Rides.length c__Rides_c],i6 n,.agg #[.func (.func 156) #[] #[]]]) Tryz.func93 rfl Tryz.ntmps93 rfl fun a hf => wp_seq_k fun K1 h1 => cReg ?_
 refine stBx (cs := [i6 c_.Car,i6 c_.Wide,i6 c_.Sag,i6 c_.Most,.slice c__Rides_p c_.Rides.length c__Rides_c]) hf hc rfl rfl rfl rfl fun b_1 a w hf hc => stBx (cs := [.func (.func 156) #[] #[]]) hf hc rfl rfl rfl rfl fun b_2 a w hf hc => stP hf rfl rfl rfl (pA rfl) fun a hf => cNil ?_
 refine h1 _ _ ?_
 refine wp_seq_k fun K2 h2 => cReg ?_
 refine stP hf rfl rfl rfl (pFA fa_54_0 rfl) fun a hf => stE hf hc rfl rfl rfl (eLd1 sc_3 rfl (cell_box m1 rfl)) fun a w hf hc => stBS (rows := ([c_.Car] : List Int).map encI_i64) (vs := [(0,i6 c_.Car)]) hf hc rfl rfl sl_25 rfl ⟨rfl,rfl,rfl,trivial⟩ rfl rfl fun b_3 a w hf hc => stP hf rfl rfl rfl (pA rfl) fun a hf => cNil ?_
 refine h2 _ _ ?_
 refine wp_seq_k fun K3 h3 => wp_seq_k fun K4 h4 => cReg ?_
 refine stP hf rfl rfl rfl (pFA fa_54_4 rfl) fun a hf => stE hf hc rfl rfl rfl (eLd1 sc_52 rfl (cell_box m2 rfl)) fun a w hf hc => stP hf rfl rfl rfl (pLenS Tryz.underlying52 rfl) fun a hf => stP hf rfl rfl rfl (pM rfl) fun a hf => cNil ?_
 refine h4 _ _ ?_
 refine wp_block ?_
 obtain ⟨x5,hx5,hF⟩ := bnd_some hF
 let S5 : ((List Int) × Int) → Act → World → Prop := (fun (zz : (List Int) × Int) a w => ∃ (p_1 : Option Addr) (c_1 : Nat),Has 34 a [(1,i6 n),(5,pq b_2),(7,.slice p_1 zz.1.length c_1),(14,.slice c__Rides_p c_.Rides.length c__Rides_c),(15,i6 ((c_.Rides.length : Nat) : Int)),(16,i6 zz.2)] ∧ Ctx G (.row p_1 c_1 (zz.1.map encI_i64) 3 1::.box b_2 [.func (.func 156) #[] #[]] 147::Lf) w)
 have hr5 : ∀ (zz : (List Int) × Int) a w,x5 = .go zz → S5 zz a w → K3 a w := by
  rintro ⟨l,x⟩ a w rfl ⟨p_1,c_1,hf,hc⟩
  replace hF := exK_go hF
  refine h3 _ _ ?_
  refine wp_seq_k fun K6 h6 => cReg ?_
  refine stP hf rfl rfl rfl (pM rfl) fun a hf => ?_
  obtain ⟨r,hr,hF⟩ := bnd_some hF
  refine stE hf hc rfl rfl rfl (eC (v := i6 r) (vs := [.slice p_1 l.length c_1]) (caps := []) en_160 rfl rfl rfl rfl (fun w hc => by obtain ⟨G1,hle1,hrd1,hc,hth1⟩ := lend hc k0; exact (crew_sum_ok l hrd1 hc hr).mono fun e w h => ⟨h.1,((hth1 _ _ h.2).unpick k0)⟩)) fun a w hf hc => stP hf rfl rfl rfl (pA rfl) fun a hf => cNil ?_
  refine h6 _ _ ?_
  refine wp_ret ?_
  obtain rfl := sj hF
  replace hc := hc.drop k1
  replace hc := hc.drop k0
  exact fnOut1 (by simp) rfl Tryz.results93 hf hc (show look _ 6 = _ from rfl) ⟨rfl,hc⟩
 have ho5 : ∀ r,x5 = .out r → r = res := by
  rintro r rfl
  exact sj hF
 replace hc := hc.drop k2
 refine cLoop N (loopW (S := S5) (x := x5) ?_ N (([c_.Car] : List Int),0) _ _ ⟨(some ⟨b_3,0,none⟩),1,hf.kp rfl,hc⟩ hx5)
 clear hF hf hc
 rintro ⟨l,x⟩ st5 a w KB5 ⟨p_1,c_1,hf,hc⟩ hF hfin5 hK5
 unfold crew_Cable_load_s2_b5 at hF
 refine wp_seq_k fun K7 h7 => cReg ?_
 refine stP hf rfl rfl rfl (pLt rfl rfl) fun a hf => cNil ?_
 refine h7 _ _ ?_
 refine wp_seq_k fun K8 h8 => cCond (b := (decide (x < ((c_.Rides.length : Nat) : Int)))) hf rfl (fun hb => ?_) (fun hb => ?_)
 ·replace hF := condT hb hF
  clear hb
  refine wp_skip ?_
  refine h8 _ _ ?_
  refine wp_seq_k fun K9 h9 => ?_
  have hj9 : ∀ (l_1 : List Int) (p_2 : Option Addr) (c_2 : Nat) a w,Has 34 a [(1,i6 n),(5,pq b_2),(7,.slice p_2 l_1.length c_2),(14,.slice c__Rides_p c_.Rides.length c__Rides_c),(15,i6 ((c_.Rides.length : Nat) : Int)),(16,i6 x)] → Ctx G (.row p_2 c_2 (l_1.map encI_i64) 3 1::.box b_2 [.func (.func 156) #[] #[]] 147::Lf) w → crew_Cable_load_s2_j9 N x l_1 = some st5 → K9 a w := by
   repeat (clear hF)
   repeat (clear hc)
   repeat (clear hf)
   intro l_1 p_2 c_2 a w hf hc hF
   unfold crew_Cable_load_s2_j9 at hF
   refine h9 _ _ ?_
   refine cReg ?_
   refine stP hf rfl rfl rfl (pAdd rfl rfl) fun a hf => stP hf rfl rfl rfl (pM rfl) fun a hf => cNil ?_
   exact hK5 (l_1,W (x + 1)) _ _ (sj hF).symm ⟨p_2,c_2,hf.kp rfl,hc⟩
  refine wp_block ?_
  refine wp_seq_k fun K10 h10 => cReg ?_
  obtain ⟨e_1,he_1,hF⟩ := bnd_some hF
  obtain ⟨b_4,o,qa,qp⟩ := h_c__Rides.atm he_1
  refine stP hf rfl rfl rfl (pIA Tryz.underlying52 sz_72 rfl rfl qa) fun a hf => stE hf hc rfl rfl rfl (eLdN (vs := [i6 e_1.From,i6 e_1.Long,i6 e_1.Weight.Lo,i6 e_1.Weight.Hi]) ag_72 rfl rfl (cells_pc qp (n := 4) (o' := 0) rfl)) fun a w hf hc => stAl (cs := [i6 0,i6 0,i6 0,i6 0]) hf hc rfl rfl zr_72 rfl fun b_5 a w hf hc => stSt (vs := [i6 e_1.From,i6 e_1.Long,i6 e_1.Weight.Lo,i6 e_1.Weight.Hi]) hf hc rfl rfl rfl rfl sz_72 rfl rfl u0 fun w hc => cNil ?_
  refine h10 _ _ ?_
  refine wp_seq_k fun K11 h11 => cReg ?_
  refine stE hf hc rfl rfl rfl (eLdN (vs := [i6 e_1.From,i6 e_1.Long,i6 e_1.Weight.Lo,i6 e_1.Weight.Hi]) ag_72 rfl rfl (cells_box (n := 4) m0 rfl)) fun a w hf hc => stP hf rfl rfl rfl (pM rfl) fun a hf => stE hf hc rfl rfl rfl (eC (v := .bool (crew_Ride_on e_1 n)) (vs := [.agg #[i6 e_1.From,i6 e_1.Long,i6 e_1.Weight.Lo,i6 e_1.Weight.Hi],i6 n]) (caps := []) en_104 rfl rfl rfl rfl (fun w hc => crew_Ride_on_ok e_1 n hc rfl)) fun a w hf hc => cNil ?_
  refine h11 _ _ ?_
  refine cCond (b := (crew_Ride_on e_1 n)) hf rfl (fun hb => ?_) (fun hb => ?_)
  ·replace hF := condT hb hF
   clear hb
   refine cReg ?_
   refine stP hf rfl rfl rfl (pM rfl) fun a hf => stP hf rfl rfl rfl (pFA fa_147_0 rfl) fun a hf => stE hf hc rfl rfl rfl (eLd1 sc_145 rfl (cell_box m2 rfl)) fun a w hf hc => stP hf rfl rfl rfl (pFA fa_72_2 rfl) fun a hf => stE hf hc rfl rfl rfl (eLdN (vs := [i6 e_1.Weight.Lo,i6 e_1.Weight.Hi]) ag_29 rfl rfl (cells_box (n := 2) m0 rfl)) fun a w hf hc => stE hf hc rfl rfl rfl (eC (v := i6 (crew_high_1 e_1.Weight)) (vs := [.agg #[i6 e_1.Weight.Lo,i6 e_1.Weight.Hi]]) (caps := []) en_156 rfl rfl rfl rfl (fun w hc => crew_high_1_ok e_1.Weight hc rfl)) fun a w hf hc => stBS (rows := ([(crew_high_1 e_1.Weight)] : List Int).map encI_i64) (vs := [(0,i6 (crew_high_1 e_1.Weight))]) hf hc rfl rfl sl_25 rfl ⟨rfl,rfl,rfl,trivial⟩ rfl rfl fun b_6 a w hf hc => ?_
   obtain ⟨un,hun,hF⟩ := bnd_some hF
   refine stApm (xs := l) (ys := ([(crew_high_1 e_1.Weight)] : List Int)) hf hc rfl rfl sl_25 rfl rfl rfl rfl rfl one_encI_i64 (src_row hc m0) (fun _ _ => u2) (by simpa using room_spec hun) fun p_3 c_3 a w hf hc => stP hf rfl rfl rfl (pA rfl) fun a hf => cNil ?_
   replace hc := hc.drop k1
   replace hc := hc.drop k0
   exact hj9 (l ++ [(crew_high_1 e_1.Weight)]) p_3 c_3 _ _  (hf.kp rfl) hc hF
  ·replace hF := condF hb hF
   clear hb
   refine wp_skip ?_
   replace hc := hc.drop k0
   exact hj9 l p_1 c_1 _ _  (hf.kp rfl) hc hF
 ·replace hF := condF hb hF
  clear hb
  refine wp_exit ?_
  refine xThen ?_
  refine xThen ?_
  have he := sj hF
  rw [← he] at hfin5
  refine cHit ?_
  exact hr5 _ _ _ hfin5 ⟨p_1,c_1,hf.kp rfl,hc⟩

def crew_Load (N : Nat) (c_ : crew_Cable) (n : Int) : Option (api_Span × Int) :=
 Option.bind (crew_CheckCable N c_) fun r =>
 cond (r != 0)
 (some ((⟨0,0⟩ : api_Span),r))
 (cond (!(crew_in n 0 200000))
 (some ((⟨0,0⟩ : api_Span),4))
 (Option.bind (crew_Cable_load N c_ n) fun r_1 =>
 Option.bind (crew_Cable_load_s2 N c_ n) fun r_2 =>
 some ((⟨r_1,r_2⟩ : api_Span),0)))
theorem crew_Load_ok {N : Nat} {G : Pers} {Lf : List Ent} {w : World} (c_ : crew_Cable) (n : Int) {c__Rides_p : Option Addr} {c__Rides_c : Nat} (h_c__Rides : Rd G 4 c__Rides_p c__Rides_c (c_.Rides.map enc_crew_Ride)) (hc : Ctx G (Lf) w) {res : api_Span × Int} (hF : crew_Load N c_ n = some res) : Calls Tryz.prog 34 #[.agg #[i6 c_.Car,i6 c_.Wide,i6 c_.Sag,i6 c_.Most,.slice c__Rides_p c_.Rides.length c__Rides_c],i6 n] w (fun e w => e = .returned (.tuple #[.agg #[i6 res.1.Lo,i6 res.1.Hi],i6 res.2]) ∧ Ctx G (Lf) w) := by
 unfold crew_Load at hF
 refine fnIn (args := [.agg #[i6 c_.Car,i6 c_.Wide,i6 c_.Sag,i6 c_.Most,.slice c__Rides_p c_.Rides.length c__Rides_c],i6 n]) Tryz.func34 rfl Tryz.ntmps34 rfl fun a hf => wp_seq_k fun K1 h1 => cReg ?_
 refine stBx (cs := [i6 c_.Car,i6 c_.Wide,i6 c_.Sag,i6 c_.Most,.slice c__Rides_p c_.Rides.length c__Rides_c]) hf hc rfl rfl rfl rfl fun b_1 a w hf hc => stAl (cs := [i6 0,i6 0]) hf hc rfl rfl zr_29 rfl fun b_2 a w hf hc => stP hf rfl rfl rfl (pA rfl) fun a hf => cNil ?_
 refine h1 _ _ ?_
 refine wp_seq_k fun K2 h2 => cReg ?_
 refine stE hf hc rfl rfl rfl (eLdN (vs := [i6 c_.Car,i6 c_.Wide,i6 c_.Sag,i6 c_.Most,.slice c__Rides_p c_.Rides.length c__Rides_c]) ag_54 rfl rfl (cells_box (n := 5) m1 rfl)) fun a w hf hc => ?_
 obtain ⟨r,hr,hF⟩ := bnd_some hF
 refine stE hf hc rfl rfl rfl (eC (v := i6 r) (vs := [.agg #[i6 c_.Car,i6 c_.Wide,i6 c_.Sag,i6 c_.Most,.slice c__Rides_p c_.Rides.length c__Rides_c]]) (caps := []) en_31 rfl rfl rfl rfl (fun w hc => crew_CheckCable_ok c_ h_c__Rides hc hr)) fun a w hf hc => stP hf rfl rfl rfl (pA rfl) fun a hf => cNil ?_
 refine h2 _ _ ?_
 refine wp_seq_k fun K3 h3 => wp_block ?_
 refine wp_seq_k fun K4 h4 => cReg ?_
 refine stP hf rfl rfl rfl (pM rfl) fun a hf => stP hf rfl rfl rfl (pNe rfl rfl) fun a hf => stP hf rfl rfl rfl (pA rfl) fun a hf => cNil ?_
 refine h4 _ _ ?_
 refine cCond (b := (r != 0)) hf rfl (fun hb => ?_) (fun hb => ?_)
 ·replace hF := condT hb hF
  clear hb
  refine wp_seq_k fun K5 h5 => cReg ?_
  refine stP hf rfl rfl rfl (pBuildS (cells := [i6 0,i6 0]) bt_29 rfl rfl) fun a hf => stP hf rfl rfl rfl (pM rfl) fun a hf => stSt (vs := [i6 0,i6 0]) hf hc rfl rfl rfl rfl sz_29 rfl rfl u0 fun w hc => stP hf rfl rfl rfl (pA rfl) fun a hf => cNil ?_
  refine h5 _ _ ?_
  refine wp_ret ?_
  refine xBlkR ?_
  refine xThenR ?_
  obtain rfl := sj hF
  replace hc := hc.drop k1
  exact fnOut2 (by simp) rfl Tryz.results34 hf hc (rv_cellN (vs := [i6 0,i6 0]) ag_29 rfl rfl (cells_box (n := 2) m0 rfl)) (show look _ 5 = _ from rfl) ⟨rfl,(hc.drop k0)⟩
 ·replace hF := condF hb hF
  clear hb
  refine wp_seq_k fun K6 h6 => cReg ?_
  refine stP hf rfl rfl rfl (pM rfl) fun a hf => stE hf hc rfl rfl rfl (eC (v := .bool (crew_in n 0 200000)) (vs := [i6 n,i6 0,i6 200000]) (caps := []) en_86 rfl rfl rfl rfl (fun w hc => crew_in_ok n 0 200000 hc rfl)) fun a w hf hc => stP hf rfl rfl rfl (pNot rfl) fun a hf => stP hf rfl rfl rfl (pA rfl) fun a hf => cNil ?_
  refine h6 _ _ ?_
  refine cCond (b := (!(crew_in n 0 200000))) hf rfl (fun hb => ?_) (fun hb => ?_)
  ·replace hF := condT hb hF
   clear hb
   refine wp_seq_k fun K7 h7 => cReg ?_
   refine stP hf rfl rfl rfl (pBuildS (cells := [i6 0,i6 0]) bt_29 rfl rfl) fun a hf => stSt (vs := [i6 0,i6 0]) hf hc rfl rfl rfl rfl sz_29 rfl rfl u0 fun w hc => stP hf rfl rfl rfl (pA rfl) fun a hf => cNil ?_
   refine h7 _ _ ?_
   refine wp_ret ?_
   refine xBlkR ?_
   refine xThenR ?_
   obtain rfl := sj hF
   replace hc := hc.drop k1
   exact fnOut2 (by simp) rfl Tryz.results34 hf hc (rv_cellN (vs := [i6 0,i6 0]) ag_29 rfl rfl (cells_box (n := 2) m0 rfl)) (show look _ 5 = _ from rfl) ⟨rfl,(hc.drop k0)⟩
  ·replace hF := condF hb hF
   clear hb
   refine wp_skip ?_
   refine h3 _ _ ?_
   refine wp_seq_k fun K8 h8 => ?_
   obtain ⟨r_1,hr_1,hF⟩ := bnd_some hF
   obtain ⟨r_2,hr_2,hF⟩ := bnd_some hF
   refine regionE (fun θ => [⟨none,none,1,i6 n⟩,⟨none,none,2,pq b_1⟩,⟨none,none,4,pq b_2⟩,⟨none,some 10,5,i6 0⟩,⟨some 0,none,19,.agg #[i6 c_.Car,i6 c_.Wide,i6 c_.Sag,i6 c_.Most,.slice c__Rides_p c_.Rides.length c__Rides_c]⟩,⟨some 1,none,20,i6 n⟩,⟨some 2,none,21,.agg #[.func (.func 155) #[] #[]]⟩,⟨some 3,none,22,i6 r_1⟩,⟨some 4,none,23,.agg #[i6 c_.Car,i6 c_.Wide,i6 c_.Sag,i6 c_.Most,.slice c__Rides_p c_.Rides.length c__Rides_c]⟩,⟨some 5,none,24,i6 n⟩,⟨some 6,none,25,.agg #[.func (.func 156) #[] #[]]⟩,⟨some 7,none,26,i6 r_2⟩,⟨some 8,none,27,.agg #[i6 r_1,i6 r_2]⟩,⟨some 10,none,5,i6 0⟩]) (fun E θ => (bif E 9 then .box b_2 [i6 r_1,i6 r_2] 29 else .box b_2 [i6 0,i6 0] 29)::.box b_1 [i6 c_.Car,i6 c_.Wide,i6 c_.Sag,i6 c_.Most,.slice c__Rides_p c_.Rides.length c__Rides_c] 54::Lf) [] (fun a w => Has 28 a [(4,pq b_2),(5,i6 0)] ∧ Ctx G (.box b_2 [i6 r_1,i6 r_2] 29::.box b_1 [i6 c_.Car,i6 c_.Wide,i6 c_.Sag,i6 c_.Most,.slice c__Rides_p c_.Rides.length c__Rides_c] 54::Lf) w) follows_mx (by kernel_rfl) (by kernel_rfl) (HasE.of hf ⟨rfl,rfl,rfl,rfl,trivial,trivial,trivial,trivial,trivial,trivial,trivial,trivial,trivial,trivial,trivial⟩) hc ⟨?_,?_,?_,?_,?_,?_,?_,?_,?_,?_,?_,trivial⟩ ?_ ?_
   ·intro E θ a w hD hi hp he hc
    have hf := he.h0
    replace hf := hf.more he 1 rfl onT
    refine stE hf hc rfl rfl rfl (eLdN (vs := [i6 c_.Car,i6 c_.Wide,i6 c_.Sag,i6 c_.Most,.slice c__Rides_p c_.Rides.length c__Rides_c]) ag_54 rfl rfl (cells_box (n := 5) m1 rfl)) fun a w hf hc => cNil ?_
    refine xThenN ?_
    intro ds u hau
    refine ⟨θ,he.put0 hi hau hf rfl 4 rfl rfl,?_⟩
    exact hc
   ·intro E θ a w hD hi hp he hc
    have hf := he.h0
    replace hf := hf.more he 0 rfl onT
    refine stP hf rfl rfl rfl (pM rfl) fun a hf => cNil ?_
    refine xThenN ?_
    intro ds u hau
    refine ⟨θ,he.put0 hi hau hf rfl 5 rfl rfl,?_⟩
    exact hc
   ·intro E θ a w hD hi hp he hc
    have hf := he.h0
    refine stE hf hc rfl rfl rfl (eC (v := .agg #[.func (.func 155) #[] #[]]) (vs := []) (caps := []) en_82 rfl rfl rfl rfl (fun w hc => crew_low_ok hc rfl)) fun a w hf hc => cNil ?_
    refine xThenN ?_
    intro ds u hau
    refine ⟨θ,he.put0 hi hau hf rfl 6 rfl rfl,?_⟩
    exact hc
   ·intro E θ a w hD hi hp he hc
    have e0 := hp.of (k := 0) rfl
    have e1 := hp.of (k := 1) rfl
    have e2 := hp.of (k := 2) rfl
    have hf := he.h0
    replace hf := hf.more he 4 rfl (onP e0)
    replace hf := hf.more he 5 rfl (onP e1)
    replace hf := hf.more he 6 rfl (onP e2)
    refine stE hf hc rfl rfl rfl (eC (v := i6 r_1) (vs := [.agg #[i6 c_.Car,i6 c_.Wide,i6 c_.Sag,i6 c_.Most,.slice c__Rides_p c_.Rides.length c__Rides_c],i6 n,.agg #[.func (.func 155) #[] #[]]]) (caps := []) en_93 rfl rfl rfl rfl (fun w hc => crew_Cable_load_ok c_ n h_c__Rides hc hr_1)) fun a w hf hc => cNil ?_
    refine xThenN ?_
    intro ds u hau
    refine ⟨θ,he.put0 hi hau hf rfl 7 rfl rfl,?_⟩
    exact hc
   ·intro E θ a w hD hi hp he hc
    have hf := he.h0
    replace hf := hf.more he 1 rfl onT
    refine stE hf hc rfl rfl rfl (eLdN (vs := [i6 c_.Car,i6 c_.Wide,i6 c_.Sag,i6 c_.Most,.slice c__Rides_p c_.Rides.length c__Rides_c]) ag_54 rfl rfl (cells_box (n := 5) m1 rfl)) fun a w hf hc => cNil ?_
    refine xThenN ?_
    intro ds u hau
    refine ⟨θ,he.put0 hi hau hf rfl 8 rfl rfl,?_⟩
    exact hc
   ·intro E θ a w hD hi hp he hc
    have hf := he.h0
    replace hf := hf.more he 0 rfl onT
    refine stP hf rfl rfl rfl (pM rfl) fun a hf => cNil ?_
    refine xThenN ?_
    intro ds u hau
    refine ⟨θ,he.put0 hi hau hf rfl 9 rfl rfl,?_⟩
    exact hc
   ·intro E θ a w hD hi hp he hc
    have hf := he.h0
    refine stE hf hc rfl rfl rfl (eC (v := .agg #[.func (.func 156) #[] #[]]) (vs := []) (caps := []) en_83 rfl rfl rfl rfl (fun w hc => crew_high_ok hc rfl)) fun a w hf hc => cNil ?_
    refine xThenN ?_
    intro ds u hau
    refine ⟨θ,he.put0 hi hau hf rfl 10 rfl rfl,?_⟩
    exact hc
   ·intro E θ a w hD hi hp he hc
    have e4 := hp.of (k := 4) rfl
    have e5 := hp.of (k := 5) rfl
    have e6 := hp.of (k := 6) rfl
    have hf := he.h0
    replace hf := hf.more he 8 rfl (onP e4)
    replace hf := hf.more he 9 rfl (onP e5)
    replace hf := hf.more he 10 rfl (onP e6)
    refine stE hf hc rfl rfl rfl (eC (v := i6 r_2) (vs := [.agg #[i6 c_.Car,i6 c_.Wide,i6 c_.Sag,i6 c_.Most,.slice c__Rides_p c_.Rides.length c__Rides_c],i6 n,.agg #[.func (.func 156) #[] #[]]]) (caps := []) en_93 rfl rfl rfl rfl (fun w hc => crew_Cable_load_s2_ok c_ n h_c__Rides hc hr_2)) fun a w hf hc => cNil ?_
    refine xThenN ?_
    intro ds u hau
    refine ⟨θ,he.put0 hi hau hf rfl 11 rfl rfl,?_⟩
    exact hc
   ·intro E θ a w hD hi hp he hc
    have e3 := hp.of (k := 3) rfl
    have e7 := hp.of (k := 7) rfl
    have hf := he.h0
    replace hf := hf.more he 7 rfl (onP e3)
    replace hf := hf.more he 11 rfl (onP e7)
    refine stP hf rfl rfl rfl (pBuildS (cells := [i6 r_1,i6 r_2]) bt_29 rfl rfl) fun a hf => cNil ?_
    refine xThenN ?_
    intro ds u hau
    refine ⟨θ,he.put0 hi hau hf rfl 12 rfl rfl,?_⟩
    exact hc
   ·intro E θ a w hD hi hp he hc
    have e8 := hp.of (k := 8) rfl
    try dsimp only at hc
    rw [hi] at hc
    have hf := he.h0
    replace hf := hf.more he 2 rfl onT
    replace hf := hf.more he 12 rfl (onP e8)
    refine stSt (vs := [i6 r_1,i6 r_2]) hf hc rfl rfl rfl rfl sz_29 rfl rfl u0 fun w hc => cNil ?_
    refine xThenN ?_
    intro ds u hau
    refine ⟨θ,he.stay0 hi hau hf rfl,?_⟩
    try dsimp only
    rw [updE_self E 9]
    exact hc
   ·intro E θ a w hD hi hp he hc
    have hf := he.h0
    refine stP hf rfl rfl rfl (pA rfl) fun a hf => cNil ?_
    refine xThenN ?_
    intro ds u hau
    refine ⟨θ,he.put0 hi hau hf rfl 13 rfl rfl,?_⟩
    exact hc
   ·intro E θ a w hall he hc
    have hf := he.h0
    have e9 := hall 9 rfl
    have e10 := hall 10 rfl
    replace hf := hf.more he 13 rfl (onP e10)
    replace hf := hf.more he 2 rfl (onT)
    try dsimp only at hc
    rw [e9] at hc
    exact ⟨hf.kp rfl,hc⟩
   rintro a w ⟨hf,hc⟩
   refine h8 _ _ ?_
   refine wp_ret ?_
   obtain rfl := sj hF
   replace hc := hc.drop k1
   exact fnOut2 (by simp) rfl Tryz.results34 hf hc (rv_cellN (vs := [i6 r_1,i6 r_2]) ag_29 rfl rfl (cells_box (n := 2) m0 rfl)) (show look _ 5 = _ from rfl) ⟨rfl,(hc.drop k0)⟩

def slices_Clone_Lint_int (N : Nat) (s_ : List Int) : Option ((List Int)) :=
 Option.bind (room (s_).length) fun un =>
 some s_
theorem slices_Clone_Lint_int_ok {N : Nat} {G : Pers} {Lf : List Ent} {w : World} (s_ : List Int) {s__p : Option Addr} {s__c : Nat} (h_s_ : Rd G 1 s__p s__c (s_.map encI_i64)) (hc : Ctx G (Lf) w) {res : (List Int)} (hF : slices_Clone_Lint_int N s_ = some res) : Calls Tryz.prog 150 #[.slice s__p s_.length s__c] w (fun e w => ∃ (p'1 : Option Addr) (c'1 : Nat),e = .returned (.slice p'1 res.length c'1) ∧ Ctx G (.row p'1 c'1 (res.map encI_i64) 3 1::Lf) w) := by
 unfold slices_Clone_Lint_int at hF
 refine fnIn (args := [.slice s__p s_.length s__c]) Tryz.func150 rfl Tryz.ntmps150 rfl fun a hf => wp_seq_k fun K1 h1 => cReg ?_
 refine stP hf rfl rfl rfl (pA rfl) fun a hf => cNil ?_
 refine h1 _ _ ?_
 refine wp_seq_k fun K2 h2 => wp_seq_k fun K3 h3 => cReg ?_
 refine stP hf rfl rfl rfl (pM rfl) fun a hf => stP hf rfl rfl rfl (pEqN Tryz.underlying25 rfl rfl) fun a hf => cNil ?_
 refine h3 _ _ ?_
 rcases rd_nilq h_s_ with ⟨hp,hx⟩ | hp
 ·rw [hp] at hf
  replace hF : (some ([] : List Int)) = some res := by
   try rw [hx] at hF
   exact hF
  refine cCondT hf rfl ?_
  refine wp_seq_k fun K4 h4 => cReg ?_
  refine stP hf rfl rfl rfl (pA rfl) fun a hf => cNil ?_
  refine h4 _ _ ?_
  refine wp_ret ?_
  refine xThenR ?_
  obtain rfl := sj hF
  replace hc := hc.nilRow 3 1
  exact fnOut1 (by simp) rfl Tryz.results150 hf hc (show look _ 2 = _ from rfl) ⟨none,0,rfl,hc⟩
 ·rw [hp] at hf
  refine cCondF hf rfl ?_
  refine wp_skip ?_
  refine h2 _ _ ?_
  refine wp_seq_k fun K5 h5 => cReg ?_
  refine stBS (rows := ([] : List Int).map encI_i64) (vs := []) hf hc rfl rfl sl_25 rfl trivial rfl rfl fun b_1 a w hf hc => stP hf rfl rfl rfl (pM rfl) fun a hf => ?_
  obtain ⟨un,hun,hF⟩ := bnd_some hF
  refine stApm (xs := ([] : List Int)) (ys := s_) hf hc rfl rfl sl_25 rfl rfl rfl rfl rfl one_encI_i64 (src_rd hc h_s_) (fun _ _ => u0) (by simpa using room_spec hun) fun p_1 c_1 a w hf hc => stP hf rfl rfl rfl (pA rfl) fun a hf => cNil ?_
  refine h5 _ _ ?_
  refine wp_ret ?_
  obtain rfl := sj hF
  exact fnOut1 (by simp) rfl Tryz.results150 hf hc (show look _ 2 = _ from rfl) ⟨p_1,c_1,rfl,hc⟩

def slices_Sort_Lint_int (N : Nat) (x : List Int) : Option ((List Int)) :=
 sortO x
/-! ### Walks of the library -/

theorem slices_Sort_Lint_int_ok {N : Nat} {G : Pers} {Lf : List Ent} {w : World} (x : List Int) {x_p : Option Addr} {x_c : Nat}  (hc : Ctx G (.row x_p x_c (x.map encI_i64) 3 1::Lf) w) {res : (List Int)} (hF : slices_Sort_Lint_int N x = some res) : Calls Tryz.prog 161 #[.slice x_p x.length x_c] w (fun e w => e = .returned (.tuple #[]) ∧ res.length = x.length ∧ Ctx G (.row x_p x_c (res.map encI_i64) 3 1::Lf) w) := by
 unfold slices_Sort_Lint_int at hF
 exact sort_ctx (fun w => sort_nil Go.Proofs.Tryz.lays189 w) (fun b o c zs w h1 h2 h3 => Go.Proofs.Any.slices_Sort_int Go.Proofs.Tryz.lays189 b o c zs w h1 h2 h3) hc hF

def slices_Compact_Lint_int (N : Nat) (s_ : List Int) : Option ((List Int)) :=
 compO s_
/-! ### Walks of the library -/

theorem slices_Compact_Lint_int_ok {N : Nat} {G : Pers} {Lf : List Ent} {w : World} (s_ : List Int) {s__p : Option Addr} {s__c : Nat}  (hc : Ctx G (.row s__p s__c (s_.map encI_i64) 3 1::Lf) w) {res : (List Int)} (hF : slices_Compact_Lint_int N s_ = some res) : Calls Tryz.prog 162 #[.slice s__p s_.length s__c] w (fun e w => ∃ (p'1 : Option Addr) (c'1 : Nat),e = .returned (.slice p'1 res.length c'1) ∧ Ctx G (.row p'1 c'1 (res.map encI_i64) 3 1::Lf) w) := by
 unfold slices_Compact_Lint_int at hF
 exact compact_ctx (fun a c w => Go.Proofs.Any.slices_Compact_int_empty Go.Proofs.Tryz.lays20 a c w) (fun b o c zs w h1 h2 h3 => Go.Proofs.Any.slices_Compact_int Go.Proofs.Tryz.lays20 b o c zs w h1 h2 h3) hc hF

def crew_Cable_starts_b5 (N : Nat) (c_ : crew_Cable) (out : List Int) (x : Int) : Option (Step ((List Int) × Int) ((List Int))) :=
 cond (decide (x < ((c_.Rides.length : Nat) : Int)))
 (Option.bind (getI c_.Rides x) fun e_1 =>
 Option.bind (room ((out ++ [e_1.From])).length) fun un =>
 some (.cont ((out ++ [e_1.From]),W (x + 1))))
 (some (.brk (out,x)))
def crew_Cable_starts (N : Nat) (c_ : crew_Cable) : Option ((List Int)) :=
 Option.bind (loopO (fun s5 => crew_Cable_starts_b5 N c_ s5.1 s5.2) N (([0] : List Int),0)) fun x5 =>
 exK x5 (fun s5 => Option.bind (slices_Clone_Lint_int N s5.1) fun r =>
 Option.bind (slices_Sort_Lint_int N r) fun r_1 =>
 Option.bind (slices_Compact_Lint_int N r_1) fun r_2 =>
 some r_2) some
theorem crew_Cable_starts_ok {N : Nat} {G : Pers} {Lf : List Ent} {w : World} (c_ : crew_Cable) {c__Rides_p : Option Addr} {c__Rides_c : Nat} (h_c__Rides : Rd G 4 c__Rides_p c__Rides_c (c_.Rides.map enc_crew_Ride)) (hc : Ctx G (Lf) w) {res : (List Int)} (hF : crew_Cable_starts N c_ = some res) : Calls Tryz.prog 95 #[.agg #[i6 c_.Car,i6 c_.Wide,i6 c_.Sag,i6 c_.Most,.slice c__Rides_p c_.Rides.length c__Rides_c]] w (fun e w => ∃ (p'1 : Option Addr) (c'1 : Nat),e = .returned (.slice p'1 res.length c'1) ∧ Ctx G (.row p'1 c'1 (res.map encI_i64) 3 1::Lf) w) := by
 unfold crew_Cable_starts at hF
 refine fnIn (args := [.agg #[i6 c_.Car,i6 c_.Wide,i6 c_.Sag,i6 c_.Most,.slice c__Rides_p c_.Rides.length c__Rides_c]]) Tryz.func95 rfl Tryz.ntmps95 rfl fun a hf => wp_seq_k fun K1 h1 => cReg ?_
 refine stBx (cs := [i6 c_.Car,i6 c_.Wide,i6 c_.Sag,i6 c_.Most,.slice c__Rides_p c_.Rides.length c__Rides_c]) hf hc rfl rfl rfl rfl fun b_1 a w hf hc => stP hf rfl rfl rfl (pA rfl) fun a hf => cNil ?_
 refine h1 _ _ ?_
 refine wp_seq_k fun K2 h2 => cReg ?_
 refine stBS (rows := ([0] : List Int).map encI_i64) (vs := [(0,i6 0)]) hf hc rfl rfl sl_25 rfl ⟨rfl,rfl,rfl,trivial⟩ rfl rfl fun b_2 a w hf hc => stP hf rfl rfl rfl (pA rfl) fun a hf => cNil ?_
 refine h2 _ _ ?_
 refine wp_seq_k fun K3 h3 => wp_seq_k fun K4 h4 => cReg ?_
 refine stP hf rfl rfl rfl (pFA fa_54_4 rfl) fun a hf => stE hf hc rfl rfl rfl (eLd1 sc_52 rfl (cell_box m1 rfl)) fun a w hf hc => stP hf rfl rfl rfl (pLenS Tryz.underlying52 rfl) fun a hf => stP hf rfl rfl rfl (pM rfl) fun a hf => cNil ?_
 refine h4 _ _ ?_
 refine wp_block ?_
 obtain ⟨x5,hx5,hF⟩ := bnd_some hF
 let S5 : ((List Int) × Int) → Act → World → Prop := (fun (zz : (List Int) × Int) a w => ∃ (p_1 : Option Addr) (c_1 : Nat),Has 27 a [(3,.slice p_1 zz.1.length c_1),(9,.slice c__Rides_p c_.Rides.length c__Rides_c),(10,i6 ((c_.Rides.length : Nat) : Int)),(11,i6 zz.2)] ∧ Ctx G (.row p_1 c_1 (zz.1.map encI_i64) 3 1::Lf) w)
 have hr5 : ∀ (zz : (List Int) × Int) a w,x5 = .go zz → S5 zz a w → K3 a w := by
  rintro ⟨out,x⟩ a w rfl ⟨p_1,c_1,hf,hc⟩
  replace hF := exK_go hF
  refine h3 _ _ ?_
  refine wp_seq_k fun K6 h6 => cReg ?_
  refine stP hf rfl rfl rfl (pM rfl) fun a hf => ?_
  obtain ⟨r,hr,hF⟩ := bnd_some hF
  obtain ⟨G1,hle1,hrd1,hc,hth1⟩ := lend hc k0
  refine stC (vs := [.slice p_1 out.length c_1]) (caps := []) hf rfl rfl rfl en_150 rfl rfl rfl rfl (slices_Clone_Lint_int_ok out hrd1 hc hr) ?_
  rintro _ w ⟨p_2,c_2,rfl,hc⟩
  refine ⟨_,rfl,fun a hf => ?_⟩
  replace hc := hth1 _ _ hc
  refine stP hf rfl rfl rfl (pA rfl) fun a hf => cNil ?_
  refine h6 _ _ ?_
  refine wp_seq_k fun K7 h7 => cReg ?_
  refine stP hf rfl rfl rfl (pM rfl) fun a hf => ?_
  obtain ⟨r_1,hr_1,hF⟩ := bnd_some hF
  refine stC (vs := [.slice p_2 r.length c_2]) (caps := []) hf rfl rfl rfl en_161 rfl rfl rfl rfl (slices_Sort_Lint_int_ok r (hc.pick k1) hr_1) ?_
  rintro _ w ⟨rfl,hl,hc⟩
  refine ⟨_,rfl,fun a hf => ?_⟩
  try rw [← hl] at hf
  try rw [← hl] at hc
  refine cNil ?_
  refine h7 _ _ ?_
  refine wp_seq_k fun K8 h8 => cReg ?_
  refine stP hf rfl rfl rfl (pM rfl) fun a hf => ?_
  obtain ⟨r_2,hr_2,hF⟩ := bnd_some hF
  refine stC (vs := [.slice p_2 r_1.length c_2]) (caps := []) hf rfl rfl rfl en_162 rfl rfl rfl rfl (slices_Compact_Lint_int_ok r_1 (hc.pick k0) hr_2) ?_
  rintro _ w ⟨p_3,c_3,rfl,hc⟩
  refine ⟨_,rfl,fun a hf => ?_⟩
  refine stP hf rfl rfl rfl (pA rfl) fun a hf => cNil ?_
  refine h8 _ _ ?_
  refine wp_ret ?_
  obtain rfl := sj hF
  replace hc := hc.drop k1
  exact fnOut1 (by simp) rfl Tryz.results95 hf hc (show look _ 2 = _ from rfl) ⟨p_3,c_3,rfl,hc⟩
 have ho5 : ∀ r,x5 = .out r → r = res := by
  rintro r rfl
  exact sj hF
 replace hc := hc.drop k1
 refine cLoop N (loopW (S := S5) (x := x5) ?_ N (([0] : List Int),0) _ _ ⟨(some ⟨b_2,0,none⟩),1,hf.kp rfl,hc⟩ hx5)
 clear hF hf hc
 rintro ⟨out,x⟩ st5 a w KB5 ⟨p_1,c_1,hf,hc⟩ hF hfin5 hK5
 unfold crew_Cable_starts_b5 at hF
 refine wp_seq_k fun K9 h9 => cReg ?_
 refine stP hf rfl rfl rfl (pLt rfl rfl) fun a hf => cNil ?_
 refine h9 _ _ ?_
 refine wp_seq_k fun K10 h10 => cCond (b := (decide (x < ((c_.Rides.length : Nat) : Int)))) hf rfl (fun hb => ?_) (fun hb => ?_)
 ·replace hF := condT hb hF
  clear hb
  refine wp_skip ?_
  refine h10 _ _ ?_
  refine wp_seq_k fun K11 h11 => wp_block ?_
  refine wp_seq_k fun K12 h12 => cReg ?_
  obtain ⟨e_1,he_1,hF⟩ := bnd_some hF
  obtain ⟨b_3,o,qa,qp⟩ := h_c__Rides.atm he_1
  refine stP hf rfl rfl rfl (pIA Tryz.underlying52 sz_72 rfl rfl qa) fun a hf => stE hf hc rfl rfl rfl (eLdN (vs := [i6 e_1.From,i6 e_1.Long,i6 e_1.Weight.Lo,i6 e_1.Weight.Hi]) ag_72 rfl rfl (cells_pc qp (n := 4) (o' := 0) rfl)) fun a w hf hc => stAl (cs := [i6 0,i6 0,i6 0,i6 0]) hf hc rfl rfl zr_72 rfl fun b_4 a w hf hc => stSt (vs := [i6 e_1.From,i6 e_1.Long,i6 e_1.Weight.Lo,i6 e_1.Weight.Hi]) hf hc rfl rfl rfl rfl sz_72 rfl rfl u0 fun w hc => cNil ?_
  refine h12 _ _ ?_
  refine cReg ?_
  refine stP hf rfl rfl rfl (pM rfl) fun a hf => stP hf rfl rfl rfl (pFA fa_72_0 rfl) fun a hf => stE hf hc rfl rfl rfl (eLd1 sc_3 rfl (cell_box m0 rfl)) fun a w hf hc => stBS (rows := ([e_1.From] : List Int).map encI_i64) (vs := [(0,i6 e_1.From)]) hf hc rfl rfl sl_25 rfl ⟨rfl,rfl,rfl,trivial⟩ rfl rfl fun b_5 a w hf hc => ?_
  obtain ⟨un,hun,hF⟩ := bnd_some hF
  refine stApm (xs := out) (ys := ([e_1.From] : List Int)) hf hc rfl rfl sl_25 rfl rfl rfl rfl rfl one_encI_i64 (src_row hc m0) (fun _ _ => u2) (by simpa using room_spec hun) fun p_4 c_4 a w hf hc => stP hf rfl rfl rfl (pA rfl) fun a hf => cNil ?_
  refine h11 _ _ ?_
  refine cReg ?_
  refine stP hf rfl rfl rfl (pAdd rfl rfl) fun a hf => stP hf rfl rfl rfl (pM rfl) fun a hf => cNil ?_
  replace hc := hc.drop k1
  replace hc := hc.drop k0
  exact hK5 ((out ++ [e_1.From]),W (x + 1)) _ _ (sj hF).symm ⟨p_4,c_4,hf.kp rfl,hc⟩
 ·replace hF := condF hb hF
  clear hb
  refine wp_exit ?_
  refine xThen ?_
  refine xThen ?_
  have he := sj hF
  rw [← he] at hfin5
  refine cHit ?_
  exact hr5 _ _ _ hfin5 ⟨p_1,c_1,hf.kp rfl,hc⟩

def crew_Cable_beyond (c_ : crew_Cable) (load : Int) : Bool :=
 (decide ((W (c_.Most * c_.Sag)) < (W ((W (load * c_.Wide)) * 25))))
theorem crew_Cable_beyond_ok {G : Pers} {Lf : List Ent} {w : World} (c_ : crew_Cable) (load : Int) {c__Rides_p : Option Addr} {c__Rides_c : Nat} (h_c__Rides : Rd G 4 c__Rides_p c__Rides_c (c_.Rides.map enc_crew_Ride)) (hc : Ctx G (Lf) w) {res : Bool} (hF : crew_Cable_beyond c_ load = res) : Calls Tryz.prog 99 #[.agg #[i6 c_.Car,i6 c_.Wide,i6 c_.Sag,i6 c_.Most,.slice c__Rides_p c_.Rides.length c__Rides_c],i6 load] w (fun e w => e = .returned (.bool res) ∧ Ctx G (Lf) w) := by
 unfold crew_Cable_beyond at hF
 refine fnIn (args := [.agg #[i6 c_.Car,i6 c_.Wide,i6 c_.Sag,i6 c_.Most,.slice c__Rides_p c_.Rides.length c__Rides_c],i6 load]) Tryz.func99 rfl Tryz.ntmps99 rfl fun a hf => wp_seq_k fun K1 h1 => cReg ?_
 refine stBx (cs := [i6 c_.Car,i6 c_.Wide,i6 c_.Sag,i6 c_.Most,.slice c__Rides_p c_.Rides.length c__Rides_c]) hf hc rfl rfl rfl rfl fun b_1 a w hf hc => stP hf rfl rfl rfl (pA rfl) fun a hf => cNil ?_
 refine h1 _ _ ?_
 refine wp_seq_k fun K2 h2 => cReg ?_
 refine stP hf rfl rfl rfl (pM rfl) fun a hf => stP hf rfl rfl rfl (pFA fa_54_1 rfl) fun a hf => stE hf hc rfl rfl rfl (eLd1 sc_3 rfl (cell_box m0 rfl)) fun a w hf hc => stP hf rfl rfl rfl (pMul rfl rfl) fun a hf => stP hf rfl rfl rfl (pMul rfl rfl) fun a hf => stP hf rfl rfl rfl (pFA fa_54_3 rfl) fun a hf => stE hf hc rfl rfl rfl (eLd1 sc_3 rfl (cell_box m0 rfl)) fun a w hf hc => stP hf rfl rfl rfl (pFA fa_54_2 rfl) fun a hf => stE hf hc rfl rfl rfl (eLd1 sc_3 rfl (cell_box m0 rfl)) fun a w hf hc => stP hf rfl rfl rfl (pMul rfl rfl) fun a hf => stP hf rfl rfl rfl (pGt rfl rfl) fun a hf => stP hf rfl rfl rfl (pA rfl) fun a hf => cNil ?_
 refine h2 _ _ ?_
 refine wp_ret ?_
 obtain rfl := hF
 replace hc := hc.drop k0
 exact fnOut1 (by simp) rfl Tryz.results99 hf hc (show look _ 4 = _ from rfl) ⟨rfl,hc⟩

def crew_Beyond_1_1 (N : Nat) (n : Int) (x : crew_Cable) : Option (Bool) :=
 Option.bind (crew_Cable_load_s2 N (⟨x.Car,x.Wide,x.Sag,x.Most,x.Rides⟩ : crew_Cable) n) fun r =>
 some (crew_Cable_beyond (⟨x.Car,x.Wide,x.Sag,x.Most,x.Rides⟩ : crew_Cable) r)
theorem crew_Beyond_1_1_ok {N : Nat} {G : Pers} {Lf : List Ent} {w : World} (n : Int) (x : crew_Cable) {b_ : Nat} {x_Rides_p : Option Addr} {x_Rides_c : Nat} {b__1 : Nat} (h_x_Rides : Rd G 4 x_Rides_p x_Rides_c (x.Rides.map enc_crew_Ride)) (hc : Ctx G (.box b_ [i6 x.Car,i6 x.Wide,i6 x.Sag,i6 x.Most,.slice x_Rides_p x.Rides.length x_Rides_c] 54::.box b__1 [.func (.func 156) #[] #[]] 147::Lf) w) {res : Bool} (hF : crew_Beyond_1_1 N n x = some res) : Calls Tryz.prog 98 #[i6 n,pq b_,pq b__1] w (fun e w => e = .returned (.bool res) ∧ Ctx G (.box b_ [i6 x.Car,i6 x.Wide,i6 x.Sag,i6 x.Most,.slice x_Rides_p x.Rides.length x_Rides_c] 54::.box b__1 [.func (.func 156) #[] #[]] 147::Lf) w) := by
 unfold crew_Beyond_1_1 at hF
 refine fnIn (args := [i6 n,pq b_,pq b__1]) Tryz.func98 rfl Tryz.ntmps98 rfl fun a hf => wp_seq_k fun K1 h1 => cReg ?_
 refine stP hf rfl rfl rfl (pA rfl) fun a hf => cNil ?_
 refine h1 _ _ ?_
 refine wp_seq_k fun K2 h2 => ?_
 obtain ⟨r,hr,hF⟩ := bnd_some hF
 refine cQ hc follows_mx (by kernel_rfl) ?_
 refine qE hf rfl rfl rfl (eLdN (vs := [i6 x.Car,i6 x.Wide,i6 x.Sag,i6 x.Most,.slice x_Rides_p x.Rides.length x_Rides_c]) ag_54 rfl rfl (cells_box (n := 5) m0 rfl)) fun a hf => qE hf rfl rfl rfl (eLdN (vs := [i6 x.Car,i6 x.Wide,i6 x.Sag,i6 x.Most,.slice x_Rides_p x.Rides.length x_Rides_c]) ag_54 rfl rfl (cells_box (n := 5) m0 rfl)) fun a hf => qE hf rfl rfl rfl (Pu.ev (pM rfl)) fun a hf => qE hf rfl rfl rfl (eLdN (vs := [.func (.func 156) #[] #[]]) ag_147 rfl rfl (cells_box (n := 1) m1 rfl)) fun a hf => qE hf rfl rfl rfl (eC (v := i6 r) (vs := [.agg #[i6 x.Car,i6 x.Wide,i6 x.Sag,i6 x.Most,.slice x_Rides_p x.Rides.length x_Rides_c],i6 n,.agg #[.func (.func 156) #[] #[]]]) (caps := []) en_93 rfl rfl rfl rfl (fun w hc => crew_Cable_load_s2_ok (⟨x.Car,x.Wide,x.Sag,x.Most,x.Rides⟩ : crew_Cable) n h_x_Rides hc hr)) fun a hf => qE hf rfl rfl rfl (eC (v := .bool (crew_Cable_beyond (⟨x.Car,x.Wide,x.Sag,x.Most,x.Rides⟩ : crew_Cable) r)) (vs := [.agg #[i6 x.Car,i6 x.Wide,i6 x.Sag,i6 x.Most,.slice x_Rides_p x.Rides.length x_Rides_c],i6 r]) (caps := []) en_99 rfl rfl rfl rfl (fun w hc => crew_Cable_beyond_ok (⟨x.Car,x.Wide,x.Sag,x.Most,x.Rides⟩ : crew_Cable) r h_x_Rides hc rfl)) fun a hf => qE hf rfl rfl rfl (Pu.ev (pA rfl)) fun a hf => ?_
 intro w hc
 refine h2 _ _ ?_
 refine wp_ret ?_
 obtain rfl := sj hF
 exact fnOut1 (by simp) rfl Tryz.results98 hf hc (show look _ 4 = _ from rfl) ⟨rfl,hc⟩

def slices_IndexFunc_Lint_int_s6_b4 (N : Nat) (s_ : List Int) (f_ : crew_Cable) (x : Int) : Option (Step (Int) (Int)) :=
 cond (decide (x < ((s_.length : Nat) : Int)))
 (Option.bind (getI s_ x) fun e_1 =>
 Option.bind (crew_Beyond_1_1 N e_1 f_) fun r =>
 cond r
 (some (.ret x))
 (some (.cont (W (x + 1)))))
 (some (.brk x))
def slices_IndexFunc_Lint_int_s6 (N : Nat) (s_ : List Int) (f_ : crew_Cable) : Option (Int) :=
 Option.bind (loopO (fun s4 => slices_IndexFunc_Lint_int_s6_b4 N s_ f_ s4) N 0) fun x4 =>
 exK x4 (fun s4 => some (-1)) some
theorem slices_IndexFunc_Lint_int_s6_ok {N : Nat} {G : Pers} {Lf : List Ent} {w : World} (s_ : List Int) (f_ : crew_Cable) {s__p : Option Addr} {s__c : Nat} {b_ : Nat} {f__Rides_p : Option Addr} {f__Rides_c : Nat} {b__1 : Nat} (h_s_ : Rd G 1 s__p s__c (s_.map encI_i64)) (h_f__Rides : Rd G 4 f__Rides_p f__Rides_c (f_.Rides.map enc_crew_Ride)) (hc : Ctx G (.box b_ [i6 f_.Car,i6 f_.Wide,i6 f_.Sag,i6 f_.Most,.slice f__Rides_p f_.Rides.length f__Rides_c] 54::.box b__1 [.func (.func 156) #[] #[]] 147::Lf) w) {res : Int} (hF : slices_IndexFunc_Lint_int_s6 N s_ f_ = some res) : Calls Tryz.prog 97 #[.slice s__p s_.length s__c,.func (.func 98) #[] #[pq b_,pq b__1]] w (fun e w => e = .returned (i6 res) ∧ Ctx G (.box b_ [i6 f_.Car,i6 f_.Wide,i6 f_.Sag,i6 f_.Most,.slice f__Rides_p f_.Rides.length f__Rides_c] 54::.box b__1 [.func (.func 156) #[] #[]] 147::Lf) w) := by
 unfold slices_IndexFunc_Lint_int_s6 at hF
 refine fnIn (args := [.slice s__p s_.length s__c,.func (.func 98) #[] #[pq b_,pq b__1]]) Tryz.func97 rfl Tryz.ntmps97 rfl fun a hf => wp_seq_k fun K1 h1 => cReg ?_
 refine stP hf rfl rfl rfl (pA rfl) fun a hf => cNil ?_
 refine h1 _ _ ?_
 refine wp_seq_k fun K2 h2 => wp_seq_k fun K3 h3 => cReg ?_
 refine stP hf rfl rfl rfl (pM rfl) fun a hf => stP hf rfl rfl rfl (pLenS Tryz.underlying25 rfl) fun a hf => stP hf rfl rfl rfl (pM rfl) fun a hf => cNil ?_
 refine h3 _ _ ?_
 refine wp_block ?_
 obtain ⟨x4,hx4,hF⟩ := bnd_some hF
 let S4 : Int → Act → World → Prop := (fun (zz : Int) a w => Has 19 a [(0,.slice s__p s_.length s__c),(1,.func (.func 98) #[] #[pq b_,pq b__1]),(7,i6 ((s_.length : Nat) : Int)),(8,i6 zz)] ∧ Ctx G (.box b_ [i6 f_.Car,i6 f_.Wide,i6 f_.Sag,i6 f_.Most,.slice f__Rides_p f_.Rides.length f__Rides_c] 54::.box b__1 [.func (.func 156) #[] #[]] 147::Lf) w)
 have hr4 : ∀ (zz : Int) a w,x4 = .go zz → S4 zz a w → K2 a w := by
  rintro x a w rfl ⟨hf,hc⟩
  replace hF := exK_go hF
  refine h2 _ _ ?_
  refine wp_seq_k fun K5 h5 => cReg ?_
  refine stP hf rfl rfl rfl (pA rfl) fun a hf => cNil ?_
  refine h5 _ _ ?_
  refine wp_ret ?_
  obtain rfl := sj hF
  exact fnOut1 (by simp) rfl Tryz.results97 hf hc (show look _ 4 = _ from rfl) ⟨rfl,hc⟩
 have ho4 : ∀ r,x4 = .out r → r = res := by
  rintro r rfl
  exact sj hF
 refine cLoop N (loopW (S := S4) (x := x4) ?_ N 0 _ _ ⟨hf.kp rfl,hc⟩ hx4)
 clear hF hf hc
 rintro x st4 a w KB4 ⟨hf,hc⟩ hF hfin4 hK4
 unfold slices_IndexFunc_Lint_int_s6_b4 at hF
 refine wp_seq_k fun K6 h6 => cReg ?_
 refine stP hf rfl rfl rfl (pLt rfl rfl) fun a hf => cNil ?_
 refine h6 _ _ ?_
 refine wp_seq_k fun K7 h7 => cCond (b := (decide (x < ((s_.length : Nat) : Int)))) hf rfl (fun hb => ?_) (fun hb => ?_)
 ·replace hF := condT hb hF
  clear hb
  refine wp_skip ?_
  refine h7 _ _ ?_
  refine wp_seq_k fun K8 h8 => wp_block ?_
  refine wp_seq_k fun K9 h9 => cReg ?_
  refine stP hf rfl rfl rfl (pM rfl) fun a hf => stP hf rfl rfl rfl (pA rfl) fun a hf => cNil ?_
  refine h9 _ _ ?_
  refine wp_seq_k fun K10 h10 => cReg ?_
  refine stP hf rfl rfl rfl (pM rfl) fun a hf => stP hf rfl rfl rfl (pM rfl) fun a hf => stP hf rfl rfl rfl (pM rfl) fun a hf => ?_
  obtain ⟨e_1,he_1,hF⟩ := bnd_some hF
  obtain ⟨b_1,o,qa,qp⟩ := h_s_.atm he_1
  refine stP hf rfl rfl rfl (pIA Tryz.underlying25 sz_3 rfl rfl qa) fun a hf => stE hf hc rfl rfl rfl (eLd1 sc_3 rfl (cell_pc (j := 0) qp rfl)) fun a w hf hc => ?_
  obtain ⟨r,hr,hF⟩ := bnd_some hF
  refine stE hf hc rfl rfl rfl (eC (v := .bool r) (vs := [i6 e_1]) (caps := [pq b_,pq b__1]) en_98 rfl rfl rfl rfl (fun w hc => (crew_Beyond_1_1_ok e_1 f_ h_f__Rides ((hc.pick k1).pick k1) hr).mono fun e w h => ⟨h.1,((h.2.unpick k1).unpick k1)⟩)) fun a w hf hc => cNil ?_
  refine h10 _ _ ?_
  refine cCond (b := r) hf rfl (fun hb => ?_) (fun hb => ?_)
  ·replace hF := condT hb hF
   clear hb
   refine wp_seq_k fun K11 h11 => cReg ?_
   refine stP hf rfl rfl rfl (pM rfl) fun a hf => stP hf rfl rfl rfl (pA rfl) fun a hf => cNil ?_
   refine h11 _ _ ?_
   refine wp_ret ?_
   refine xBlkR ?_
   refine xThenR ?_
   refine xThenR ?_
   have he := sj hF
   rw [← he] at hfin4
   replace hF := ho4 _ hfin4
   refine xBlkR ?_
   refine xThenR ?_
   obtain rfl := hF
   exact fnOut1 (by simp) rfl Tryz.results97 hf hc (show look _ 4 = _ from rfl) ⟨rfl,hc⟩
  ·replace hF := condF hb hF
   clear hb
   refine wp_skip ?_
   refine h8 _ _ ?_
   refine cReg ?_
   refine stP hf rfl rfl rfl (pAdd rfl rfl) fun a hf => stP hf rfl rfl rfl (pM rfl) fun a hf => cNil ?_
   exact hK4 (W (x + 1)) _ _ (sj hF).symm ⟨hf.kp rfl,hc⟩
 ·replace hF := condF hb hF
  clear hb
  refine wp_exit ?_
  refine xThen ?_
  refine xThen ?_
  have he := sj hF
  rw [← he] at hfin4
  refine cHit ?_
  exact hr4 _ _ _ hfin4 ⟨hf.kp rfl,hc⟩

def crew_Beyond_1 (N : Nat) (x : List Int) (x_1 : crew_Cable) : Option (Int) :=
 Option.bind (slices_IndexFunc_Lint_int_s6 N x x_1) fun r =>
 cond (r == (-1))
 (some (-1))
 (Option.bind (getI x r) fun e_1 =>
 some e_1)
theorem crew_Beyond_1_ok {N : Nat} {G : Pers} {Lf : List Ent} {w : World} (x : List Int) (x_1 : crew_Cable) {b_ : Nat} {x_p : Option Addr} {x_c : Nat} {b__1 : Nat} {x_1_Rides_p : Option Addr} {x_1_Rides_c : Nat} (h_x : Rd G 1 x_p x_c (x.map encI_i64)) (h_x_1_Rides : Rd G 4 x_1_Rides_p x_1_Rides_c (x_1.Rides.map enc_crew_Ride)) (hc : Ctx G (.box b_ [.slice x_p x.length x_c] 25::.box b__1 [i6 x_1.Car,i6 x_1.Wide,i6 x_1.Sag,i6 x_1.Most,.slice x_1_Rides_p x_1.Rides.length x_1_Rides_c] 54::Lf) w) {res : Int} (hF : crew_Beyond_1 N x x_1 = some res) : Calls Tryz.prog 96 #[.agg #[.func (.func 156) #[] #[]],pq b_,pq b__1] w (fun e w => e = .returned (i6 res) ∧ Ctx G (.box b_ [.slice x_p x.length x_c] 25::.box b__1 [i6 x_1.Car,i6 x_1.Wide,i6 x_1.Sag,i6 x_1.Most,.slice x_1_Rides_p x_1.Rides.length x_1_Rides_c] 54::Lf) w) := by
 unfold crew_Beyond_1 at hF
 refine fnIn (args := [.agg #[.func (.func 156) #[] #[]],pq b_,pq b__1]) Tryz.func96 rfl Tryz.ntmps96 rfl fun a hf => wp_seq_k fun K1 h1 => cReg ?_
 refine stBx (cs := [.func (.func 156) #[] #[]]) hf hc rfl rfl rfl rfl fun b_1 a w hf hc => stP hf rfl rfl rfl (pA rfl) fun a hf => cNil ?_
 refine h1 _ _ ?_
 refine wp_seq_k fun K2 h2 => cReg ?_
 refine stE hf hc rfl rfl rfl (eLd1 sc_25 rfl (cell_box m1 rfl)) fun a w hf hc => stP hf rfl rfl rfl (pMF (us := [pq b__1,pq b_1]) rfl rfl) fun a hf => ?_
 obtain ⟨r,hr,hF⟩ := bnd_some hF
 refine stE hf hc rfl rfl rfl (eC (v := i6 r) (vs := [.slice x_p x.length x_c,.func (.func 98) #[] #[pq b__1,pq b_1]]) (caps := []) en_97 rfl rfl rfl rfl (fun w hc => (slices_IndexFunc_Lint_int_s6_ok x x_1 h_x h_x_1_Rides ((hc.pick k0).pick k2) hr).mono fun e w h => ⟨h.1,((h.2.unpick k2).unpick k0)⟩)) fun a w hf hc => stP hf rfl rfl rfl (pA rfl) fun a hf => cNil ?_
 refine h2 _ _ ?_
 refine wp_seq_k fun K3 h3 => wp_seq_k fun K4 h4 => cReg ?_
 refine stP hf rfl rfl rfl (pM rfl) fun a hf => stP hf rfl rfl rfl (pEq rfl rfl) fun a hf => cNil ?_
 refine h4 _ _ ?_
 refine cCond (b := (r == (-1))) hf rfl (fun hb => ?_) (fun hb => ?_)
 ·replace hF := condT hb hF
  clear hb
  refine wp_seq_k fun K5 h5 => cReg ?_
  refine stP hf rfl rfl rfl (pA rfl) fun a hf => cNil ?_
  refine h5 _ _ ?_
  refine wp_ret ?_
  refine xThenR ?_
  obtain rfl := sj hF
  replace hc := hc.drop k0
  exact fnOut1 (by simp) rfl Tryz.results96 hf hc (show look _ 4 = _ from rfl) ⟨rfl,hc⟩
 ·replace hF := condF hb hF
  clear hb
  refine wp_skip ?_
  refine h3 _ _ ?_
  refine wp_seq_k fun K6 h6 => cReg ?_
  refine stE hf hc rfl rfl rfl (eLd1 sc_25 rfl (cell_box m1 rfl)) fun a w hf hc => stP hf rfl rfl rfl (pM rfl) fun a hf => ?_
  obtain ⟨e_1,he_1,hF⟩ := bnd_some hF
  obtain ⟨b_2,o,qa,qp⟩ := h_x.atm he_1
  refine stP hf rfl rfl rfl (pIA Tryz.underlying25 sz_3 rfl rfl qa) fun a hf => stE hf hc rfl rfl rfl (eLd1 sc_3 rfl (cell_pc (j := 0) qp rfl)) fun a w hf hc => stP hf rfl rfl rfl (pA rfl) fun a hf => cNil ?_
  refine h6 _ _ ?_
  refine wp_ret ?_
  obtain rfl := sj hF
  replace hc := hc.drop k0
  exact fnOut1 (by simp) rfl Tryz.results96 hf hc (show look _ 4 = _ from rfl) ⟨rfl,hc⟩

def crew_Beyond_1_1_s2 (N : Nat) (n : Int) (x : crew_Cable) : Option (Bool) :=
 Option.bind (crew_Cable_load N (⟨x.Car,x.Wide,x.Sag,x.Most,x.Rides⟩ : crew_Cable) n) fun r =>
 some (crew_Cable_beyond (⟨x.Car,x.Wide,x.Sag,x.Most,x.Rides⟩ : crew_Cable) r)
theorem crew_Beyond_1_1_s2_ok {N : Nat} {G : Pers} {Lf : List Ent} {w : World} (n : Int) (x : crew_Cable) {b_ : Nat} {x_Rides_p : Option Addr} {x_Rides_c : Nat} {b__1 : Nat} (h_x_Rides : Rd G 4 x_Rides_p x_Rides_c (x.Rides.map enc_crew_Ride)) (hc : Ctx G (.box b_ [i6 x.Car,i6 x.Wide,i6 x.Sag,i6 x.Most,.slice x_Rides_p x.Rides.length x_Rides_c] 54::.box b__1 [.func (.func 155) #[] #[]] 147::Lf) w) {res : Bool} (hF : crew_Beyond_1_1_s2 N n x = some res) : Calls Tryz.prog 98 #[i6 n,pq b_,pq b__1] w (fun e w => e = .returned (.bool res) ∧ Ctx G (.box b_ [i6 x.Car,i6 x.Wide,i6 x.Sag,i6 x.Most,.slice x_Rides_p x.Rides.length x_Rides_c] 54::.box b__1 [.func (.func 155) #[] #[]] 147::Lf) w) := by
 unfold crew_Beyond_1_1_s2 at hF
 refine fnIn (args := [i6 n,pq b_,pq b__1]) Tryz.func98 rfl Tryz.ntmps98 rfl fun a hf => wp_seq_k fun K1 h1 => cReg ?_
 refine stP hf rfl rfl rfl (pA rfl) fun a hf => cNil ?_
 refine h1 _ _ ?_
 refine wp_seq_k fun K2 h2 => ?_
 obtain ⟨r,hr,hF⟩ := bnd_some hF
 refine cQ hc follows_mx (by kernel_rfl) ?_
 refine qE hf rfl rfl rfl (eLdN (vs := [i6 x.Car,i6 x.Wide,i6 x.Sag,i6 x.Most,.slice x_Rides_p x.Rides.length x_Rides_c]) ag_54 rfl rfl (cells_box (n := 5) m0 rfl)) fun a hf => qE hf rfl rfl rfl (eLdN (vs := [i6 x.Car,i6 x.Wide,i6 x.Sag,i6 x.Most,.slice x_Rides_p x.Rides.length x_Rides_c]) ag_54 rfl rfl (cells_box (n := 5) m0 rfl)) fun a hf => qE hf rfl rfl rfl (Pu.ev (pM rfl)) fun a hf => qE hf rfl rfl rfl (eLdN (vs := [.func (.func 155) #[] #[]]) ag_147 rfl rfl (cells_box (n := 1) m1 rfl)) fun a hf => qE hf rfl rfl rfl (eC (v := i6 r) (vs := [.agg #[i6 x.Car,i6 x.Wide,i6 x.Sag,i6 x.Most,.slice x_Rides_p x.Rides.length x_Rides_c],i6 n,.agg #[.func (.func 155) #[] #[]]]) (caps := []) en_93 rfl rfl rfl rfl (fun w hc => crew_Cable_load_ok (⟨x.Car,x.Wide,x.Sag,x.Most,x.Rides⟩ : crew_Cable) n h_x_Rides hc hr)) fun a hf => qE hf rfl rfl rfl (eC (v := .bool (crew_Cable_beyond (⟨x.Car,x.Wide,x.Sag,x.Most,x.Rides⟩ : crew_Cable) r)) (vs := [.agg #[i6 x.Car,i6 x.Wide,i6 x.Sag,i6 x.Most,.slice x_Rides_p x.Rides.length x_Rides_c],i6 r]) (caps := []) en_99 rfl rfl rfl rfl (fun w hc => crew_Cable_beyond_ok (⟨x.Car,x.Wide,x.Sag,x.Most,x.Rides⟩ : crew_Cable) r h_x_Rides hc rfl)) fun a hf => qE hf rfl rfl rfl (Pu.ev (pA rfl)) fun a hf => ?_
 intro w hc
 refine h2 _ _ ?_
 refine wp_ret ?_
 obtain rfl := sj hF
 exact fnOut1 (by simp) rfl Tryz.results98 hf hc (show look _ 4 = _ from rfl) ⟨rfl,hc⟩

def slices_IndexFunc_Lint_int_s7_b4 (N : Nat) (s_ : List Int) (f_ : crew_Cable) (x : Int) : Option (Step (Int) (Int)) :=
 cond (decide (x < ((s_.length : Nat) : Int)))
 (Option.bind (getI s_ x) fun e_1 =>
 Option.bind (crew_Beyond_1_1_s2 N e_1 f_) fun r =>
 cond r
 (some (.ret x))
 (some (.cont (W (x + 1)))))
 (some (.brk x))
def slices_IndexFunc_Lint_int_s7 (N : Nat) (s_ : List Int) (f_ : crew_Cable) : Option (Int) :=
 Option.bind (loopO (fun s4 => slices_IndexFunc_Lint_int_s7_b4 N s_ f_ s4) N 0) fun x4 =>
 exK x4 (fun s4 => some (-1)) some
theorem slices_IndexFunc_Lint_int_s7_ok {N : Nat} {G : Pers} {Lf : List Ent} {w : World} (s_ : List Int) (f_ : crew_Cable) {s__p : Option Addr} {s__c : Nat} {b_ : Nat} {f__Rides_p : Option Addr} {f__Rides_c : Nat} {b__1 : Nat} (h_s_ : Rd G 1 s__p s__c (s_.map encI_i64)) (h_f__Rides : Rd G 4 f__Rides_p f__Rides_c (f_.Rides.map enc_crew_Ride)) (hc : Ctx G (.box b_ [i6 f_.Car,i6 f_.Wide,i6 f_.Sag,i6 f_.Most,.slice f__Rides_p f_.Rides.length f__Rides_c] 54::.box b__1 [.func (.func 155) #[] #[]] 147::Lf) w) {res : Int} (hF : slices_IndexFunc_Lint_int_s7 N s_ f_ = some res) : Calls Tryz.prog 97 #[.slice s__p s_.length s__c,.func (.func 98) #[] #[pq b_,pq b__1]] w (fun e w => e = .returned (i6 res) ∧ Ctx G (.box b_ [i6 f_.Car,i6 f_.Wide,i6 f_.Sag,i6 f_.Most,.slice f__Rides_p f_.Rides.length f__Rides_c] 54::.box b__1 [.func (.func 155) #[] #[]] 147::Lf) w) := by
 unfold slices_IndexFunc_Lint_int_s7 at hF
 refine fnIn (args := [.slice s__p s_.length s__c,.func (.func 98) #[] #[pq b_,pq b__1]]) Tryz.func97 rfl Tryz.ntmps97 rfl fun a hf => wp_seq_k fun K1 h1 => cReg ?_
 refine stP hf rfl rfl rfl (pA rfl) fun a hf => cNil ?_
 refine h1 _ _ ?_
 refine wp_seq_k fun K2 h2 => wp_seq_k fun K3 h3 => cReg ?_
 refine stP hf rfl rfl rfl (pM rfl) fun a hf => stP hf rfl rfl rfl (pLenS Tryz.underlying25 rfl) fun a hf => stP hf rfl rfl rfl (pM rfl) fun a hf => cNil ?_
 refine h3 _ _ ?_
 refine wp_block ?_
 obtain ⟨x4,hx4,hF⟩ := bnd_some hF
 let S4 : Int → Act → World → Prop := (fun (zz : Int) a w => Has 19 a [(0,.slice s__p s_.length s__c),(1,.func (.func 98) #[] #[pq b_,pq b__1]),(7,i6 ((s_.length : Nat) : Int)),(8,i6 zz)] ∧ Ctx G (.box b_ [i6 f_.Car,i6 f_.Wide,i6 f_.Sag,i6 f_.Most,.slice f__Rides_p f_.Rides.length f__Rides_c] 54::.box b__1 [.func (.func 155) #[] #[]] 147::Lf) w)
 have hr4 : ∀ (zz : Int) a w,x4 = .go zz → S4 zz a w → K2 a w := by
  rintro x a w rfl ⟨hf,hc⟩
  replace hF := exK_go hF
  refine h2 _ _ ?_
  refine wp_seq_k fun K5 h5 => cReg ?_
  refine stP hf rfl rfl rfl (pA rfl) fun a hf => cNil ?_
  refine h5 _ _ ?_
  refine wp_ret ?_
  obtain rfl := sj hF
  exact fnOut1 (by simp) rfl Tryz.results97 hf hc (show look _ 4 = _ from rfl) ⟨rfl,hc⟩
 have ho4 : ∀ r,x4 = .out r → r = res := by
  rintro r rfl
  exact sj hF
 refine cLoop N (loopW (S := S4) (x := x4) ?_ N 0 _ _ ⟨hf.kp rfl,hc⟩ hx4)
 clear hF hf hc
 rintro x st4 a w KB4 ⟨hf,hc⟩ hF hfin4 hK4
 unfold slices_IndexFunc_Lint_int_s7_b4 at hF
 refine wp_seq_k fun K6 h6 => cReg ?_
 refine stP hf rfl rfl rfl (pLt rfl rfl) fun a hf => cNil ?_
 refine h6 _ _ ?_
 refine wp_seq_k fun K7 h7 => cCond (b := (decide (x < ((s_.length : Nat) : Int)))) hf rfl (fun hb => ?_) (fun hb => ?_)
 ·replace hF := condT hb hF
  clear hb
  refine wp_skip ?_
  refine h7 _ _ ?_
  refine wp_seq_k fun K8 h8 => wp_block ?_
  refine wp_seq_k fun K9 h9 => cReg ?_
  refine stP hf rfl rfl rfl (pM rfl) fun a hf => stP hf rfl rfl rfl (pA rfl) fun a hf => cNil ?_
  refine h9 _ _ ?_
  refine wp_seq_k fun K10 h10 => cReg ?_
  refine stP hf rfl rfl rfl (pM rfl) fun a hf => stP hf rfl rfl rfl (pM rfl) fun a hf => stP hf rfl rfl rfl (pM rfl) fun a hf => ?_
  obtain ⟨e_1,he_1,hF⟩ := bnd_some hF
  obtain ⟨b_1,o,qa,qp⟩ := h_s_.atm he_1
  refine stP hf rfl rfl rfl (pIA Tryz.underlying25 sz_3 rfl rfl qa) fun a hf => stE hf hc rfl rfl rfl (eLd1 sc_3 rfl (cell_pc (j := 0) qp rfl)) fun a w hf hc => ?_
  obtain ⟨r,hr,hF⟩ := bnd_some hF
  refine stE hf hc rfl rfl rfl (eC (v := .bool r) (vs := [i6 e_1]) (caps := [pq b_,pq b__1]) en_98 rfl rfl rfl rfl (fun w hc => (crew_Beyond_1_1_s2_ok e_1 f_ h_f__Rides ((hc.pick k1).pick k1) hr).mono fun e w h => ⟨h.1,((h.2.unpick k1).unpick k1)⟩)) fun a w hf hc => cNil ?_
  refine h10 _ _ ?_
  refine cCond (b := r) hf rfl (fun hb => ?_) (fun hb => ?_)
  ·replace hF := condT hb hF
   clear hb
   refine wp_seq_k fun K11 h11 => cReg ?_
   refine stP hf rfl rfl rfl (pM rfl) fun a hf => stP hf rfl rfl rfl (pA rfl) fun a hf => cNil ?_
   refine h11 _ _ ?_
   refine wp_ret ?_
   refine xBlkR ?_
   refine xThenR ?_
   refine xThenR ?_
   have he := sj hF
   rw [← he] at hfin4
   replace hF := ho4 _ hfin4
   refine xBlkR ?_
   refine xThenR ?_
   obtain rfl := hF
   exact fnOut1 (by simp) rfl Tryz.results97 hf hc (show look _ 4 = _ from rfl) ⟨rfl,hc⟩
  ·replace hF := condF hb hF
   clear hb
   refine wp_skip ?_
   refine h8 _ _ ?_
   refine cReg ?_
   refine stP hf rfl rfl rfl (pAdd rfl rfl) fun a hf => stP hf rfl rfl rfl (pM rfl) fun a hf => cNil ?_
   exact hK4 (W (x + 1)) _ _ (sj hF).symm ⟨hf.kp rfl,hc⟩
 ·replace hF := condF hb hF
  clear hb
  refine wp_exit ?_
  refine xThen ?_
  refine xThen ?_
  have he := sj hF
  rw [← he] at hfin4
  refine cHit ?_
  exact hr4 _ _ _ hfin4 ⟨hf.kp rfl,hc⟩

def crew_Beyond_1_s2 (N : Nat) (x : List Int) (x_1 : crew_Cable) : Option (Int) :=
 Option.bind (slices_IndexFunc_Lint_int_s7 N x x_1) fun r =>
 cond (r == (-1))
 (some (-1))
 (Option.bind (getI x r) fun e_1 =>
 some e_1)
theorem crew_Beyond_1_s2_ok {N : Nat} {G : Pers} {Lf : List Ent} {w : World} (x : List Int) (x_1 : crew_Cable) {b_ : Nat} {x_p : Option Addr} {x_c : Nat} {b__1 : Nat} {x_1_Rides_p : Option Addr} {x_1_Rides_c : Nat} (h_x : Rd G 1 x_p x_c (x.map encI_i64)) (h_x_1_Rides : Rd G 4 x_1_Rides_p x_1_Rides_c (x_1.Rides.map enc_crew_Ride)) (hc : Ctx G (.box b_ [.slice x_p x.length x_c] 25::.box b__1 [i6 x_1.Car,i6 x_1.Wide,i6 x_1.Sag,i6 x_1.Most,.slice x_1_Rides_p x_1.Rides.length x_1_Rides_c] 54::Lf) w) {res : Int} (hF : crew_Beyond_1_s2 N x x_1 = some res) : Calls Tryz.prog 96 #[.agg #[.func (.func 155) #[] #[]],pq b_,pq b__1] w (fun e w => e = .returned (i6 res) ∧ Ctx G (.box b_ [.slice x_p x.length x_c] 25::.box b__1 [i6 x_1.Car,i6 x_1.Wide,i6 x_1.Sag,i6 x_1.Most,.slice x_1_Rides_p x_1.Rides.length x_1_Rides_c] 54::Lf) w) := by
 unfold crew_Beyond_1_s2 at hF
 refine fnIn (args := [.agg #[.func (.func 155) #[] #[]],pq b_,pq b__1]) Tryz.func96 rfl Tryz.ntmps96 rfl fun a hf => wp_seq_k fun K1 h1 => cReg ?_
 refine stBx (cs := [.func (.func 155) #[] #[]]) hf hc rfl rfl rfl rfl fun b_1 a w hf hc => stP hf rfl rfl rfl (pA rfl) fun a hf => cNil ?_
 refine h1 _ _ ?_
 refine wp_seq_k fun K2 h2 => cReg ?_
 refine stE hf hc rfl rfl rfl (eLd1 sc_25 rfl (cell_box m1 rfl)) fun a w hf hc => stP hf rfl rfl rfl (pMF (us := [pq b__1,pq b_1]) rfl rfl) fun a hf => ?_
 obtain ⟨r,hr,hF⟩ := bnd_some hF
 refine stE hf hc rfl rfl rfl (eC (v := i6 r) (vs := [.slice x_p x.length x_c,.func (.func 98) #[] #[pq b__1,pq b_1]]) (caps := []) en_97 rfl rfl rfl rfl (fun w hc => (slices_IndexFunc_Lint_int_s7_ok x x_1 h_x h_x_1_Rides ((hc.pick k0).pick k2) hr).mono fun e w h => ⟨h.1,((h.2.unpick k2).unpick k0)⟩)) fun a w hf hc => stP hf rfl rfl rfl (pA rfl) fun a hf => cNil ?_
 refine h2 _ _ ?_
 refine wp_seq_k fun K3 h3 => wp_seq_k fun K4 h4 => cReg ?_
 refine stP hf rfl rfl rfl (pM rfl) fun a hf => stP hf rfl rfl rfl (pEq rfl rfl) fun a hf => cNil ?_
 refine h4 _ _ ?_
 refine cCond (b := (r == (-1))) hf rfl (fun hb => ?_) (fun hb => ?_)
 ·replace hF := condT hb hF
  clear hb
  refine wp_seq_k fun K5 h5 => cReg ?_
  refine stP hf rfl rfl rfl (pA rfl) fun a hf => cNil ?_
  refine h5 _ _ ?_
  refine wp_ret ?_
  refine xThenR ?_
  obtain rfl := sj hF
  replace hc := hc.drop k0
  exact fnOut1 (by simp) rfl Tryz.results96 hf hc (show look _ 4 = _ from rfl) ⟨rfl,hc⟩
 ·replace hF := condF hb hF
  clear hb
  refine wp_skip ?_
  refine h3 _ _ ?_
  refine wp_seq_k fun K6 h6 => cReg ?_
  refine stE hf hc rfl rfl rfl (eLd1 sc_25 rfl (cell_box m1 rfl)) fun a w hf hc => stP hf rfl rfl rfl (pM rfl) fun a hf => ?_
  obtain ⟨e_1,he_1,hF⟩ := bnd_some hF
  obtain ⟨b_2,o,qa,qp⟩ := h_x.atm he_1
  refine stP hf rfl rfl rfl (pIA Tryz.underlying25 sz_3 rfl rfl qa) fun a hf => stE hf hc rfl rfl rfl (eLd1 sc_3 rfl (cell_pc (j := 0) qp rfl)) fun a w hf hc => stP hf rfl rfl rfl (pA rfl) fun a hf => cNil ?_
  refine h6 _ _ ?_
  refine wp_ret ?_
  obtain rfl := sj hF
  replace hc := hc.drop k0
  exact fnOut1 (by simp) rfl Tryz.results96 hf hc (show look _ 4 = _ from rfl) ⟨rfl,hc⟩

def crew_Beyond (N : Nat) (c_ : crew_Cable) : Option (Int × Int × Int) :=
 Option.bind (crew_CheckCable N c_) fun r =>
 cond (r != 0)
 (some (0,0,r))
 (Option.bind (crew_Cable_starts N c_) fun r_1 =>
 Option.bind (crew_Beyond_1 N r_1 c_) fun r_2 =>
 Option.bind (crew_Beyond_1_s2 N r_1 c_) fun r_3 =>
 some (r_2,r_3,0))
theorem crew_Beyond_ok {N : Nat} {G : Pers} {Lf : List Ent} {w : World} (c_ : crew_Cable) {c__Rides_p : Option Addr} {c__Rides_c : Nat} (h_c__Rides : Rd G 4 c__Rides_p c__Rides_c (c_.Rides.map enc_crew_Ride)) (hc : Ctx G (Lf) w) {res : Int × Int × Int} (hF : crew_Beyond N c_ = some res) : Calls Tryz.prog 36 #[.agg #[i6 c_.Car,i6 c_.Wide,i6 c_.Sag,i6 c_.Most,.slice c__Rides_p c_.Rides.length c__Rides_c]] w (fun e w => e = .returned (.tuple #[i6 res.1,i6 res.2.1,i6 res.2.2]) ∧ Ctx G (Lf) w) := by
 unfold crew_Beyond at hF
 refine fnIn (args := [.agg #[i6 c_.Car,i6 c_.Wide,i6 c_.Sag,i6 c_.Most,.slice c__Rides_p c_.Rides.length c__Rides_c]]) Tryz.func36 rfl Tryz.ntmps36 rfl fun a hf => wp_seq_k fun K1 h1 => cReg ?_
 refine stBx (cs := [i6 c_.Car,i6 c_.Wide,i6 c_.Sag,i6 c_.Most,.slice c__Rides_p c_.Rides.length c__Rides_c]) hf hc rfl rfl rfl rfl fun b_1 a w hf hc => stP hf rfl rfl rfl (pA rfl) fun a hf => stP hf rfl rfl rfl (pA rfl) fun a hf => stP hf rfl rfl rfl (pA rfl) fun a hf => cNil ?_
 refine h1 _ _ ?_
 refine wp_seq_k fun K2 h2 => wp_seq_k fun K3 h3 => cReg ?_
 refine stE hf hc rfl rfl rfl (eLdN (vs := [i6 c_.Car,i6 c_.Wide,i6 c_.Sag,i6 c_.Most,.slice c__Rides_p c_.Rides.length c__Rides_c]) ag_54 rfl rfl (cells_box (n := 5) m0 rfl)) fun a w hf hc => ?_
 obtain ⟨r,hr,hF⟩ := bnd_some hF
 refine stE hf hc rfl rfl rfl (eC (v := i6 r) (vs := [.agg #[i6 c_.Car,i6 c_.Wide,i6 c_.Sag,i6 c_.Most,.slice c__Rides_p c_.Rides.length c__Rides_c]]) (caps := []) en_31 rfl rfl rfl rfl (fun w hc => crew_CheckCable_ok c_ h_c__Rides hc hr)) fun a w hf hc => stP hf rfl rfl rfl (pA rfl) fun a hf => cNil ?_
 refine h3 _ _ ?_
 refine wp_seq_k fun K4 h4 => cReg ?_
 refine stP hf rfl rfl rfl (pM rfl) fun a hf => stP hf rfl rfl rfl (pNe rfl rfl) fun a hf => cNil ?_
 refine h4 _ _ ?_
 refine cCond (b := (r != 0)) hf rfl (fun hb => ?_) (fun hb => ?_)
 ·replace hF := condT hb hF
  clear hb
  refine wp_seq_k fun K5 h5 => cReg ?_
  refine stP hf rfl rfl rfl (pM rfl) fun a hf => stP hf rfl rfl rfl (pA rfl) fun a hf => stP hf rfl rfl rfl (pA rfl) fun a hf => stP hf rfl rfl rfl (pA rfl) fun a hf => cNil ?_
  refine h5 _ _ ?_
  refine wp_ret ?_
  refine xThenR ?_
  obtain rfl := sj hF
  replace hc := hc.drop k0
  exact fnOut3 (by simp) rfl Tryz.results36 hf hc (show look _ 2 = _ from rfl) (show look _ 3 = _ from rfl) (show look _ 4 = _ from rfl) ⟨rfl,hc⟩
 ·replace hF := condF hb hF
  clear hb
  refine wp_skip ?_
  refine h2 _ _ ?_
  refine wp_seq_k fun K6 h6 => cReg ?_
  refine stE hf hc rfl rfl rfl (eLdN (vs := [i6 c_.Car,i6 c_.Wide,i6 c_.Sag,i6 c_.Most,.slice c__Rides_p c_.Rides.length c__Rides_c]) ag_54 rfl rfl (cells_box (n := 5) m0 rfl)) fun a w hf hc => ?_
  obtain ⟨r_1,hr_1,hF⟩ := bnd_some hF
  refine stC (vs := [.agg #[i6 c_.Car,i6 c_.Wide,i6 c_.Sag,i6 c_.Most,.slice c__Rides_p c_.Rides.length c__Rides_c]]) (caps := []) hf rfl rfl rfl en_95 rfl rfl rfl rfl (crew_Cable_starts_ok c_ h_c__Rides hc hr_1) ?_
  rintro _ w ⟨p_1,c_1,rfl,hc⟩
  refine ⟨_,rfl,fun a hf => ?_⟩
  refine stAl (cs := [.slice none 0 0]) hf hc rfl rfl zr_25 rfl fun b_2 a w hf hc => stSt (vs := [.slice p_1 r_1.length c_1]) hf hc rfl rfl rfl rfl sz_25 rfl rfl u0 fun w hc => cNil ?_
  refine h6 _ _ ?_
  refine wp_seq_k fun K7 h7 => cReg ?_
  refine stP hf rfl rfl rfl (pMF (us := [pq b_2,pq b_1]) rfl rfl) fun a hf => stP hf rfl rfl rfl (pA rfl) fun a hf => cNil ?_
  refine h7 _ _ ?_
  refine wp_seq_k fun K8 h8 => cReg ?_
  refine stP hf rfl rfl rfl (pM rfl) fun a hf => stE hf hc rfl rfl rfl (eC (v := .agg #[.func (.func 156) #[] #[]]) (vs := []) (caps := []) en_83 rfl rfl rfl rfl (fun w hc => crew_high_ok hc rfl)) fun a w hf hc => ?_
  obtain ⟨r_2,hr_2,hF⟩ := bnd_some hF
  refine stE hf hc rfl rfl rfl (eC (v := i6 r_2) (vs := [.agg #[.func (.func 156) #[] #[]]]) (caps := [pq b_2,pq b_1]) en_96 rfl rfl rfl rfl (fun w hc => by obtain ⟨G1,hle1,hrd1,hc,hth1⟩ := lend hc k1; exact (crew_Beyond_1_ok r_1 c_ hrd1 (h_c__Rides.mono hle1) ((hc.pick k1).pick k1) hr_2).mono fun e w h => ⟨h.1,((hth1 _ _ ((h.2.unpick k1).unpick k1)).unpick k1)⟩)) fun a w hf hc => stP hf rfl rfl rfl (pM rfl) fun a hf => stE hf hc rfl rfl rfl (eC (v := .agg #[.func (.func 155) #[] #[]]) (vs := []) (caps := []) en_82 rfl rfl rfl rfl (fun w hc => crew_low_ok hc rfl)) fun a w hf hc => ?_
  obtain ⟨r_3,hr_3,hF⟩ := bnd_some hF
  refine stE hf hc rfl rfl rfl (eC (v := i6 r_3) (vs := [.agg #[.func (.func 155) #[] #[]]]) (caps := [pq b_2,pq b_1]) en_96 rfl rfl rfl rfl (fun w hc => by obtain ⟨G1,hle1,hrd1,hc,hth1⟩ := lend hc k1; exact (crew_Beyond_1_s2_ok r_1 c_ hrd1 (h_c__Rides.mono hle1) ((hc.pick k1).pick k1) hr_3).mono fun e w h => ⟨h.1,((hth1 _ _ ((h.2.unpick k1).unpick k1)).unpick k1)⟩)) fun a w hf hc => stP hf rfl rfl rfl (pA rfl) fun a hf => stP hf rfl rfl rfl (pA rfl) fun a hf => stP hf rfl rfl rfl (pA rfl) fun a hf => cNil ?_
  refine h8 _ _ ?_
  refine wp_ret ?_
  obtain rfl := sj hF
  replace hc := hc.drop k2
  replace hc := hc.drop k1
  replace hc := hc.drop k0
  exact fnOut3 (by simp) rfl Tryz.results36 hf hc (show look _ 2 = _ from rfl) (show look _ 3 = _ from rfl) (show look _ 4 = _ from rfl) ⟨rfl,hc⟩

def crew_Queue_1 (r : crew_Ride) (x : crew_Cable) : Bool :=
 (!(crew_Cable_beyond (⟨x.Car,x.Wide,x.Sag,x.Most,x.Rides⟩ : crew_Cable) (W (x.Car + r.Weight.Hi))))
theorem crew_Queue_1_ok {G : Pers} {Lf : List Ent} {w : World} (r : crew_Ride) (x : crew_Cable) {b_ : Nat} {x_Rides_p : Option Addr} {x_Rides_c : Nat} (h_x_Rides : Rd G 4 x_Rides_p x_Rides_c (x.Rides.map enc_crew_Ride)) (hc : Ctx G (.box b_ [i6 x.Car,i6 x.Wide,i6 x.Sag,i6 x.Most,.slice x_Rides_p x.Rides.length x_Rides_c] 54::Lf) w) {res : Bool} (hF : crew_Queue_1 r x = res) : Calls Tryz.prog 101 #[.agg #[i6 r.From,i6 r.Long,i6 r.Weight.Lo,i6 r.Weight.Hi],pq b_] w (fun e w => e = .returned (.bool res) ∧ Ctx G (.box b_ [i6 x.Car,i6 x.Wide,i6 x.Sag,i6 x.Most,.slice x_Rides_p x.Rides.length x_Rides_c] 54::Lf) w) := by
 unfold crew_Queue_1 at hF
 refine fnIn (args := [.agg #[i6 r.From,i6 r.Long,i6 r.Weight.Lo,i6 r.Weight.Hi],pq b_]) Tryz.func101 rfl Tryz.ntmps101 rfl fun a hf => wp_seq_k fun K1 h1 => cReg ?_
 refine stBx (cs := [i6 r.From,i6 r.Long,i6 r.Weight.Lo,i6 r.Weight.Hi]) hf hc rfl rfl rfl rfl fun b_1 a w hf hc => stP hf rfl rfl rfl (pA rfl) fun a hf => cNil ?_
 refine h1 _ _ ?_
 refine wp_seq_k fun K2 h2 => cReg ?_
 refine stE hf hc rfl rfl rfl (eLdN (vs := [i6 x.Car,i6 x.Wide,i6 x.Sag,i6 x.Most,.slice x_Rides_p x.Rides.length x_Rides_c]) ag_54 rfl rfl (cells_box (n := 5) m1 rfl)) fun a w hf hc => stP hf rfl rfl rfl (pFA fa_54_0 rfl) fun a hf => stE hf hc rfl rfl rfl (eLd1 sc_3 rfl (cell_box m1 rfl)) fun a w hf hc => stP hf rfl rfl rfl (pFA fa_72_2 rfl) fun a hf => stP hf rfl rfl rfl (pFA fa_29_1 rfl) fun a hf => stE hf hc rfl rfl rfl (eLd1 sc_3 rfl (cell_box m0 rfl)) fun a w hf hc => stP hf rfl rfl rfl (pAdd rfl rfl) fun a hf => stE hf hc rfl rfl rfl (eC (v := .bool (crew_Cable_beyond (⟨x.Car,x.Wide,x.Sag,x.Most,x.Rides⟩ : crew_Cable) (W (x.Car + r.Weight.Hi)))) (vs := [.agg #[i6 x.Car,i6 x.Wide,i6 x.Sag,i6 x.Most,.slice x_Rides_p x.Rides.length x_Rides_c],i6 (W (x.Car + r.Weight.Hi))]) (caps := []) en_99 rfl rfl rfl rfl (fun w hc => crew_Cable_beyond_ok (⟨x.Car,x.Wide,x.Sag,x.Most,x.Rides⟩ : crew_Cable) (W (x.Car + r.Weight.Hi)) h_x_Rides hc rfl)) fun a w hf hc => stP hf rfl rfl rfl (pNot rfl) fun a hf => stP hf rfl rfl rfl (pA rfl) fun a hf => cNil ?_
 refine h2 _ _ ?_
 refine wp_ret ?_
 obtain rfl := hF
 replace hc := hc.drop k0
 exact fnOut1 (by simp) rfl Tryz.results101 hf hc (show look _ 3 = _ from rfl) ⟨rfl,hc⟩

def crew_every_crew_Ride_1_s2 (x : crew_Ride) (x_1 : crew_Cable) : Bool :=
 (!(crew_Queue_1 (⟨x.From,x.Long,x.Weight⟩ : crew_Ride) x_1))
theorem crew_every_crew_Ride_1_s2_ok {G : Pers} {Lf : List Ent} {w : World} (x : crew_Ride) (x_1 : crew_Cable) {b_ : Nat} {b__1 : Nat} {x_1_Rides_p : Option Addr} {x_1_Rides_c : Nat} (h_x_1_Rides : Rd G 4 x_1_Rides_p x_1_Rides_c (x_1.Rides.map enc_crew_Ride)) (hc : Ctx G (.box b_ [.func (.func 101) #[] #[pq b__1]] 155::.box b__1 [i6 x_1.Car,i6 x_1.Wide,i6 x_1.Sag,i6 x_1.Most,.slice x_1_Rides_p x_1.Rides.length x_1_Rides_c] 54::Lf) w) {res : Bool} (hF : crew_every_crew_Ride_1_s2 x x_1 = res) : Calls Tryz.prog 159 #[.agg #[i6 x.From,i6 x.Long,i6 x.Weight.Lo,i6 x.Weight.Hi],pq b_] w (fun e w => e = .returned (.bool res) ∧ Ctx G (.box b_ [.func (.func 101) #[] #[pq b__1]] 155::.box b__1 [i6 x_1.Car,i6 x_1.Wide,i6 x_1.Sag,i6 x_1.Most,.slice x_1_Rides_p x_1.Rides.length x_1_Rides_c] 54::Lf) w) := by
 unfold crew_every_crew_Ride_1_s2 at hF
 refine fnIn (args := [.agg #[i6 x.From,i6 x.Long,i6 x.Weight.Lo,i6 x.Weight.Hi],pq b_]) Tryz.func159 rfl Tryz.ntmps159 rfl fun a hf => wp_seq_k fun K1 h1 => cReg ?_
 refine stBx (cs := [i6 x.From,i6 x.Long,i6 x.Weight.Lo,i6 x.Weight.Hi]) hf hc rfl rfl rfl rfl fun b_1 a w hf hc => stP hf rfl rfl rfl (pA rfl) fun a hf => cNil ?_
 refine h1 _ _ ?_
 refine wp_seq_k fun K2 h2 => cReg ?_
 refine stE hf hc rfl rfl rfl (eLd1 sc_155 rfl (cell_box m1 rfl)) fun a w hf hc => stE hf hc rfl rfl rfl (eLdN (vs := [i6 x.From,i6 x.Long,i6 x.Weight.Lo,i6 x.Weight.Hi]) ag_72 rfl rfl (cells_box (n := 4) m0 rfl)) fun a w hf hc => stE hf hc rfl rfl rfl (eC (v := .bool (crew_Queue_1 (⟨x.From,x.Long,x.Weight⟩ : crew_Ride) x_1)) (vs := [.agg #[i6 x.From,i6 x.Long,i6 x.Weight.Lo,i6 x.Weight.Hi]]) (caps := [pq b__1]) en_101 rfl rfl rfl rfl (fun w hc => (crew_Queue_1_ok (⟨x.From,x.Long,x.Weight⟩ : crew_Ride) x_1 h_x_1_Rides (hc.pick k2) rfl).mono fun e w h => ⟨h.1,(h.2.unpick k2)⟩)) fun a w hf hc => stP hf rfl rfl rfl (pNot rfl) fun a hf => stP hf rfl rfl rfl (pA rfl) fun a hf => cNil ?_
 refine h2 _ _ ?_
 refine wp_ret ?_
 obtain rfl := hF
 replace hc := hc.drop k0
 exact fnOut1 (by simp) rfl Tryz.results159 hf hc (show look _ 3 = _ from rfl) ⟨rfl,hc⟩

def slices_IndexFunc_Lcrew_Ride_crew_Ride_s2_b4 (N : Nat) (s_ : List crew_Ride) (f_ : crew_Cable) (x : Int) : Option (Step (Int) (Int)) :=
 cond (decide (x < ((s_.length : Nat) : Int)))
 (Option.bind (getI s_ x) fun e_1 =>
 cond (crew_every_crew_Ride_1_s2 e_1 f_)
 (some (.ret x))
 (some (.cont (W (x + 1)))))
 (some (.brk x))
def slices_IndexFunc_Lcrew_Ride_crew_Ride_s2 (N : Nat) (s_ : List crew_Ride) (f_ : crew_Cable) : Option (Int) :=
 Option.bind (loopO (fun s4 => slices_IndexFunc_Lcrew_Ride_crew_Ride_s2_b4 N s_ f_ s4) N 0) fun x4 =>
 exK x4 (fun s4 => some (-1)) some
theorem slices_IndexFunc_Lcrew_Ride_crew_Ride_s2_ok {N : Nat} {G : Pers} {Lf : List Ent} {w : World} (s_ : List crew_Ride) (f_ : crew_Cable) {s__p : Option Addr} {s__c : Nat} {b_ : Nat} {b__1 : Nat} {f__Rides_p : Option Addr} {f__Rides_c : Nat} (h_s_ : Rd G 4 s__p s__c (s_.map enc_crew_Ride)) (h_f__Rides : Rd G 4 f__Rides_p f__Rides_c (f_.Rides.map enc_crew_Ride)) (hc : Ctx G (.box b_ [.func (.func 101) #[] #[pq b__1]] 155::.box b__1 [i6 f_.Car,i6 f_.Wide,i6 f_.Sag,i6 f_.Most,.slice f__Rides_p f_.Rides.length f__Rides_c] 54::Lf) w) {res : Int} (hF : slices_IndexFunc_Lcrew_Ride_crew_Ride_s2 N s_ f_ = some res) : Calls Tryz.prog 185 #[.slice s__p s_.length s__c,.func (.func 159) #[] #[pq b_]] w (fun e w => e = .returned (i6 res) ∧ Ctx G (.box b_ [.func (.func 101) #[] #[pq b__1]] 155::.box b__1 [i6 f_.Car,i6 f_.Wide,i6 f_.Sag,i6 f_.Most,.slice f__Rides_p f_.Rides.length f__Rides_c] 54::Lf) w) := by
 unfold slices_IndexFunc_Lcrew_Ride_crew_Ride_s2 at hF
 refine fnIn (args := [.slice s__p s_.length s__c,.func (.func 159) #[] #[pq b_]]) Tryz.func185 rfl Tryz.ntmps185 rfl fun a hf => wp_seq_k fun K1 h1 => cReg ?_
 refine stP hf rfl rfl rfl (pA rfl) fun a hf => cNil ?_
 refine h1 _ _ ?_
 refine wp_seq_k fun K2 h2 => wp_seq_k fun K3 h3 => cReg ?_
 refine stP hf rfl rfl rfl (pM rfl) fun a hf => stP hf rfl rfl rfl (pLenS Tryz.underlying52 rfl) fun a hf => stP hf rfl rfl rfl (pM rfl) fun a hf => cNil ?_
 refine h3 _ _ ?_
 refine wp_block ?_
 obtain ⟨x4,hx4,hF⟩ := bnd_some hF
 let S4 : Int → Act → World → Prop := (fun (zz : Int) a w => Has 19 a [(0,.slice s__p s_.length s__c),(1,.func (.func 159) #[] #[pq b_]),(7,i6 ((s_.length : Nat) : Int)),(8,i6 zz)] ∧ Ctx G (.box b_ [.func (.func 101) #[] #[pq b__1]] 155::.box b__1 [i6 f_.Car,i6 f_.Wide,i6 f_.Sag,i6 f_.Most,.slice f__Rides_p f_.Rides.length f__Rides_c] 54::Lf) w)
 have hr4 : ∀ (zz : Int) a w,x4 = .go zz → S4 zz a w → K2 a w := by
  rintro x a w rfl ⟨hf,hc⟩
  replace hF := exK_go hF
  refine h2 _ _ ?_
  refine wp_seq_k fun K5 h5 => cReg ?_
  refine stP hf rfl rfl rfl (pA rfl) fun a hf => cNil ?_
  refine h5 _ _ ?_
  refine wp_ret ?_
  obtain rfl := sj hF
  exact fnOut1 (by simp) rfl Tryz.results185 hf hc (show look _ 4 = _ from rfl) ⟨rfl,hc⟩
 have ho4 : ∀ r,x4 = .out r → r = res := by
  rintro r rfl
  exact sj hF
 refine cLoop N (loopW (S := S4) (x := x4) ?_ N 0 _ _ ⟨hf.kp rfl,hc⟩ hx4)
 clear hF hf hc
 rintro x st4 a w KB4 ⟨hf,hc⟩ hF hfin4 hK4
 unfold slices_IndexFunc_Lcrew_Ride_crew_Ride_s2_b4 at hF
 refine wp_seq_k fun K6 h6 => cReg ?_
 refine stP hf rfl rfl rfl (pLt rfl rfl) fun a hf => cNil ?_
 refine h6 _ _ ?_
 refine wp_seq_k fun K7 h7 => cCond (b := (decide (x < ((s_.length : Nat) : Int)))) hf rfl (fun hb => ?_) (fun hb => ?_)
 ·replace hF := condT hb hF
  clear hb
  refine wp_skip ?_
  refine h7 _ _ ?_
  refine wp_seq_k fun K8 h8 => wp_block ?_
  refine wp_seq_k fun K9 h9 => cReg ?_
  refine stP hf rfl rfl rfl (pM rfl) fun a hf => stP hf rfl rfl rfl (pA rfl) fun a hf => cNil ?_
  refine h9 _ _ ?_
  refine wp_seq_k fun K10 h10 => cReg ?_
  refine stP hf rfl rfl rfl (pM rfl) fun a hf => stP hf rfl rfl rfl (pM rfl) fun a hf => stP hf rfl rfl rfl (pM rfl) fun a hf => ?_
  obtain ⟨e_1,he_1,hF⟩ := bnd_some hF
  obtain ⟨b_1,o,qa,qp⟩ := h_s_.atm he_1
  refine stP hf rfl rfl rfl (pIA Tryz.underlying52 sz_72 rfl rfl qa) fun a hf => stE hf hc rfl rfl rfl (eLdN (vs := [i6 e_1.From,i6 e_1.Long,i6 e_1.Weight.Lo,i6 e_1.Weight.Hi]) ag_72 rfl rfl (cells_pc qp (n := 4) (o' := 0) rfl)) fun a w hf hc => stE hf hc rfl rfl rfl (eC (v := .bool (crew_every_crew_Ride_1_s2 e_1 f_)) (vs := [.agg #[i6 e_1.From,i6 e_1.Long,i6 e_1.Weight.Lo,i6 e_1.Weight.Hi]]) (caps := [pq b_]) en_159 rfl rfl rfl rfl (fun w hc => (crew_every_crew_Ride_1_s2_ok e_1 f_ h_f__Rides ((hc.pick k1).pick k1) rfl).mono fun e w h => ⟨h.1,((h.2.unpick k1).unpick k1)⟩)) fun a w hf hc => cNil ?_
  refine h10 _ _ ?_
  refine cCond (b := (crew_every_crew_Ride_1_s2 e_1 f_)) hf rfl (fun hb => ?_) (fun hb => ?_)
  ·replace hF := condT hb hF
   clear hb
   refine wp_seq_k fun K11 h11 => cReg ?_
   refine stP hf rfl rfl rfl (pM rfl) fun a hf => stP hf rfl rfl rfl (pA rfl) fun a hf => cNil ?_
   refine h11 _ _ ?_
   refine wp_ret ?_
   refine xBlkR ?_
   refine xThenR ?_
   refine xThenR ?_
   have he := sj hF
   rw [← he] at hfin4
   replace hF := ho4 _ hfin4
   refine xBlkR ?_
   refine xThenR ?_
   obtain rfl := hF
   exact fnOut1 (by simp) rfl Tryz.results185 hf hc (show look _ 4 = _ from rfl) ⟨rfl,hc⟩
  ·replace hF := condF hb hF
   clear hb
   refine wp_skip ?_
   refine h8 _ _ ?_
   refine cReg ?_
   refine stP hf rfl rfl rfl (pAdd rfl rfl) fun a hf => stP hf rfl rfl rfl (pM rfl) fun a hf => cNil ?_
   exact hK4 (W (x + 1)) _ _ (sj hF).symm ⟨hf.kp rfl,hc⟩
 ·replace hF := condF hb hF
  clear hb
  refine wp_exit ?_
  refine xThen ?_
  refine xThen ?_
  have he := sj hF
  rw [← he] at hfin4
  refine cHit ?_
  exact hr4 _ _ _ hfin4 ⟨hf.kp rfl,hc⟩

def slices_ContainsFunc_Lcrew_Ride_crew_Ride_s2 (N : Nat) (s_ : List crew_Ride) (f_ : crew_Cable) : Option (Bool) :=
 Option.bind (slices_IndexFunc_Lcrew_Ride_crew_Ride_s2 N s_ f_) fun r =>
 some (decide (0 ≤ r))
theorem slices_ContainsFunc_Lcrew_Ride_crew_Ride_s2_ok {N : Nat} {G : Pers} {Lf : List Ent} {w : World} (s_ : List crew_Ride) (f_ : crew_Cable) {s__p : Option Addr} {s__c : Nat} {b_ : Nat} {b__1 : Nat} {f__Rides_p : Option Addr} {f__Rides_c : Nat} (h_s_ : Rd G 4 s__p s__c (s_.map enc_crew_Ride)) (h_f__Rides : Rd G 4 f__Rides_p f__Rides_c (f_.Rides.map enc_crew_Ride)) (hc : Ctx G (.box b_ [.func (.func 101) #[] #[pq b__1]] 155::.box b__1 [i6 f_.Car,i6 f_.Wide,i6 f_.Sag,i6 f_.Most,.slice f__Rides_p f_.Rides.length f__Rides_c] 54::Lf) w) {res : Bool} (hF : slices_ContainsFunc_Lcrew_Ride_crew_Ride_s2 N s_ f_ = some res) : Calls Tryz.prog 158 #[.slice s__p s_.length s__c,.func (.func 159) #[] #[pq b_]] w (fun e w => e = .returned (.bool res) ∧ Ctx G (.box b_ [.func (.func 101) #[] #[pq b__1]] 155::.box b__1 [i6 f_.Car,i6 f_.Wide,i6 f_.Sag,i6 f_.Most,.slice f__Rides_p f_.Rides.length f__Rides_c] 54::Lf) w) := by
 unfold slices_ContainsFunc_Lcrew_Ride_crew_Ride_s2 at hF
 refine fnIn (args := [.slice s__p s_.length s__c,.func (.func 159) #[] #[pq b_]]) Tryz.func158 rfl Tryz.ntmps158 rfl fun a hf => wp_seq_k fun K1 h1 => cReg ?_
 refine stP hf rfl rfl rfl (pA rfl) fun a hf => cNil ?_
 refine h1 _ _ ?_
 refine wp_seq_k fun K2 h2 => cReg ?_
 refine stP hf rfl rfl rfl (pM rfl) fun a hf => stP hf rfl rfl rfl (pM rfl) fun a hf => ?_
 obtain ⟨r,hr,hF⟩ := bnd_some hF
 refine stE hf hc rfl rfl rfl (eC (v := i6 r) (vs := [.slice s__p s_.length s__c,.func (.func 159) #[] #[pq b_]]) (caps := []) en_185 rfl rfl rfl rfl (fun w hc => (slices_IndexFunc_Lcrew_Ride_crew_Ride_s2_ok s_ f_ h_s_ h_f__Rides ((hc.pick k1).pick k1) hr).mono fun e w h => ⟨h.1,((h.2.unpick k1).unpick k1)⟩)) fun a w hf hc => stP hf rfl rfl rfl (pGe rfl rfl) fun a hf => stP hf rfl rfl rfl (pA rfl) fun a hf => cNil ?_
 refine h2 _ _ ?_
 refine wp_ret ?_
 obtain rfl := sj hF
 exact fnOut1 (by simp) rfl Tryz.results158 hf hc (show look _ 4 = _ from rfl) ⟨rfl,hc⟩

def crew_every_crew_Ride_s2 (N : Nat) (l : List crew_Ride) (so : crew_Cable) : Option (Bool) :=
 Option.bind (slices_ContainsFunc_Lcrew_Ride_crew_Ride_s2 N l so) fun r =>
 some (!r)
theorem crew_every_crew_Ride_s2_ok {N : Nat} {G : Pers} {Lf : List Ent} {w : World} (l : List crew_Ride) (so : crew_Cable) {l_p : Option Addr} {l_c : Nat} {b_ : Nat} {so_Rides_p : Option Addr} {so_Rides_c : Nat} (h_l : Rd G 4 l_p l_c (l.map enc_crew_Ride)) (h_so_Rides : Rd G 4 so_Rides_p so_Rides_c (so.Rides.map enc_crew_Ride)) (hc : Ctx G (.box b_ [i6 so.Car,i6 so.Wide,i6 so.Sag,i6 so.Most,.slice so_Rides_p so.Rides.length so_Rides_c] 54::Lf) w) {res : Bool} (hF : crew_every_crew_Ride_s2 N l so = some res) : Calls Tryz.prog 90 #[.slice l_p l.length l_c,.func (.func 101) #[] #[pq b_]] w (fun e w => e = .returned (.bool res) ∧ Ctx G (.box b_ [i6 so.Car,i6 so.Wide,i6 so.Sag,i6 so.Most,.slice so_Rides_p so.Rides.length so_Rides_c] 54::Lf) w) := by
 unfold crew_every_crew_Ride_s2 at hF
 refine fnIn (args := [.slice l_p l.length l_c,.func (.func 101) #[] #[pq b_]]) Tryz.func90 rfl Tryz.ntmps90 rfl fun a hf => wp_seq_k fun K1 h1 => cReg ?_
 refine stBx (cs := [.func (.func 101) #[] #[pq b_]]) hf hc rfl rfl rfl rfl fun b_1 a w hf hc => stP hf rfl rfl rfl (pA rfl) fun a hf => cNil ?_
 refine h1 _ _ ?_
 refine wp_seq_k fun K2 h2 => cReg ?_
 refine stP hf rfl rfl rfl (pM rfl) fun a hf => stP hf rfl rfl rfl (pMF (us := [pq b_1]) rfl rfl) fun a hf => ?_
 obtain ⟨r,hr,hF⟩ := bnd_some hF
 refine stE hf hc rfl rfl rfl (eC (v := .bool r) (vs := [.slice l_p l.length l_c,.func (.func 159) #[] #[pq b_1]]) (caps := []) en_158 rfl rfl rfl rfl (fun w hc => (slices_ContainsFunc_Lcrew_Ride_crew_Ride_s2_ok l so h_l h_so_Rides ((hc.pick k1).pick k1) hr).mono fun e w h => ⟨h.1,((h.2.unpick k1).unpick k1)⟩)) fun a w hf hc => stP hf rfl rfl rfl (pNot rfl) fun a hf => stP hf rfl rfl rfl (pA rfl) fun a hf => cNil ?_
 refine h2 _ _ ?_
 refine wp_ret ?_
 obtain rfl := sj hF
 replace hc := hc.drop k0
 exact fnOut1 (by simp) rfl Tryz.results90 hf hc (show look _ 4 = _ from rfl) ⟨rfl,hc⟩

def slices_Clone_Lcrew_Ride_crew_Ride (N : Nat) (s_ : List crew_Ride) : Option ((List crew_Ride)) :=
 Option.bind (room (s_).length) fun un =>
 some s_
theorem slices_Clone_Lcrew_Ride_crew_Ride_ok {N : Nat} {G : Pers} {Lf : List Ent} {w : World} (s_ : List crew_Ride) {s__p : Option Addr} {s__c : Nat} (h_s_ : Rd G 4 s__p s__c (s_.map enc_crew_Ride)) (hc : Ctx G (Lf) w) {res : (List crew_Ride)} (hF : slices_Clone_Lcrew_Ride_crew_Ride N s_ = some res) : Calls Tryz.prog 102 #[.slice s__p s_.length s__c] w (fun e w => ∃ (p'1 : Option Addr) (c'1 : Nat),e = .returned (.slice p'1 res.length c'1) ∧ Ctx G (.row p'1 c'1 (res.map enc_crew_Ride) 72 4::Lf) w) := by
 unfold slices_Clone_Lcrew_Ride_crew_Ride at hF
 refine fnIn (args := [.slice s__p s_.length s__c]) Tryz.func102 rfl Tryz.ntmps102 rfl fun a hf => wp_seq_k fun K1 h1 => cReg ?_
 refine stP hf rfl rfl rfl (pA rfl) fun a hf => cNil ?_
 refine h1 _ _ ?_
 refine wp_seq_k fun K2 h2 => wp_seq_k fun K3 h3 => cReg ?_
 refine stP hf rfl rfl rfl (pM rfl) fun a hf => stP hf rfl rfl rfl (pEqN Tryz.underlying52 rfl rfl) fun a hf => cNil ?_
 refine h3 _ _ ?_
 rcases rd_nilq h_s_ with ⟨hp,hx⟩ | hp
 ·rw [hp] at hf
  replace hF : (some ([] : List crew_Ride)) = some res := by
   try rw [hx] at hF
   exact hF
  refine cCondT hf rfl ?_
  refine wp_seq_k fun K4 h4 => cReg ?_
  refine stP hf rfl rfl rfl (pA rfl) fun a hf => cNil ?_
  refine h4 _ _ ?_
  refine wp_ret ?_
  refine xThenR ?_
  obtain rfl := sj hF
  replace hc := hc.nilRow 72 4
  exact fnOut1 (by simp) rfl Tryz.results102 hf hc (show look _ 2 = _ from rfl) ⟨none,0,rfl,hc⟩
 ·rw [hp] at hf
  refine cCondF hf rfl ?_
  refine wp_skip ?_
  refine h2 _ _ ?_
  refine wp_seq_k fun K5 h5 => cReg ?_
  refine stBS (rows := ([] : List crew_Ride).map enc_crew_Ride) (vs := []) hf hc rfl rfl sl_52 rfl trivial rfl rfl fun b_1 a w hf hc => stP hf rfl rfl rfl (pM rfl) fun a hf => ?_
  obtain ⟨un,hun,hF⟩ := bnd_some hF
  refine stApm (xs := ([] : List crew_Ride)) (ys := s_) hf hc rfl rfl sl_52 rfl rfl rfl rfl rfl one_enc_crew_Ride (src_rd hc h_s_) (fun _ _ => u0) (by simpa using room_spec hun) fun p_1 c_1 a w hf hc => stP hf rfl rfl rfl (pA rfl) fun a hf => cNil ?_
  refine h5 _ _ ?_
  refine wp_ret ?_
  obtain rfl := sj hF
  exact fnOut1 (by simp) rfl Tryz.results102 hf hc (show look _ 2 = _ from rfl) ⟨p_1,c_1,rfl,hc⟩

def crew_Cable_full (N : Nat) (c_ : crew_Cable) (r : crew_Ride) : Option (Bool) :=
 Option.bind (crew_Cable_load_s2 N c_ r.From) fun r_0 =>
 some (crew_Cable_beyond c_ r_0)
theorem crew_Cable_full_ok {N : Nat} {G : Pers} {Lf : List Ent} {w : World} (c_ : crew_Cable) (r : crew_Ride) {c__Rides_p : Option Addr} {c__Rides_c : Nat} (h_c__Rides : Rd G 4 c__Rides_p c__Rides_c (c_.Rides.map enc_crew_Ride)) (hc : Ctx G (Lf) w) {res : Bool} (hF : crew_Cable_full N c_ r = some res) : Calls Tryz.prog 103 #[.agg #[i6 c_.Car,i6 c_.Wide,i6 c_.Sag,i6 c_.Most,.slice c__Rides_p c_.Rides.length c__Rides_c],.agg #[i6 r.From,i6 r.Long,i6 r.Weight.Lo,i6 r.Weight.Hi]] w (fun e w => e = .returned (.bool res) ∧ Ctx G (Lf) w) := by
 unfold crew_Cable_full at hF
 refine fnIn (args := [.agg #[i6 c_.Car,i6 c_.Wide,i6 c_.Sag,i6 c_.Most,.slice c__Rides_p c_.Rides.length c__Rides_c],.agg #[i6 r.From,i6 r.Long,i6 r.Weight.Lo,i6 r.Weight.Hi]]) Tryz.func103 rfl Tryz.ntmps103 rfl fun a hf => wp_seq_k fun K1 h1 => cReg ?_
 refine stBx (cs := [i6 c_.Car,i6 c_.Wide,i6 c_.Sag,i6 c_.Most,.slice c__Rides_p c_.Rides.length c__Rides_c]) hf hc rfl rfl rfl rfl fun b_1 a w hf hc => stBx (cs := [i6 r.From,i6 r.Long,i6 r.Weight.Lo,i6 r.Weight.Hi]) hf hc rfl rfl rfl rfl fun b_2 a w hf hc => stP hf rfl rfl rfl (pA rfl) fun a hf => cNil ?_
 refine h1 _ _ ?_
 refine wp_seq_k fun K2 h2 => ?_
 obtain ⟨r_0,hr_0,hF⟩ := bnd_some hF
 refine cQ hc follows_mx (by kernel_rfl) ?_
 refine qE hf rfl rfl rfl (eLdN (vs := [i6 c_.Car,i6 c_.Wide,i6 c_.Sag,i6 c_.Most,.slice c__Rides_p c_.Rides.length c__Rides_c]) ag_54 rfl rfl (cells_box (n := 5) m1 rfl)) fun a hf => qE hf rfl rfl rfl (eLdN (vs := [i6 c_.Car,i6 c_.Wide,i6 c_.Sag,i6 c_.Most,.slice c__Rides_p c_.Rides.length c__Rides_c]) ag_54 rfl rfl (cells_box (n := 5) m1 rfl)) fun a hf => qE hf rfl rfl rfl (Pu.ev (pFA fa_72_0 rfl)) fun a hf => qE hf rfl rfl rfl (eLd1 sc_3 rfl (cell_box m0 rfl)) fun a hf => qE hf rfl rfl rfl (eC (v := .agg #[.func (.func 156) #[] #[]]) (vs := []) (caps := []) en_83 rfl rfl rfl rfl (fun w hc => crew_high_ok hc rfl)) fun a hf => qE hf rfl rfl rfl (eC (v := i6 r_0) (vs := [.agg #[i6 c_.Car,i6 c_.Wide,i6 c_.Sag,i6 c_.Most,.slice c__Rides_p c_.Rides.length c__Rides_c],i6 r.From,.agg #[.func (.func 156) #[] #[]]]) (caps := []) en_93 rfl rfl rfl rfl (fun w hc => crew_Cable_load_s2_ok c_ r.From h_c__Rides hc hr_0)) fun a hf => qE hf rfl rfl rfl (eC (v := .bool (crew_Cable_beyond c_ r_0)) (vs := [.agg #[i6 c_.Car,i6 c_.Wide,i6 c_.Sag,i6 c_.Most,.slice c__Rides_p c_.Rides.length c__Rides_c],i6 r_0]) (caps := []) en_99 rfl rfl rfl rfl (fun w hc => crew_Cable_beyond_ok c_ r_0 h_c__Rides hc rfl)) fun a hf => qE hf rfl rfl rfl (Pu.ev (pA rfl)) fun a hf => ?_
 intro w hc
 refine h2 _ _ ?_
 refine wp_ret ?_
 obtain rfl := sj hF
 replace hc := hc.drop k1
 replace hc := hc.drop k0
 exact fnOut1 (by simp) rfl Tryz.results103 hf hc (show look _ 4 = _ from rfl) ⟨rfl,hc⟩

def crew_Queue_j38 (N : Nat) (x_4 : Int) (next__1 : Int) : Option (Step (Int × Int) (Step (Int × Int × (List crew_Ride)) (Step ((List Int) × Int × Int × (List crew_Ride)) ((List Int) × Int)))) :=
 some (.cont (next__1,W (x_4 + 1)))
def crew_Queue_b33 (N : Nat) (x_1 : List crew_Ride) (at__1 : Int) (next_ : Int) (x_4 : Int) : Option (Step (Int × Int) (Step (Int × Int × (List crew_Ride)) (Step ((List Int) × Int × Int × (List crew_Ride)) ((List Int) × Int)))) :=
 cond (decide (x_4 < ((x_1.length : Nat) : Int)))
 (Option.bind (getI x_1 x_4) fun e_3 =>
 cond ((crew_Ride_on e_3 at__1) && ((next_ == (-1)) || (decide ((W (e_3.From + e_3.Long)) < next_))))
 (crew_Queue_j38 N x_4 (W (e_3.From + e_3.Long)))
 (crew_Queue_j38 N x_4 next_))
 (some (.brk (next_,x_4)))
def crew_Queue_b25 (N : Nat) (c_ : crew_Cable) (x_1 : List crew_Ride) (e_1 : crew_Ride) (at__1 : Int) (x_2 : Int) (x_3 : List crew_Ride) : Option (Step (Int × Int × (List crew_Ride)) (Step ((List Int) × Int × Int × (List crew_Ride)) ((List Int) × Int))) :=
 Option.bind (crew_Cable_full N (⟨c_.Car,c_.Wide,c_.Sag,c_.Most,x_3⟩ : crew_Cable) (⟨x_2,e_1.Long,e_1.Weight⟩ : crew_Ride)) fun r_3 =>
 cond r_3
 (Option.bind (loopO (fun s33 => crew_Queue_b33 N x_1 at__1 s33.1 s33.2) N ((-1),0)) fun x33 =>
 exK x33 (fun s33 => Option.bind (getI x_3 (W (((x_3.length : Nat) : Int) - 1))) fun e_2 =>
 some (.cont (s33.1,s33.1,(x_3.set (W (((x_3.length : Nat) : Int) - 1)).toNat (⟨s33.1,e_1.Long,e_1.Weight⟩ : crew_Ride))))) some)
 (some (.brk (at__1,x_2,x_3)))
def crew_Queue_b14 (N : Nat) (c_ : crew_Cable) (out : List Int) (at_ : Int) (x : Int) (x_1 : List crew_Ride) : Option (Step ((List Int) × Int × Int × (List crew_Ride)) ((List Int) × Int)) :=
 cond (decide (x < ((c_.Rides.length : Nat) : Int)))
 (Option.bind (getI c_.Rides x) fun e_1 =>
 Option.bind (slices_Clone_Lcrew_Ride_crew_Ride N x_1) fun r_2 =>
 Option.bind (room ((r_2 ++ [(⟨max at_ e_1.From,e_1.Long,e_1.Weight⟩ : crew_Ride)])).length) fun un =>
 Option.bind (loopO (fun s25 => crew_Queue_b25 N c_ x_1 e_1 s25.1 s25.2.1 s25.2.2) N (max at_ e_1.From,max at_ e_1.From,(r_2 ++ [(⟨max at_ e_1.From,e_1.Long,e_1.Weight⟩ : crew_Ride)]))) fun x25 =>
 exK x25 (fun s25 => Option.bind (room ((out ++ [s25.1])).length) fun un_1 =>
 some (.cont ((out ++ [s25.1]),s25.1,W (x + 1),s25.2.2))) some)
 (some (.brk (out,at_,x,x_1)))
def crew_Queue (N : Nat) (c_ : crew_Cable) : Option ((List Int) × Int) :=
 Option.bind (crew_CheckCable N c_) fun r =>
 cond (r != 0)
 (some (([] : List Int),r))
 (Option.bind (cond (crew_Cable_beyond c_ c_.Car) (some true) (Option.bind (crew_every_crew_Ride_s2 N c_.Rides c_) fun r_1 =>
 some (!r_1))) fun t_1 =>
 cond t_1
 (some (([] : List Int),6))
 (Option.bind (loopO (fun s14 => crew_Queue_b14 N c_ s14.1 s14.2.1 s14.2.2.1 s14.2.2.2) N (([] : List Int),0,0,([] : List crew_Ride))) fun x14 =>
 exK x14 (fun s14 => some (s14.1,0)) some))
theorem crew_Queue_ok {N : Nat} {G : Pers} {Lf : List Ent} {w : World} (c_ : crew_Cable) {c__Rides_p : Option Addr} {c__Rides_c : Nat} (h_c__Rides : Rd G 4 c__Rides_p c__Rides_c (c_.Rides.map enc_crew_Ride)) (hc : Ctx G (Lf) w) {res : (List Int) × Int} (hF : crew_Queue N c_ = some res) : Calls Tryz.prog 38 #[.agg #[i6 c_.Car,i6 c_.Wide,i6 c_.Sag,i6 c_.Most,.slice c__Rides_p c_.Rides.length c__Rides_c]] w (fun e w => ∃ (p'1 : Option Addr) (c'1 : Nat),e = .returned (.tuple #[.slice p'1 res.1.length c'1,i6 res.2]) ∧ Ctx G (.row p'1 c'1 (res.1.map encI_i64) 3 1::Lf) w) := by
 unfold crew_Queue at hF
 refine fnIn (args := [.agg #[i6 c_.Car,i6 c_.Wide,i6 c_.Sag,i6 c_.Most,.slice c__Rides_p c_.Rides.length c__Rides_c]]) Tryz.func38 rfl Tryz.ntmps38 rfl fun a hf => wp_seq_k fun K1 h1 => cReg ?_
 refine stBx (cs := [i6 c_.Car,i6 c_.Wide,i6 c_.Sag,i6 c_.Most,.slice c__Rides_p c_.Rides.length c__Rides_c]) hf hc rfl rfl rfl rfl fun b_1 a w hf hc => stP hf rfl rfl rfl (pA rfl) fun a hf => stP hf rfl rfl rfl (pA rfl) fun a hf => cNil ?_
 refine h1 _ _ ?_
 refine wp_seq_k fun K2 h2 => cReg ?_
 refine stE hf hc rfl rfl rfl (eLdN (vs := [i6 c_.Car,i6 c_.Wide,i6 c_.Sag,i6 c_.Most,.slice c__Rides_p c_.Rides.length c__Rides_c]) ag_54 rfl rfl (cells_box (n := 5) m0 rfl)) fun a w hf hc => ?_
 obtain ⟨r,hr,hF⟩ := bnd_some hF
 refine stE hf hc rfl rfl rfl (eC (v := i6 r) (vs := [.agg #[i6 c_.Car,i6 c_.Wide,i6 c_.Sag,i6 c_.Most,.slice c__Rides_p c_.Rides.length c__Rides_c]]) (caps := []) en_31 rfl rfl rfl rfl (fun w hc => crew_CheckCable_ok c_ h_c__Rides hc hr)) fun a w hf hc => stP hf rfl rfl rfl (pA rfl) fun a hf => cNil ?_
 refine h2 _ _ ?_
 refine wp_seq_k fun K3 h3 => wp_block ?_
 refine wp_seq_k fun K4 h4 => cReg ?_
 refine stP hf rfl rfl rfl (pM rfl) fun a hf => stP hf rfl rfl rfl (pNe rfl rfl) fun a hf => stP hf rfl rfl rfl (pA rfl) fun a hf => cNil ?_
 refine h4 _ _ ?_
 refine cCond (b := (r != 0)) hf rfl (fun hb => ?_) (fun hb => ?_)
 ·replace hF := condT hb hF
  clear hb
  refine wp_seq_k fun K5 h5 => cReg ?_
  refine stP hf rfl rfl rfl (pM rfl) fun a hf => stP hf rfl rfl rfl (pA rfl) fun a hf => stP hf rfl rfl rfl (pA rfl) fun a hf => cNil ?_
  refine h5 _ _ ?_
  refine wp_ret ?_
  refine xBlkR ?_
  refine xThenR ?_
  obtain rfl := sj hF
  replace hc := hc.nilRow 3 1
  replace hc := hc.drop k1
  exact fnOut2 (by simp) rfl Tryz.results38 hf hc (show look _ 2 = _ from rfl) (show look _ 3 = _ from rfl) ⟨none,0,rfl,hc⟩
 ·replace hF := condF hb hF
  clear hb
  refine wp_seq_k fun K6 h6 => cReg ?_
  refine stE hf hc rfl rfl rfl (eLdN (vs := [i6 c_.Car,i6 c_.Wide,i6 c_.Sag,i6 c_.Most,.slice c__Rides_p c_.Rides.length c__Rides_c]) ag_54 rfl rfl (cells_box (n := 5) m0 rfl)) fun a w hf hc => stP hf rfl rfl rfl (pFA fa_54_0 rfl) fun a hf => stE hf hc rfl rfl rfl (eLd1 sc_3 rfl (cell_box m0 rfl)) fun a w hf hc => stE hf hc rfl rfl rfl (eC (v := .bool (crew_Cable_beyond c_ c_.Car)) (vs := [.agg #[i6 c_.Car,i6 c_.Wide,i6 c_.Sag,i6 c_.Most,.slice c__Rides_p c_.Rides.length c__Rides_c],i6 c_.Car]) (caps := []) en_99 rfl rfl rfl rfl (fun w hc => crew_Cable_beyond_ok c_ c_.Car h_c__Rides hc rfl)) fun a w hf hc => stP hf rfl rfl rfl (pM rfl) fun a hf => ?_
  obtain ⟨t_1,ht_1,hF⟩ := bnd_some hF
  refine stCut 6 (fun a w => Has 105 a [(1,pq b_1),(21,.agg #[i6 c_.Car,i6 c_.Wide,i6 c_.Sag,i6 c_.Most,.slice c__Rides_p c_.Rides.length c__Rides_c]),(22,pq b_1),(23,i6 c_.Car),(24,.bool (crew_Cable_beyond c_ c_.Car)),(25,.bool (crew_Cable_beyond c_ c_.Car)),(31,.bool t_1)] ∧ Ctx G (.box b_1 [i6 c_.Car,i6 c_.Wide,i6 c_.Sag,i6 c_.Most,.slice c__Rides_p c_.Rides.length c__Rides_c] 54::Lf) w) ?_ ?_
  ·cases hb : (crew_Cable_beyond c_ c_.Car)
   ·rw [hb] at hf
    have hF := condF hb ht_1
    refine stP hf rfl rfl rfl (pFA fa_54_4 rfl) fun a hf => stE hf hc rfl rfl rfl (eLd1 sc_52 rfl (cell_box m0 rfl)) fun a w hf hc => stP hf rfl rfl rfl (pMF (us := [pq b_1]) rfl rfl) fun a hf => ?_
    obtain ⟨r_1,hr_1,hF⟩ := bnd_some hF
    refine stE hf hc rfl rfl rfl (eC (v := .bool r_1) (vs := [.slice c__Rides_p c_.Rides.length c__Rides_c,.func (.func 101) #[] #[pq b_1]]) (caps := []) en_90 rfl rfl rfl rfl (fun w hc => (crew_every_crew_Ride_s2_ok c_.Rides c_ h_c__Rides h_c__Rides (hc.pick k0) hr_1).mono fun e w h => ⟨h.1,(h.2.unpick k0)⟩)) fun a w hf hc => stP hf rfl rfl rfl (pNot rfl) fun a hf => stP hf rfl rfl rfl (pPf rfl rfl) fun a hf => ?_
    obtain rfl := sj hF
    exact cNil ⟨hf.kp rfl,hc⟩
   ·rw [hb] at hf
    have hF := condT hb ht_1
    obtain rfl := sj hF
    refine stS hf rfl rfl rfl fun a hf => stS hf rfl rfl rfl fun a hf => stS hf rfl rfl rfl fun a hf => stS hf rfl rfl rfl fun a hf => stS hf rfl rfl rfl fun a hf => stP hf rfl rfl rfl (pPt rfl rfl) fun a hf => cNil ⟨hf.kp rfl,hc⟩
  intro a w ⟨hf,hc⟩
  refine stP hf rfl rfl rfl (pA rfl) fun a hf => cNil ?_
  refine h6 _ _ ?_
  refine cCond (b := t_1) hf rfl (fun hb => ?_) (fun hb => ?_)
  ·replace hF := condT hb hF
   clear hb
   refine wp_seq_k fun K7 h7 => cReg ?_
   refine stP hf rfl rfl rfl (pA rfl) fun a hf => stP hf rfl rfl rfl (pA rfl) fun a hf => cNil ?_
   refine h7 _ _ ?_
   refine wp_ret ?_
   refine xBlkR ?_
   refine xThenR ?_
   obtain rfl := sj hF
   replace hc := hc.nilRow 3 1
   replace hc := hc.drop k1
   exact fnOut2 (by simp) rfl Tryz.results38 hf hc (show look _ 2 = _ from rfl) (show look _ 3 = _ from rfl) ⟨none,0,rfl,hc⟩
  ·replace hF := condF hb hF
   clear hb
   refine wp_skip ?_
   refine h3 _ _ ?_
   refine wp_seq_k fun K8 h8 => cReg ?_
   refine stE hf hc rfl rfl rfl (eLdN (vs := [i6 c_.Car,i6 c_.Wide,i6 c_.Sag,i6 c_.Most,.slice c__Rides_p c_.Rides.length c__Rides_c]) ag_54 rfl rfl (cells_box (n := 5) m0 rfl)) fun a w hf hc => stAl (cs := [i6 0,i6 0,i6 0,i6 0,.slice none 0 0]) hf hc rfl rfl zr_54 rfl fun b_2 a w hf hc => stSt (vs := [i6 c_.Car,i6 c_.Wide,i6 c_.Sag,i6 c_.Most,.slice c__Rides_p c_.Rides.length c__Rides_c]) hf hc rfl rfl rfl rfl sz_54 rfl rfl u0 fun w hc => cNil ?_
   refine h8 _ _ ?_
   refine wp_seq_k fun K9 h9 => cReg ?_
   refine stP hf rfl rfl rfl (pFA fa_54_4 rfl) fun a hf => stSt (vs := [.slice none 0 0]) hf hc rfl rfl rfl rfl sz_52 rfl rfl u0 fun w hc => cNil ?_
   refine h9 _ _ ?_
   refine wp_seq_k fun K10 h10 => cReg ?_
   refine stP hf rfl rfl rfl (pA rfl) fun a hf => cNil ?_
   refine h10 _ _ ?_
   refine wp_seq_k fun K11 h11 => cReg ?_
   refine stP hf rfl rfl rfl (pA rfl) fun a hf => cNil ?_
   refine h11 _ _ ?_
   refine wp_seq_k fun K12 h12 => wp_seq_k fun K13 h13 => cReg ?_
   refine stP hf rfl rfl rfl (pFA fa_54_4 rfl) fun a hf => stE hf hc rfl rfl rfl (eLd1 sc_52 rfl (cell_box m1 rfl)) fun a w hf hc => stP hf rfl rfl rfl (pLenS Tryz.underlying52 rfl) fun a hf => stP hf rfl rfl rfl (pM rfl) fun a hf => cNil ?_
   refine h13 _ _ ?_
   refine wp_block ?_
   obtain ⟨x14,hx14,hF⟩ := bnd_some hF
   let S14 : ((List Int) × Int × Int × (List crew_Ride)) → Act → World → Prop := (fun (zz : (List Int) × Int × Int × (List crew_Ride)) a w => ∃ (p_1 : Option Addr) (c_1 : Nat) (p_2 : Option Addr) (c_2 : Nat),Has 105 a [(5,pq b_2),(6,.slice p_1 zz.1.length c_1),(7,i6 zz.2.1),(35,.slice c__Rides_p c_.Rides.length c__Rides_c),(36,i6 ((c_.Rides.length : Nat) : Int)),(37,i6 zz.2.2.1)] ∧ Ctx G (.row p_2 c_2 (zz.2.2.2.map enc_crew_Ride) 72 4::.row p_1 c_1 (zz.1.map encI_i64) 3 1::.box b_2 [i6 c_.Car,i6 c_.Wide,i6 c_.Sag,i6 c_.Most,.slice p_2 zz.2.2.2.length c_2] 54::Lf) w)
   have hr14 : ∀ (zz : (List Int) × Int × Int × (List crew_Ride)) a w,x14 = .go zz → S14 zz a w → K12 a w := by
    rintro ⟨out,at_,x,x_1⟩ a w rfl ⟨p_1,c_1,p_2,c_2,hf,hc⟩
    replace hF := exK_go hF
    refine h12 _ _ ?_
    refine wp_seq_k fun K15 h15 => cReg ?_
    refine stP hf rfl rfl rfl (pM rfl) fun a hf => stP hf rfl rfl rfl (pA rfl) fun a hf => stP hf rfl rfl rfl (pA rfl) fun a hf => cNil ?_
    refine h15 _ _ ?_
    refine wp_ret ?_
    obtain rfl := sj hF
    replace hc := hc.drop k2
    replace hc := hc.drop k0
    exact fnOut2 (by simp) rfl Tryz.results38 hf hc (show look _ 2 = _ from rfl) (show look _ 3 = _ from rfl) ⟨p_1,c_1,rfl,hc⟩
   have ho14 : ∀ r,x14 = .out r → r = res := by
    rintro r rfl
    exact sj hF
   replace hc := hc.nilRow 3 1
   replace hc := hc.nilRow 72 4
   replace hc := hc.drop k3
   refine cLoop N (loopW (S := S14) (x := x14) ?_ N (([] : List Int),0,0,([] : List crew_Ride)) _ _ ⟨none,0,none,0,hf.kp rfl,hc⟩ hx14)
   clear hF hf hc
   rintro ⟨out,at_,x,x_1⟩ st14 a w KB14 ⟨p_1,c_1,p_2,c_2,hf,hc⟩ hF hfin14 hK14
   unfold crew_Queue_b14 at hF
   refine wp_seq_k fun K16 h16 => cReg ?_
   refine stP hf rfl rfl rfl (pLt rfl rfl) fun a hf => cNil ?_
   refine h16 _ _ ?_
   refine wp_seq_k fun K17 h17 => cCond (b := (decide (x < ((c_.Rides.length : Nat) : Int)))) hf rfl (fun hb => ?_) (fun hb => ?_)
   ·replace hF := condT hb hF
    clear hb
    refine wp_skip ?_
    refine h17 _ _ ?_
    refine wp_seq_k fun K18 h18 => wp_block ?_
    refine wp_seq_k fun K19 h19 => cReg ?_
    obtain ⟨e_1,he_1,hF⟩ := bnd_some hF
    obtain ⟨b_3,o,qa,qp⟩ := h_c__Rides.atm he_1
    refine stP hf rfl rfl rfl (pIA Tryz.underlying52 sz_72 rfl rfl qa) fun a hf => stE hf hc rfl rfl rfl (eLdN (vs := [i6 e_1.From,i6 e_1.Long,i6 e_1.Weight.Lo,i6 e_1.Weight.Hi]) ag_72 rfl rfl (cells_pc qp (n := 4) (o' := 0) rfl)) fun a w hf hc => stAl (cs := [i6 0,i6 0,i6 0,i6 0]) hf hc rfl rfl zr_72 rfl fun b_4 a w hf hc => stSt (vs := [i6 e_1.From,i6 e_1.Long,i6 e_1.Weight.Lo,i6 e_1.Weight.Hi]) hf hc rfl rfl rfl rfl sz_72 rfl rfl u0 fun w hc => cNil ?_
    refine h19 _ _ ?_
    refine wp_seq_k fun K20 h20 => cReg ?_
    refine stP hf rfl rfl rfl (pM rfl) fun a hf => stP hf rfl rfl rfl (pFA fa_72_0 rfl) fun a hf => stE hf hc rfl rfl rfl (eLd1 sc_3 rfl (cell_box m0 rfl)) fun a w hf hc => stP hf rfl rfl rfl (pMax2 rfl rfl) fun a hf => stP hf rfl rfl rfl (pA rfl) fun a hf => cNil ?_
    refine h20 _ _ ?_
    refine wp_seq_k fun K21 h21 => cReg ?_
    refine stP hf rfl rfl rfl (pM rfl) fun a hf => stP hf rfl rfl rfl (pFA fa_72_0 rfl) fun a hf => stSt (vs := [i6 (max at_ e_1.From)]) hf hc rfl rfl rfl rfl sz_3 rfl rfl u0 fun w hc => cNil ?_
    refine h21 _ _ ?_
    refine wp_seq_k fun K22 h22 => cReg ?_
    refine stE hf hc rfl rfl rfl (eLdN (vs := [i6 c_.Car,i6 c_.Wide,i6 c_.Sag,i6 c_.Most,.slice p_2 x_1.length c_2]) ag_54 rfl rfl (cells_box (n := 5) m3 rfl)) fun a w hf hc => stAl (cs := [i6 0,i6 0,i6 0,i6 0,.slice none 0 0]) hf hc rfl rfl zr_54 rfl fun b_5 a w hf hc => stSt (vs := [i6 c_.Car,i6 c_.Wide,i6 c_.Sag,i6 c_.Most,.slice p_2 x_1.length c_2]) hf hc rfl rfl rfl rfl sz_54 rfl rfl u0 fun w hc => cNil ?_
    refine h22 _ _ ?_
    refine wp_seq_k fun K23 h23 => ?_
    obtain ⟨r_2,hr_2,hF⟩ := bnd_some hF
    obtain ⟨un,hun,hF⟩ := bnd_some hF
    replace hc := hc.nilRow 0 0
    replace hc := hc.nilRow 0 0
    refine regionE (fun θ => [⟨none,none,5,pq b_2⟩,⟨none,none,6,.slice p_1 out.length c_1⟩,⟨none,none,7,i6 (max at_ e_1.From)⟩,⟨none,none,9,pq b_4⟩,⟨none,none,10,pq b_5⟩,⟨none,none,35,.slice c__Rides_p c_.Rides.length c__Rides_c⟩,⟨none,none,36,i6 ((c_.Rides.length : Nat) : Int)⟩,⟨none,none,37,i6 x⟩,⟨some 0,none,48,.pointer (some ⟨b_2,4,none⟩)⟩,⟨some 1,none,49,.slice p_2 x_1.length c_2⟩,⟨some 2,none,50,.slice ((θ 16).p) r_2.length ((θ 16).c)⟩,⟨some 3,none,51,.agg #[i6 (max at_ e_1.From),i6 e_1.Long,i6 e_1.Weight.Lo,i6 e_1.Weight.Hi]⟩,⟨some 4,none,52,.slice (some ⟨(θ 32).b,0,none⟩) 1 1⟩,⟨some 5,none,53,.slice ((θ 40).p) ((r_2 ++ [(⟨max at_ e_1.From,e_1.Long,e_1.Weight⟩ : crew_Ride)]).length) ((θ 40).c)⟩,⟨some 6,none,54,.pointer (some ⟨b_5,4,none⟩)⟩]) (fun E θ => (bif E 4 then .row (some ⟨(θ 32).b,0,none⟩) 1 (([(⟨max at_ e_1.From,e_1.Long,e_1.Weight⟩ : crew_Ride)] : List crew_Ride).map enc_crew_Ride) 72 4 else .row none 0 [] 0 0)::(bif E 5 then .row ((θ 40).p) ((θ 40).c) ((r_2 ++ [(⟨max at_ e_1.From,e_1.Long,e_1.Weight⟩ : crew_Ride)]).map enc_crew_Ride) 72 4 else bif E 2 then .row ((θ 16).p) ((θ 16).c) (r_2.map enc_crew_Ride) 72 4 else .row none 0 [] 0 0)::(bif E 7 then .box b_5 [i6 c_.Car,i6 c_.Wide,i6 c_.Sag,i6 c_.Most,.slice ((θ 40).p) ((r_2 ++ [(⟨max at_ e_1.From,e_1.Long,e_1.Weight⟩ : crew_Ride)]).length) ((θ 40).c)] 54 else .box b_5 [i6 c_.Car,i6 c_.Wide,i6 c_.Sag,i6 c_.Most,.slice p_2 x_1.length c_2] 54)::.box b_4 [i6 (max at_ e_1.From),i6 e_1.Long,i6 e_1.Weight.Lo,i6 e_1.Weight.Hi] 72::.row p_2 c_2 (x_1.map enc_crew_Ride) 72 4::.row p_1 c_1 (out.map encI_i64) 3 1::.box b_2 [i6 c_.Car,i6 c_.Wide,i6 c_.Sag,i6 c_.Most,.slice p_2 x_1.length c_2] 54::Lf) [(5,2),(7,5)] (fun a w => ∃ (b_7 : Nat) (p_5 : Option Addr) (c_5 : Nat),Has 105 a [(5,pq b_2),(6,.slice p_1 out.length c_1),(7,i6 (max at_ e_1.From)),(9,pq b_4),(10,pq b_5),(35,.slice c__Rides_p c_.Rides.length c__Rides_c),(36,i6 ((c_.Rides.length : Nat) : Int)),(37,i6 x)] ∧ Ctx G (.row (some ⟨b_7,0,none⟩) 1 (([(⟨max at_ e_1.From,e_1.Long,e_1.Weight⟩ : crew_Ride)] : List crew_Ride).map enc_crew_Ride) 72 4::.row p_5 c_5 ((r_2 ++ [(⟨max at_ e_1.From,e_1.Long,e_1.Weight⟩ : crew_Ride)]).map enc_crew_Ride) 72 4::.box b_5 [i6 c_.Car,i6 c_.Wide,i6 c_.Sag,i6 c_.Most,.slice p_5 ((r_2 ++ [(⟨max at_ e_1.From,e_1.Long,e_1.Weight⟩ : crew_Ride)]).length) c_5] 54::.box b_4 [i6 (max at_ e_1.From),i6 e_1.Long,i6 e_1.Weight.Lo,i6 e_1.Weight.Hi] 72::.row p_2 c_2 (x_1.map enc_crew_Ride) 72 4::.row p_1 c_1 (out.map encI_i64) 3 1::.box b_2 [i6 c_.Car,i6 c_.Wide,i6 c_.Sag,i6 c_.Most,.slice p_2 x_1.length c_2] 54::Lf) w) follows_mx (by kernel_rfl) (by kernel_rfl) (HasE.of hf ⟨rfl,rfl,rfl,rfl,rfl,rfl,rfl,rfl,trivial,trivial,trivial,trivial,trivial,trivial,trivial,trivial⟩) hc ⟨?_,?_,?_,?_,?_,?_,?_,?_,trivial⟩ ?_ ?_
    ·intro E θ a w hD hi hp he hc
     have hf := he.h0
     replace hf := hf.more he 0 rfl onT
     refine stP hf rfl rfl rfl (pFA fa_54_4 rfl) fun a hf => cNil ?_
     refine xThenN ?_
     intro ds u hau
     refine ⟨θ,he.put0 hi hau hf rfl 8 rfl rfl,?_⟩
     exact hc
    ·intro E θ a w hD hi hp he hc
     have e0 := hp.of (k := 0) rfl
     have hf := he.h0
     replace hf := hf.more he 8 rfl (onP e0)
     refine stE hf hc rfl rfl rfl (eLd1 sc_52 rfl (cell_box m6 rfl)) fun a w hf hc => cNil ?_
     refine xThenN ?_
     intro ds u hau
     refine ⟨θ,he.put0 hi hau hf rfl 9 rfl rfl,?_⟩
     exact hc
    ·intro E θ a w hD hi hp he hc
     have e1 := hp.of (k := 1) rfl
     have e5 := hD.f 0 rfl hi
     try dsimp only at hc
     rw [hi,e5] at hc
     have hf := he.h0
     replace hf := hf.more he 9 rfl (onP e1)
     obtain ⟨G1,hle1,hrd1,hc,hth1⟩ := lend hc k4
     refine stC (vs := [.slice p_2 x_1.length c_2]) (caps := []) hf rfl rfl rfl en_102 rfl rfl rfl rfl (slices_Clone_Lcrew_Ride_crew_Ride_ok x_1 hrd1 hc hr_2) ?_
     rintro _ w ⟨p_3,c_3,rfl,hc⟩
     refine ⟨_,rfl,fun a hf => ?_⟩
     replace hc := hth1 _ _ hc
     refine cNil ?_
     refine xThenN ?_
     intro ds u hau
     replace hc := hc.drop k3
     replace hc := hc.pick k0
     replace hc := hc.pick k4
     replace hc := hc.pick k4
     replace hc := hc.pick k3
     replace hc := hc.pick k4
     refine ⟨(setT θ 16 ⟨0,p_3,c_3,(fun _ => (none,0))⟩),he.put hi hau hf rfl [] trivial ⟨qq,qq,qq,qq,qq,qq,qq,qq,qq,qq,qq,qq,qq,qq,qq,trivial⟩,?_⟩
     try dsimp only
     rw [updE_self E 2,updE_fls 2 e5 rfl]
     exact hc
    ·intro E θ a w hD hi hp he hc
     have hf := he.h0
     replace hf := hf.more he 3 rfl onT
     refine stE hf hc rfl rfl rfl (eLdN (vs := [i6 (max at_ e_1.From),i6 e_1.Long,i6 e_1.Weight.Lo,i6 e_1.Weight.Hi]) ag_72 rfl rfl (cells_box (n := 4) m3 rfl)) fun a w hf hc => cNil ?_
     refine xThenN ?_
     intro ds u hau
     refine ⟨θ,he.put0 hi hau hf rfl 11 rfl rfl,?_⟩
     exact hc
    ·intro E θ a w hD hi hp he hc
     have e3 := hp.of (k := 3) rfl
     try dsimp only at hc
     rw [hi] at hc
     have hf := he.h0
     replace hf := hf.more he 11 rfl (onP e3)
     refine stBS (rows := ([(⟨max at_ e_1.From,e_1.Long,e_1.Weight⟩ : crew_Ride)] : List crew_Ride).map enc_crew_Ride) (vs := [(0,.agg #[i6 (max at_ e_1.From),i6 e_1.Long,i6 e_1.Weight.Lo,i6 e_1.Weight.Hi])]) hf hc rfl rfl sl_52 rfl ⟨rfl,rfl,rfl,trivial⟩ rfl rfl fun b_6 a w hf hc => cNil ?_
     refine xThenN ?_
     intro ds u hau
     replace hc := hc.drop k1
     refine ⟨(setT θ 32 ⟨b_6,none,0,(fun _ => (none,0))⟩),he.put hi hau hf rfl [] trivial ⟨qq,qq,qq,qq,qq,qq,qq,qq,qq,qq,qq,qq,qq,qq,qq,trivial⟩,?_⟩
     try dsimp only
     rw [updE_self E 4]
     exact hc
    ·intro E θ a w hD hi hp he hc
     have e2 := hp.of (k := 2) rfl
     have e4 := hp.of (k := 4) rfl
     have e7 := hD.f 1 rfl hi
     try dsimp only at hc
     rw [e4,e2,hi,e7] at hc
     have hf := he.h0
     replace hf := hf.more he 10 rfl (onP e2)
     replace hf := hf.more he 12 rfl (onP e4)
     refine stApm (xs := r_2) (ys := ([(⟨max at_ e_1.From,e_1.Long,e_1.Weight⟩ : crew_Ride)] : List crew_Ride)) hf hc rfl rfl sl_52 rfl rfl rfl rfl rfl one_enc_crew_Ride (src_row hc m0) (fun _ _ => u1) (by simpa using room_spec hun) fun p_4 c_4 a w hf hc => cNil ?_
     refine xThenN ?_
     intro ds u hau
     refine ⟨(setT θ 40 ⟨0,p_4,c_4,(fun _ => (none,0))⟩),he.put hi hau hf rfl [] trivial ⟨qq,qq,qq,qq,qq,qq,qq,qq,qq,qq,qq,qq,qq,qq,qq,trivial⟩,?_⟩
     try dsimp only
     rw [updE_tru 5 e4,updE_tru 5 e2,updE_self E 5,updE_fls 5 e7 rfl]
     exact hc
    ·intro E θ a w hD hi hp he hc
     have hf := he.h0
     replace hf := hf.more he 4 rfl onT
     refine stP hf rfl rfl rfl (pFA fa_54_4 rfl) fun a hf => cNil ?_
     refine xThenN ?_
     intro ds u hau
     refine ⟨θ,he.put0 hi hau hf rfl 14 rfl rfl,?_⟩
     exact hc
    ·intro E θ a w hD hi hp he hc
     have e5 := hp.of (k := 5) rfl
     have e6 := hp.of (k := 6) rfl
     try dsimp only at hc
     rw [hi] at hc
     have hf := he.h0
     replace hf := hf.more he 13 rfl (onP e5)
     replace hf := hf.more he 14 rfl (onP e6)
     refine stSt (vs := [.slice ((θ 40).p) ((r_2 ++ [(⟨max at_ e_1.From,e_1.Long,e_1.Weight⟩ : crew_Ride)]).length) ((θ 40).c)]) hf hc rfl rfl rfl rfl sz_52 rfl rfl u2 fun w hc => cNil ?_
     refine xThenN ?_
     intro ds u hau
     refine ⟨θ,he.stay0 hi hau hf rfl,?_⟩
     try dsimp only
     rw [updE_self E 7]
     exact hc
    ·intro E θ a w hall he hc
     have hf := he.h0
     have e2 := hall 2 rfl
     have e4 := hall 4 rfl
     have e5 := hall 5 rfl
     have e7 := hall 7 rfl
     replace hf := hf.more he 7 rfl (onT)
     replace hf := hf.more he 6 rfl (onT)
     replace hf := hf.more he 5 rfl (onT)
     replace hf := hf.more he 4 rfl (onT)
     replace hf := hf.more he 3 rfl (onT)
     replace hf := hf.more he 2 rfl (onT)
     replace hf := hf.more he 1 rfl (onT)
     replace hf := hf.more he 0 rfl (onT)
     try dsimp only at hc
     rw [e2,e4,e5,e7] at hc
     exact ⟨(θ 32).b,(θ 40).p,(θ 40).c,hf.kp rfl,hc⟩
    rintro a w ⟨b_7,p_5,c_5,hf,hc⟩
    refine h23 _ _ ?_
    refine wp_seq_k fun K24 h24 => wp_block ?_
    obtain ⟨x25,hx25,hF⟩ := bnd_some hF
    let S25 : (Int × Int × (List crew_Ride)) → Act → World → Prop := (fun (zz : Int × Int × (List crew_Ride)) a w => ∃ (p_6 : Option Addr) (c_6 : Nat) (p_7 : Option Addr) (c_7 : Nat),Has 105 a [(5,pq b_2),(6,.slice p_1 out.length c_1),(7,i6 zz.1),(9,pq b_4),(10,pq b_5),(35,.slice c__Rides_p c_.Rides.length c__Rides_c),(36,i6 ((c_.Rides.length : Nat) : Int)),(37,i6 x)] ∧ Ctx G (.row p_7 c_7 (zz.2.2.map enc_crew_Ride) 72 4::.box b_5 [i6 c_.Car,i6 c_.Wide,i6 c_.Sag,i6 c_.Most,.slice p_7 zz.2.2.length c_7] 54::.box b_4 [i6 zz.2.1,i6 e_1.Long,i6 e_1.Weight.Lo,i6 e_1.Weight.Hi] 72::.row p_6 c_6 (x_1.map enc_crew_Ride) 72 4::.row p_1 c_1 (out.map encI_i64) 3 1::.box b_2 [i6 c_.Car,i6 c_.Wide,i6 c_.Sag,i6 c_.Most,.slice p_6 x_1.length c_6] 54::Lf) w)
    have hr25 : ∀ (zz : Int × Int × (List crew_Ride)) a w,x25 = .go zz → S25 zz a w → K24 a w := by
     rintro ⟨at__1,x_2,x_3⟩ a w rfl ⟨p_6,c_6,p_7,c_7,hf,hc⟩
     replace hF := exK_go hF
     refine h24 _ _ ?_
     refine wp_seq_k fun K26 h26 => cReg ?_
     refine stE hf hc rfl rfl rfl (eLdN (vs := [i6 c_.Car,i6 c_.Wide,i6 c_.Sag,i6 c_.Most,.slice p_7 x_3.length c_7]) ag_54 rfl rfl (cells_box (n := 5) m1 rfl)) fun a w hf hc => stSt (vs := [i6 c_.Car,i6 c_.Wide,i6 c_.Sag,i6 c_.Most,.slice p_7 x_3.length c_7]) hf hc rfl rfl rfl rfl sz_54 rfl rfl u5 fun w hc => cNil ?_
     refine h26 _ _ ?_
     refine cReg ?_
     refine stP hf rfl rfl rfl (pM rfl) fun a hf => stP hf rfl rfl rfl (pM rfl) fun a hf => stBS (rows := ([at__1] : List Int).map encI_i64) (vs := [(0,i6 at__1)]) hf hc rfl rfl sl_25 rfl ⟨rfl,rfl,rfl,trivial⟩ rfl rfl fun b_8 a w hf hc => ?_
     obtain ⟨un_1,hun_1,hF⟩ := bnd_some hF
     refine stApm (xs := out) (ys := ([at__1] : List Int)) hf hc rfl rfl sl_25 rfl rfl rfl rfl rfl one_encI_i64 (src_row hc m0) (fun _ _ => u5) (by simpa using room_spec hun_1) fun p_8 c_8 a w hf hc => stP hf rfl rfl rfl (pA rfl) fun a hf => cNil ?_
     refine h18 _ _ ?_
     refine cReg ?_
     refine stP hf rfl rfl rfl (pAdd rfl rfl) fun a hf => stP hf rfl rfl rfl (pM rfl) fun a hf => cNil ?_
     replace hc := hc.drop k4
     replace hc := hc.drop k3
     replace hc := hc.drop k2
     replace hc := hc.drop k0
     exact hK14 ((out ++ [at__1]),at__1,W (x + 1),x_3) _ _ (sj hF).symm ⟨p_8,c_8,p_7,c_7,hf.kp rfl,hc⟩
    have ho25 : ∀ r,x25 = .out r → r = st14 := by
     rintro r rfl
     exact sj hF
    replace hc := hc.drop k0
    refine cLoop N (loopW (S := S25) (x := x25) ?_ N (max at_ e_1.From,max at_ e_1.From,(r_2 ++ [(⟨max at_ e_1.From,e_1.Long,e_1.Weight⟩ : crew_Ride)])) _ _ ⟨p_2,c_2,p_5,c_5,hf.kp rfl,hc⟩ hx25)
    clear hF hf hc
    rintro ⟨at__1,x_2,x_3⟩ st25 a w KB25 ⟨p_6,c_6,p_7,c_7,hf,hc⟩ hF hfin25 hK25
    unfold crew_Queue_b25 at hF
    refine wp_seq_k fun K27 h27 => wp_seq_k fun K28 h28 => cReg ?_
    refine stE hf hc rfl rfl rfl (eLdN (vs := [i6 c_.Car,i6 c_.Wide,i6 c_.Sag,i6 c_.Most,.slice p_7 x_3.length c_7]) ag_54 rfl rfl (cells_box (n := 5) m1 rfl)) fun a w hf hc => stE hf hc rfl rfl rfl (eLdN (vs := [i6 x_2,i6 e_1.Long,i6 e_1.Weight.Lo,i6 e_1.Weight.Hi]) ag_72 rfl rfl (cells_box (n := 4) m2 rfl)) fun a w hf hc => ?_
    obtain ⟨r_3,hr_3,hF⟩ := bnd_some hF
    refine stE hf hc rfl rfl rfl (eC (v := .bool r_3) (vs := [.agg #[i6 c_.Car,i6 c_.Wide,i6 c_.Sag,i6 c_.Most,.slice p_7 x_3.length c_7],.agg #[i6 x_2,i6 e_1.Long,i6 e_1.Weight.Lo,i6 e_1.Weight.Hi]]) (caps := []) en_103 rfl rfl rfl rfl (fun w hc => by obtain ⟨G1,hle1,hrd1,hc,hth1⟩ := lend hc k0; exact (crew_Cable_full_ok (⟨c_.Car,c_.Wide,c_.Sag,c_.Most,x_3⟩ : crew_Cable) (⟨x_2,e_1.Long,e_1.Weight⟩ : crew_Ride) hrd1 hc hr_3).mono fun e w h => ⟨h.1,((hth1 _ _ h.2).unpick k0)⟩)) fun a w hf hc => cNil ?_
    refine h28 _ _ ?_
    refine cCond (b := r_3) hf rfl (fun hb => ?_) (fun hb => ?_)
    ·replace hF := condT hb hF
     clear hb
     refine wp_skip ?_
     refine h27 _ _ ?_
     refine wp_thenK fun K29 h29 => wp_block ?_
     refine wp_seq_k fun K30 h30 => cReg ?_
     refine stP hf rfl rfl rfl (pA rfl) fun a hf => cNil ?_
     refine h30 _ _ ?_
     refine wp_seq_k fun K31 h31 => wp_seq_k fun K32 h32 => cReg ?_
     refine stP hf rfl rfl rfl (pFA fa_54_4 rfl) fun a hf => stE hf hc rfl rfl rfl (eLd1 sc_52 rfl (cell_box m5 rfl)) fun a w hf hc => stP hf rfl rfl rfl (pLenS Tryz.underlying52 rfl) fun a hf => stP hf rfl rfl rfl (pM rfl) fun a hf => cNil ?_
     refine h32 _ _ ?_
     refine wp_block ?_
     obtain ⟨x33,hx33,hF⟩ := bnd_some hF
     let S33 : (Int × Int) → Act → World → Prop := (fun (zz : Int × Int) a w => ∃ (p_9 : Option Addr) (c_9 : Nat),Has 105 a [(5,pq b_2),(6,.slice p_1 out.length c_1),(7,i6 at__1),(9,pq b_4),(10,pq b_5),(11,i6 zz.1),(35,.slice c__Rides_p c_.Rides.length c__Rides_c),(36,i6 ((c_.Rides.length : Nat) : Int)),(37,i6 x),(59,.slice p_9 x_1.length c_9),(60,i6 ((x_1.length : Nat) : Int)),(61,i6 zz.2)] ∧ Ctx G (.row p_7 c_7 (x_3.map enc_crew_Ride) 72 4::.box b_5 [i6 c_.Car,i6 c_.Wide,i6 c_.Sag,i6 c_.Most,.slice p_7 x_3.length c_7] 54::.box b_4 [i6 x_2,i6 e_1.Long,i6 e_1.Weight.Lo,i6 e_1.Weight.Hi] 72::.row p_9 c_9 (x_1.map enc_crew_Ride) 72 4::.row p_1 c_1 (out.map encI_i64) 3 1::.box b_2 [i6 c_.Car,i6 c_.Wide,i6 c_.Sag,i6 c_.Most,.slice p_9 x_1.length c_9] 54::Lf) w)
     have hr33 : ∀ (zz : Int × Int) a w,x33 = .go zz → S33 zz a w → K31 a w := by
      rintro ⟨next_,x_4⟩ a w rfl ⟨p_9,c_9,hf,hc⟩
      replace hF := exK_go hF
      refine h31 _ _ ?_
      refine wp_seq_k fun K34 h34 => cReg ?_
      refine stP hf rfl rfl rfl (pM rfl) fun a hf => stP hf rfl rfl rfl (pA rfl) fun a hf => cNil ?_
      refine h34 _ _ ?_
      refine wp_seq_k fun K35 h35 => cReg ?_
      refine stP hf rfl rfl rfl (pM rfl) fun a hf => stP hf rfl rfl rfl (pFA fa_72_0 rfl) fun a hf => stSt (vs := [i6 next_]) hf hc rfl rfl rfl rfl sz_3 rfl rfl u2 fun w hc => cNil ?_
      refine h35 _ _ ?_
      refine cReg ?_
      refine stP hf rfl rfl rfl (pFA fa_54_4 rfl) fun a hf => stE hf hc rfl rfl rfl (eLd1 sc_52 rfl (cell_box m1 rfl)) fun a w hf hc => stP hf rfl rfl rfl (pFA fa_54_4 rfl) fun a hf => stE hf hc rfl rfl rfl (eLd1 sc_52 rfl (cell_box m1 rfl)) fun a w hf hc => stP hf rfl rfl rfl (pLenS Tryz.underlying52 rfl) fun a hf => stP hf rfl rfl rfl (pSub rfl rfl) fun a hf => stE hf hc rfl rfl rfl (eLdN (vs := [i6 next_,i6 e_1.Long,i6 e_1.Weight.Lo,i6 e_1.Weight.Hi]) ag_72 rfl rfl (cells_box (n := 4) m2 rfl)) fun a w hf hc => ?_
      obtain ⟨e_2,he_2,hF⟩ := bnd_some hF
      obtain ⟨g,rfl,qa_1,qr⟩ := row_atm hc m0 he_2
      refine stP hf rfl rfl rfl (pIA Tryz.underlying52 sz_72 rfl rfl qa_1) fun a hf => stRw (vs := [i6 next_,i6 e_1.Long,i6 e_1.Weight.Lo,i6 e_1.Weight.Hi]) (o' := 0) (z := (⟨next_,e_1.Long,e_1.Weight⟩ : crew_Ride)) (xs := x_3) hf hc rfl rfl rfl rfl sz_72 rfl (fun x => (one_enc_crew_Ride x).1) (getI_lt he_2) (fun _ _ => rfl) rfl u0 fun w hc => cNil ?_
      refine h29 _ _ ?_
      replace hc : Ctx G (.row (some ⟨g,0,none⟩) c_7 ((x_3.set (W (((x_3.length : Nat) : Int) - 1)).toNat (⟨next_,e_1.Long,e_1.Weight⟩ : crew_Ride)).map enc_crew_Ride) 72 4::.box b_5 [i6 c_.Car,i6 c_.Wide,i6 c_.Sag,i6 c_.Most,.slice (some ⟨g,0,none⟩) ((x_3.set (W (((x_3.length : Nat) : Int) - 1)).toNat (⟨next_,e_1.Long,e_1.Weight⟩ : crew_Ride)).length) c_7] 54::.box b_4 [i6 next_,i6 e_1.Long,i6 e_1.Weight.Lo,i6 e_1.Weight.Hi] 72::.row p_9 c_9 (x_1.map enc_crew_Ride) 72 4::.row p_1 c_1 (out.map encI_i64) 3 1::.box b_2 [i6 c_.Car,i6 c_.Wide,i6 c_.Sag,i6 c_.Most,.slice p_9 x_1.length c_9] 54::Lf) w := by simp only [List.length_set] at hc ⊢; exact hc
      exact hK25 (next_,next_,(x_3.set (W (((x_3.length : Nat) : Int) - 1)).toNat (⟨next_,e_1.Long,e_1.Weight⟩ : crew_Ride))) _ _ (sj hF).symm ⟨p_9,c_9,(some ⟨g,0,none⟩),c_7,hf.kp rfl,hc⟩
     have ho33 : ∀ r,x33 = .out r → r = st25 := by
      rintro r rfl
      exact sj hF
     refine cLoop N (loopW (S := S33) (x := x33) ?_ N ((-1),0) _ _ ⟨p_6,c_6,hf.kp rfl,hc⟩ hx33)
     clear hF hf hc
     rintro ⟨next_,x_4⟩ st33 a w KB33 ⟨p_9,c_9,hf,hc⟩ hF hfin33 hK33
     unfold crew_Queue_b33 at hF
     refine wp_seq_k fun K36 h36 => cReg ?_
     refine stP hf rfl rfl rfl (pLt rfl rfl) fun a hf => cNil ?_
     refine h36 _ _ ?_
     refine wp_seq_k fun K37 h37 => cCond (b := (decide (x_4 < ((x_1.length : Nat) : Int)))) hf rfl (fun hb => ?_) (fun hb => ?_)
     ·replace hF := condT hb hF
      clear hb
      refine wp_skip ?_
      refine h37 _ _ ?_
      refine wp_seq_k fun K38 h38 => ?_
      have hj38 : ∀ (next__1 : Int) (p_10 : Option Addr) (c_10 : Nat) a w,Has 105 a [(5,pq b_2),(6,.slice p_1 out.length c_1),(7,i6 at__1),(9,pq b_4),(10,pq b_5),(11,i6 next__1),(35,.slice c__Rides_p c_.Rides.length c__Rides_c),(36,i6 ((c_.Rides.length : Nat) : Int)),(37,i6 x),(59,.slice p_10 x_1.length c_10),(60,i6 ((x_1.length : Nat) : Int)),(61,i6 x_4)] → Ctx G (.row p_7 c_7 (x_3.map enc_crew_Ride) 72 4::.box b_5 [i6 c_.Car,i6 c_.Wide,i6 c_.Sag,i6 c_.Most,.slice p_7 x_3.length c_7] 54::.box b_4 [i6 x_2,i6 e_1.Long,i6 e_1.Weight.Lo,i6 e_1.Weight.Hi] 72::.row p_10 c_10 (x_1.map enc_crew_Ride) 72 4::.row p_1 c_1 (out.map encI_i64) 3 1::.box b_2 [i6 c_.Car,i6 c_.Wide,i6 c_.Sag,i6 c_.Most,.slice p_10 x_1.length c_10] 54::Lf) w → crew_Queue_j38 N x_4 next__1 = some st33 → K38 a w := by
       repeat (clear hF)
       repeat (clear hc)
       repeat (clear hf)
       intro next__1 p_10 c_10 a w hf hc hF
       unfold crew_Queue_j38 at hF
       refine h38 _ _ ?_
       refine cReg ?_
       refine stP hf rfl rfl rfl (pAdd rfl rfl) fun a hf => stP hf rfl rfl rfl (pM rfl) fun a hf => cNil ?_
       exact hK33 (next__1,W (x_4 + 1)) _ _ (sj hF).symm ⟨p_10,c_10,hf.kp rfl,hc⟩
      refine wp_block ?_
      refine wp_seq_k fun K39 h39 => cReg ?_
      obtain ⟨e_3,he_3,hF⟩ := bnd_some hF
      obtain ⟨g_1,rfl,qa_2,qr_1⟩ := row_atm hc m3 he_3
      refine stP hf rfl rfl rfl (pIA Tryz.underlying52 sz_72 rfl rfl qa_2) fun a hf => stE hf hc rfl rfl rfl (eLdN (vs := [i6 e_3.From,i6 e_3.Long,i6 e_3.Weight.Lo,i6 e_3.Weight.Hi]) ag_72 rfl rfl (cells_rw (sz := 4) (i := x_4.toNat) m3 qr_1 (n := 4) (o' := 0) rfl)) fun a w hf hc => stAl (cs := [i6 0,i6 0,i6 0,i6 0]) hf hc rfl rfl zr_72 rfl fun b_9 a w hf hc => stSt (vs := [i6 e_3.From,i6 e_3.Long,i6 e_3.Weight.Lo,i6 e_3.Weight.Hi]) hf hc rfl rfl rfl rfl sz_72 rfl rfl u0 fun w hc => cNil ?_
      refine h39 _ _ ?_
      refine wp_seq_k fun K40 h40 => cReg ?_
      refine stE hf hc rfl rfl rfl (eLdN (vs := [i6 e_3.From,i6 e_3.Long,i6 e_3.Weight.Lo,i6 e_3.Weight.Hi]) ag_72 rfl rfl (cells_box (n := 4) m0 rfl)) fun a w hf hc => stP hf rfl rfl rfl (pM rfl) fun a hf => stE hf hc rfl rfl rfl (eC (v := .bool (crew_Ride_on e_3 at__1)) (vs := [.agg #[i6 e_3.From,i6 e_3.Long,i6 e_3.Weight.Lo,i6 e_3.Weight.Hi],i6 at__1]) (caps := []) en_104 rfl rfl rfl rfl (fun w hc => crew_Ride_on_ok e_3 at__1 hc rfl)) fun a w hf hc => stP hf rfl rfl rfl (pM rfl) fun a hf => stCut 12 (fun a w => Has 105 a [(5,pq b_2),(6,.slice p_1 out.length c_1),(7,i6 at__1),(9,pq b_4),(10,pq b_5),(11,i6 next_),(35,.slice c__Rides_p c_.Rides.length c__Rides_c),(36,i6 ((c_.Rides.length : Nat) : Int)),(37,i6 x),(59,.slice (some ⟨g_1,0,none⟩) x_1.length c_9),(60,i6 ((x_1.length : Nat) : Int)),(61,i6 x_4),(13,pq b_9),(65,.agg #[i6 e_3.From,i6 e_3.Long,i6 e_3.Weight.Lo,i6 e_3.Weight.Hi]),(66,i6 at__1),(67,.bool (crew_Ride_on e_3 at__1)),(68,.bool (crew_Ride_on e_3 at__1)),(80,.bool ((crew_Ride_on e_3 at__1) && ((next_ == (-1)) || (decide ((W (e_3.From + e_3.Long)) < next_)))))] ∧ Ctx G (.box b_9 [i6 e_3.From,i6 e_3.Long,i6 e_3.Weight.Lo,i6 e_3.Weight.Hi] 72::.row p_7 c_7 (x_3.map enc_crew_Ride) 72 4::.box b_5 [i6 c_.Car,i6 c_.Wide,i6 c_.Sag,i6 c_.Most,.slice p_7 x_3.length c_7] 54::.box b_4 [i6 x_2,i6 e_1.Long,i6 e_1.Weight.Lo,i6 e_1.Weight.Hi] 72::.row (some ⟨g_1,0,none⟩) c_9 (x_1.map enc_crew_Ride) 72 4::.row p_1 c_1 (out.map encI_i64) 3 1::.box b_2 [i6 c_.Car,i6 c_.Wide,i6 c_.Sag,i6 c_.Most,.slice (some ⟨g_1,0,none⟩) x_1.length c_9] 54::Lf) w) ?_ ?_
      ·cases hb : (crew_Ride_on e_3 at__1)
       ·rw [hb] at hf
        refine stS hf rfl rfl rfl fun a hf => stS hf rfl rfl rfl fun a hf => stS hf rfl rfl rfl fun a hf => stS hf rfl rfl rfl fun a hf => stS hf rfl rfl rfl fun a hf => stS hf rfl rfl rfl fun a hf => stS hf rfl rfl rfl fun a hf => stS hf rfl rfl rfl fun a hf => stS hf rfl rfl rfl fun a hf => stS hf rfl rfl rfl fun a hf => stS hf rfl rfl rfl fun a hf => stP hf rfl rfl rfl (pPf rfl rfl) fun a hf => cNil ⟨hf.kp rfl,hc⟩
       ·rw [hb] at hf
        refine stP hf rfl rfl rfl (pM rfl) fun a hf => stP hf rfl rfl rfl (pEq rfl rfl) fun a hf => stP hf rfl rfl rfl (pM rfl) fun a hf => stCut 8 (fun a w => Has 105 a [(5,pq b_2),(6,.slice p_1 out.length c_1),(7,i6 at__1),(9,pq b_4),(10,pq b_5),(11,i6 next_),(35,.slice c__Rides_p c_.Rides.length c__Rides_c),(36,i6 ((c_.Rides.length : Nat) : Int)),(37,i6 x),(59,.slice (some ⟨g_1,0,none⟩) x_1.length c_9),(60,i6 ((x_1.length : Nat) : Int)),(61,i6 x_4),(13,pq b_9),(65,.agg #[i6 e_3.From,i6 e_3.Long,i6 e_3.Weight.Lo,i6 e_3.Weight.Hi]),(66,i6 at__1),(67,.bool true),(68,.bool true),(69,i6 next_),(70,.bool (next_ == (-1))),(71,.bool (next_ == (-1))),(79,.bool ((next_ == (-1)) || (decide ((W (e_3.From + e_3.Long)) < next_))))] ∧ Ctx G (.box b_9 [i6 e_3.From,i6 e_3.Long,i6 e_3.Weight.Lo,i6 e_3.Weight.Hi] 72::.row p_7 c_7 (x_3.map enc_crew_Ride) 72 4::.box b_5 [i6 c_.Car,i6 c_.Wide,i6 c_.Sag,i6 c_.Most,.slice p_7 x_3.length c_7] 54::.box b_4 [i6 x_2,i6 e_1.Long,i6 e_1.Weight.Lo,i6 e_1.Weight.Hi] 72::.row (some ⟨g_1,0,none⟩) c_9 (x_1.map enc_crew_Ride) 72 4::.row p_1 c_1 (out.map encI_i64) 3 1::.box b_2 [i6 c_.Car,i6 c_.Wide,i6 c_.Sag,i6 c_.Most,.slice (some ⟨g_1,0,none⟩) x_1.length c_9] 54::Lf) w) ?_ ?_
        ·cases hb : (next_ == (-1))
         ·rw [hb] at hf
          refine stP hf rfl rfl rfl (pFA fa_72_0 rfl) fun a hf => stE hf hc rfl rfl rfl (eLd1 sc_3 rfl (cell_box m0 rfl)) fun a w hf hc => stP hf rfl rfl rfl (pFA fa_72_1 rfl) fun a hf => stE hf hc rfl rfl rfl (eLd1 sc_3 rfl (cell_box m0 rfl)) fun a w hf hc => stP hf rfl rfl rfl (pAdd rfl rfl) fun a hf => stP hf rfl rfl rfl (pM rfl) fun a hf => stP hf rfl rfl rfl (pLt rfl rfl) fun a hf => stP hf rfl rfl rfl (pPf rfl rfl) fun a hf => cNil ⟨hf.kp rfl,hc⟩
         ·rw [hb] at hf
          refine stS hf rfl rfl rfl fun a hf => stS hf rfl rfl rfl fun a hf => stS hf rfl rfl rfl fun a hf => stS hf rfl rfl rfl fun a hf => stS hf rfl rfl rfl fun a hf => stS hf rfl rfl rfl fun a hf => stS hf rfl rfl rfl fun a hf => stP hf rfl rfl rfl (pPt rfl rfl) fun a hf => cNil ⟨hf.kp rfl,hc⟩
        intro a w ⟨hf,hc⟩
        refine stP hf rfl rfl rfl (pPt rfl rfl) fun a hf => cNil ⟨hf.kp rfl,hc⟩
      intro a w ⟨hf,hc⟩
      refine cNil ?_
      refine h40 _ _ ?_
      refine cCond (b := ((crew_Ride_on e_3 at__1) && ((next_ == (-1)) || (decide ((W (e_3.From + e_3.Long)) < next_))))) hf rfl (fun hb => ?_) (fun hb => ?_)
      ·replace hF := condT hb hF
       clear hb
       refine cReg ?_
       refine stP hf rfl rfl rfl (pFA fa_72_0 rfl) fun a hf => stE hf hc rfl rfl rfl (eLd1 sc_3 rfl (cell_box m0 rfl)) fun a w hf hc => stP hf rfl rfl rfl (pFA fa_72_1 rfl) fun a hf => stE hf hc rfl rfl rfl (eLd1 sc_3 rfl (cell_box m0 rfl)) fun a w hf hc => stP hf rfl rfl rfl (pAdd rfl rfl) fun a hf => stP hf rfl rfl rfl (pA rfl) fun a hf => cNil ?_
       replace hc := hc.drop k0
       exact hj38 (W (e_3.From + e_3.Long)) (some ⟨g_1,0,none⟩) c_9 _ _  (hf.kp rfl) hc hF
      ·replace hF := condF hb hF
       clear hb
       refine wp_skip ?_
       replace hc := hc.drop k0
       exact hj38 next_ (some ⟨g_1,0,none⟩) c_9 _ _  (hf.kp rfl) hc hF
     ·replace hF := condF hb hF
      clear hb
      refine wp_exit ?_
      refine xThen ?_
      refine xThen ?_
      have he := sj hF
      rw [← he] at hfin33
      refine cHit ?_
      exact hr33 _ _ _ hfin33 ⟨p_9,c_9,hf.kp rfl,hc⟩
    ·replace hF := condF hb hF
     clear hb
     refine wp_exit ?_
     refine xThen ?_
     refine xThen ?_
     have he := sj hF
     rw [← he] at hfin25
     refine cHit ?_
     exact hr25 _ _ _ hfin25 ⟨p_6,c_6,p_7,c_7,hf.kp rfl,hc⟩
   ·replace hF := condF hb hF
    clear hb
    refine wp_exit ?_
    refine xThen ?_
    refine xThen ?_
    have he := sj hF
    rw [← he] at hfin14
    refine cHit ?_
    exact hr14 _ _ _ hfin14 ⟨p_1,c_1,p_2,c_2,hf.kp rfl,hc⟩

def crew_Paid_1 (n : Int) : Bool :=
 (crew_in n 0 1440)
theorem crew_Paid_1_ok {G : Pers} {Lf : List Ent} {w : World} (n : Int)   (hc : Ctx G (Lf) w) {res : Bool} (hF : crew_Paid_1 n = res) : Calls Tryz.prog 88 #[i6 n] w (fun e w => e = .returned (.bool res) ∧ Ctx G (Lf) w) := by
 unfold crew_Paid_1 at hF
 refine fnIn (args := [i6 n]) Tryz.func88 rfl Tryz.ntmps88 rfl fun a hf => wp_seq_k fun K1 h1 => cReg ?_
 refine stP hf rfl rfl rfl (pA rfl) fun a hf => cNil ?_
 refine h1 _ _ ?_
 refine wp_seq_k fun K2 h2 => cReg ?_
 refine stP hf rfl rfl rfl (pM rfl) fun a hf => stE hf hc rfl rfl rfl (eC (v := .bool (crew_in n 0 1440)) (vs := [i6 n,i6 0,i6 1440]) (caps := []) en_86 rfl rfl rfl rfl (fun w hc => crew_in_ok n 0 1440 hc rfl)) fun a w hf hc => stP hf rfl rfl rfl (pA rfl) fun a hf => cNil ?_
 refine h2 _ _ ?_
 refine wp_ret ?_
 obtain rfl := hF
 exact fnOut1 (by simp) rfl Tryz.results88 hf hc (show look _ 2 = _ from rfl) ⟨rfl,hc⟩

def crew_every_int_1_s4 (x : Int) : Bool :=
 (!(crew_Paid_1 x))
theorem crew_every_int_1_s4_ok {G : Pers} {Lf : List Ent} {w : World} (x : Int) {b_ : Nat}  (hc : Ctx G (.box b_ [.func (.func 88) #[] #[]] 143::Lf) w) {res : Bool} (hF : crew_every_int_1_s4 x = res) : Calls Tryz.prog 157 #[i6 x,pq b_] w (fun e w => e = .returned (.bool res) ∧ Ctx G (.box b_ [.func (.func 88) #[] #[]] 143::Lf) w) := by
 unfold crew_every_int_1_s4 at hF
 refine fnIn (args := [i6 x,pq b_]) Tryz.func157 rfl Tryz.ntmps157 rfl fun a hf => wp_seq_k fun K1 h1 => cReg ?_
 refine stP hf rfl rfl rfl (pA rfl) fun a hf => cNil ?_
 refine h1 _ _ ?_
 refine wp_seq_k fun K2 h2 => cReg ?_
 refine stE hf hc rfl rfl rfl (eLd1 sc_143 rfl (cell_box m0 rfl)) fun a w hf hc => stP hf rfl rfl rfl (pM rfl) fun a hf => stE hf hc rfl rfl rfl (eC (v := .bool (crew_Paid_1 x)) (vs := [i6 x]) (caps := []) en_88 rfl rfl rfl rfl (fun w hc => crew_Paid_1_ok x hc rfl)) fun a w hf hc => stP hf rfl rfl rfl (pNot rfl) fun a hf => stP hf rfl rfl rfl (pA rfl) fun a hf => cNil ?_
 refine h2 _ _ ?_
 refine wp_ret ?_
 obtain rfl := hF
 exact fnOut1 (by simp) rfl Tryz.results157 hf hc (show look _ 3 = _ from rfl) ⟨rfl,hc⟩

def slices_IndexFunc_Lint_int_s8_b4 (N : Nat) (s_ : List Int) (x : Int) : Option (Step (Int) (Int)) :=
 cond (decide (x < ((s_.length : Nat) : Int)))
 (Option.bind (getI s_ x) fun e_1 =>
 cond (crew_every_int_1_s4 e_1)
 (some (.ret x))
 (some (.cont (W (x + 1)))))
 (some (.brk x))
def slices_IndexFunc_Lint_int_s8 (N : Nat) (s_ : List Int) : Option (Int) :=
 Option.bind (loopO (fun s4 => slices_IndexFunc_Lint_int_s8_b4 N s_ s4) N 0) fun x4 =>
 exK x4 (fun s4 => some (-1)) some
theorem slices_IndexFunc_Lint_int_s8_ok {N : Nat} {G : Pers} {Lf : List Ent} {w : World} (s_ : List Int) {s__p : Option Addr} {s__c : Nat} {b_ : Nat} (h_s_ : Rd G 1 s__p s__c (s_.map encI_i64)) (hc : Ctx G (.box b_ [.func (.func 88) #[] #[]] 143::Lf) w) {res : Int} (hF : slices_IndexFunc_Lint_int_s8 N s_ = some res) : Calls Tryz.prog 97 #[.slice s__p s_.length s__c,.func (.func 157) #[] #[pq b_]] w (fun e w => e = .returned (i6 res) ∧ Ctx G (.box b_ [.func (.func 88) #[] #[]] 143::Lf) w) := by
 unfold slices_IndexFunc_Lint_int_s8 at hF
 refine fnIn (args := [.slice s__p s_.length s__c,.func (.func 157) #[] #[pq b_]]) Tryz.func97 rfl Tryz.ntmps97 rfl fun a hf => wp_seq_k fun K1 h1 => cReg ?_
 refine stP hf rfl rfl rfl (pA rfl) fun a hf => cNil ?_
 refine h1 _ _ ?_
 refine wp_seq_k fun K2 h2 => wp_seq_k fun K3 h3 => cReg ?_
 refine stP hf rfl rfl rfl (pM rfl) fun a hf => stP hf rfl rfl rfl (pLenS Tryz.underlying25 rfl) fun a hf => stP hf rfl rfl rfl (pM rfl) fun a hf => cNil ?_
 refine h3 _ _ ?_
 refine wp_block ?_
 obtain ⟨x4,hx4,hF⟩ := bnd_some hF
 let S4 : Int → Act → World → Prop := (fun (zz : Int) a w => Has 19 a [(0,.slice s__p s_.length s__c),(1,.func (.func 157) #[] #[pq b_]),(7,i6 ((s_.length : Nat) : Int)),(8,i6 zz)] ∧ Ctx G (.box b_ [.func (.func 88) #[] #[]] 143::Lf) w)
 have hr4 : ∀ (zz : Int) a w,x4 = .go zz → S4 zz a w → K2 a w := by
  rintro x a w rfl ⟨hf,hc⟩
  replace hF := exK_go hF
  refine h2 _ _ ?_
  refine wp_seq_k fun K5 h5 => cReg ?_
  refine stP hf rfl rfl rfl (pA rfl) fun a hf => cNil ?_
  refine h5 _ _ ?_
  refine wp_ret ?_
  obtain rfl := sj hF
  exact fnOut1 (by simp) rfl Tryz.results97 hf hc (show look _ 4 = _ from rfl) ⟨rfl,hc⟩
 have ho4 : ∀ r,x4 = .out r → r = res := by
  rintro r rfl
  exact sj hF
 refine cLoop N (loopW (S := S4) (x := x4) ?_ N 0 _ _ ⟨hf.kp rfl,hc⟩ hx4)
 clear hF hf hc
 rintro x st4 a w KB4 ⟨hf,hc⟩ hF hfin4 hK4
 unfold slices_IndexFunc_Lint_int_s8_b4 at hF
 refine wp_seq_k fun K6 h6 => cReg ?_
 refine stP hf rfl rfl rfl (pLt rfl rfl) fun a hf => cNil ?_
 refine h6 _ _ ?_
 refine wp_seq_k fun K7 h7 => cCond (b := (decide (x < ((s_.length : Nat) : Int)))) hf rfl (fun hb => ?_) (fun hb => ?_)
 ·replace hF := condT hb hF
  clear hb
  refine wp_skip ?_
  refine h7 _ _ ?_
  refine wp_seq_k fun K8 h8 => wp_block ?_
  refine wp_seq_k fun K9 h9 => cReg ?_
  refine stP hf rfl rfl rfl (pM rfl) fun a hf => stP hf rfl rfl rfl (pA rfl) fun a hf => cNil ?_
  refine h9 _ _ ?_
  refine wp_seq_k fun K10 h10 => cReg ?_
  refine stP hf rfl rfl rfl (pM rfl) fun a hf => stP hf rfl rfl rfl (pM rfl) fun a hf => stP hf rfl rfl rfl (pM rfl) fun a hf => ?_
  obtain ⟨e_1,he_1,hF⟩ := bnd_some hF
  obtain ⟨b_1,o,qa,qp⟩ := h_s_.atm he_1
  refine stP hf rfl rfl rfl (pIA Tryz.underlying25 sz_3 rfl rfl qa) fun a hf => stE hf hc rfl rfl rfl (eLd1 sc_3 rfl (cell_pc (j := 0) qp rfl)) fun a w hf hc => stE hf hc rfl rfl rfl (eC (v := .bool (crew_every_int_1_s4 e_1)) (vs := [i6 e_1]) (caps := [pq b_]) en_157 rfl rfl rfl rfl (fun w hc => (crew_every_int_1_s4_ok e_1 (hc.pick k0) rfl).mono fun e w h => ⟨h.1,(h.2.unpick k0)⟩)) fun a w hf hc => cNil ?_
  refine h10 _ _ ?_
  refine cCond (b := (crew_every_int_1_s4 e_1)) hf rfl (fun hb => ?_) (fun hb => ?_)
  ·replace hF := condT hb hF
   clear hb
   refine wp_seq_k fun K11 h11 => cReg ?_
   refine stP hf rfl rfl rfl (pM rfl) fun a hf => stP hf rfl rfl rfl (pA rfl) fun a hf => cNil ?_
   refine h11 _ _ ?_
   refine wp_ret ?_
   refine xBlkR ?_
   refine xThenR ?_
   refine xThenR ?_
   have he := sj hF
   rw [← he] at hfin4
   replace hF := ho4 _ hfin4
   refine xBlkR ?_
   refine xThenR ?_
   obtain rfl := hF
   exact fnOut1 (by simp) rfl Tryz.results97 hf hc (show look _ 4 = _ from rfl) ⟨rfl,hc⟩
  ·replace hF := condF hb hF
   clear hb
   refine wp_skip ?_
   refine h8 _ _ ?_
   refine cReg ?_
   refine stP hf rfl rfl rfl (pAdd rfl rfl) fun a hf => stP hf rfl rfl rfl (pM rfl) fun a hf => cNil ?_
   exact hK4 (W (x + 1)) _ _ (sj hF).symm ⟨hf.kp rfl,hc⟩
 ·replace hF := condF hb hF
  clear hb
  refine wp_exit ?_
  refine xThen ?_
  refine xThen ?_
  have he := sj hF
  rw [← he] at hfin4
  refine cHit ?_
  exact hr4 _ _ _ hfin4 ⟨hf.kp rfl,hc⟩

def slices_ContainsFunc_Lint_int_s6 (N : Nat) (s_ : List Int) : Option (Bool) :=
 Option.bind (slices_IndexFunc_Lint_int_s8 N s_) fun r =>
 some (decide (0 ≤ r))
theorem slices_ContainsFunc_Lint_int_s6_ok {N : Nat} {G : Pers} {Lf : List Ent} {w : World} (s_ : List Int) {s__p : Option Addr} {s__c : Nat} {b_ : Nat} (h_s_ : Rd G 1 s__p s__c (s_.map encI_i64)) (hc : Ctx G (.box b_ [.func (.func 88) #[] #[]] 143::Lf) w) {res : Bool} (hF : slices_ContainsFunc_Lint_int_s6 N s_ = some res) : Calls Tryz.prog 113 #[.slice s__p s_.length s__c,.func (.func 157) #[] #[pq b_]] w (fun e w => e = .returned (.bool res) ∧ Ctx G (.box b_ [.func (.func 88) #[] #[]] 143::Lf) w) := by
 unfold slices_ContainsFunc_Lint_int_s6 at hF
 refine fnIn (args := [.slice s__p s_.length s__c,.func (.func 157) #[] #[pq b_]]) Tryz.func113 rfl Tryz.ntmps113 rfl fun a hf => wp_seq_k fun K1 h1 => cReg ?_
 refine stP hf rfl rfl rfl (pA rfl) fun a hf => cNil ?_
 refine h1 _ _ ?_
 refine wp_seq_k fun K2 h2 => cReg ?_
 refine stP hf rfl rfl rfl (pM rfl) fun a hf => stP hf rfl rfl rfl (pM rfl) fun a hf => ?_
 obtain ⟨r,hr,hF⟩ := bnd_some hF
 refine stE hf hc rfl rfl rfl (eC (v := i6 r) (vs := [.slice s__p s_.length s__c,.func (.func 157) #[] #[pq b_]]) (caps := []) en_97 rfl rfl rfl rfl (fun w hc => (slices_IndexFunc_Lint_int_s8_ok s_ h_s_ (hc.pick k0) hr).mono fun e w h => ⟨h.1,(h.2.unpick k0)⟩)) fun a w hf hc => stP hf rfl rfl rfl (pGe rfl rfl) fun a hf => stP hf rfl rfl rfl (pA rfl) fun a hf => cNil ?_
 refine h2 _ _ ?_
 refine wp_ret ?_
 obtain rfl := sj hF
 exact fnOut1 (by simp) rfl Tryz.results113 hf hc (show look _ 4 = _ from rfl) ⟨rfl,hc⟩

def crew_every_int_s4 (N : Nat) (l : List Int) : Option (Bool) :=
 Option.bind (slices_ContainsFunc_Lint_int_s6 N l) fun r =>
 some (!r)
theorem crew_every_int_s4_ok {N : Nat} {G : Pers} {Lf : List Ent} {w : World} (l : List Int) {l_p : Option Addr} {l_c : Nat} (h_l : Rd G 1 l_p l_c (l.map encI_i64)) (hc : Ctx G (Lf) w) {res : Bool} (hF : crew_every_int_s4 N l = some res) : Calls Tryz.prog 87 #[.slice l_p l.length l_c,.func (.func 88) #[] #[]] w (fun e w => e = .returned (.bool res) ∧ Ctx G (Lf) w) := by
 unfold crew_every_int_s4 at hF
 refine fnIn (args := [.slice l_p l.length l_c,.func (.func 88) #[] #[]]) Tryz.func87 rfl Tryz.ntmps87 rfl fun a hf => wp_seq_k fun K1 h1 => cReg ?_
 refine stBx (cs := [.func (.func 88) #[] #[]]) hf hc rfl rfl rfl rfl fun b_1 a w hf hc => stP hf rfl rfl rfl (pA rfl) fun a hf => cNil ?_
 refine h1 _ _ ?_
 refine wp_seq_k fun K2 h2 => cReg ?_
 refine stP hf rfl rfl rfl (pM rfl) fun a hf => stP hf rfl rfl rfl (pMF (us := [pq b_1]) rfl rfl) fun a hf => ?_
 obtain ⟨r,hr,hF⟩ := bnd_some hF
 refine stE hf hc rfl rfl rfl (eC (v := .bool r) (vs := [.slice l_p l.length l_c,.func (.func 157) #[] #[pq b_1]]) (caps := []) en_113 rfl rfl rfl rfl (fun w hc => (slices_ContainsFunc_Lint_int_s6_ok l h_l (hc.pick k0) hr).mono fun e w h => ⟨h.1,(h.2.unpick k0)⟩)) fun a w hf hc => stP hf rfl rfl rfl (pNot rfl) fun a hf => stP hf rfl rfl rfl (pA rfl) fun a hf => cNil ?_
 refine h2 _ _ ?_
 refine wp_ret ?_
 obtain rfl := sj hF
 replace hc := hc.drop k0
 exact fnOut1 (by simp) rfl Tryz.results87 hf hc (show look _ 4 = _ from rfl) ⟨rfl,hc⟩

def crew_Paid_b12 (N : Nat) (p_ : crew_Pay) (l : List Int) (out : Int) (x : Int) : Option (Step (Int × Int) (Int × Int)) :=
 cond (decide (x < ((l.length : Nat) : Int)))
 (Option.bind (getI l x) fun e_1 =>
 some (.cont (W (out + (W (p_.Rate * (W ((W (1000 * e_1)) + (W (p_.Extra * (max 0 (W (e_1 - p_.Normal)))))))))),W (x + 1))))
 (some (.brk (out,x)))
def crew_Paid (N : Nat) (p_ : crew_Pay) (l : List Int) : Option (Int × Int) :=
 cond (((!(crew_in p_.Rate 0 10000)) || (!(crew_in p_.Normal 0 1440))) || (!(crew_in p_.Extra 0 1000)))
 (some (0,120))
 (cond (decide (366 < ((l.length : Nat) : Int)))
 (some (0,3))
 (Option.bind (crew_every_int_s4 N l) fun r =>
 cond (!r)
 (some (0,4))
 (Option.bind (loopO (fun s12 => crew_Paid_b12 N p_ l s12.1 s12.2) N (0,0)) fun x12 =>
 exK x12 (fun s12 => some (W ((W (s12.1 + 59999)).tdiv 60000),0)) some)))
theorem crew_Paid_ok {N : Nat} {G : Pers} {Lf : List Ent} {w : World} (p_ : crew_Pay) (l : List Int) {l_p : Option Addr} {l_c : Nat} (h_l : Rd G 1 l_p l_c (l.map encI_i64)) (hc : Ctx G (Lf) w) {res : Int × Int} (hF : crew_Paid N p_ l = some res) : Calls Tryz.prog 26 #[.agg #[i6 p_.Rate,i6 p_.Normal,i6 p_.Extra],.slice l_p l.length l_c] w (fun e w => e = .returned (.tuple #[i6 res.1,i6 res.2]) ∧ Ctx G (Lf) w) := by
 unfold crew_Paid at hF
 refine fnIn (args := [.agg #[i6 p_.Rate,i6 p_.Normal,i6 p_.Extra],.slice l_p l.length l_c]) Tryz.func26 rfl Tryz.ntmps26 rfl fun a hf => wp_seq_k fun K1 h1 => cReg ?_
 refine stBx (cs := [i6 p_.Rate,i6 p_.Normal,i6 p_.Extra]) hf hc rfl rfl rfl rfl fun b_1 a w hf hc => stP hf rfl rfl rfl (pA rfl) fun a hf => stP hf rfl rfl rfl (pA rfl) fun a hf => cNil ?_
 refine h1 _ _ ?_
 refine wp_seq_k fun K2 h2 => wp_block ?_
 refine wp_seq_k fun K3 h3 => cReg ?_
 refine stP hf rfl rfl rfl (pFA fa_24_0 rfl) fun a hf => stE hf hc rfl rfl rfl (eLd1 sc_3 rfl (cell_box m0 rfl)) fun a w hf hc => stE hf hc rfl rfl rfl (eC (v := .bool (crew_in p_.Rate 0 10000)) (vs := [i6 p_.Rate,i6 0,i6 10000]) (caps := []) en_86 rfl rfl rfl rfl (fun w hc => crew_in_ok p_.Rate 0 10000 hc rfl)) fun a w hf hc => stP hf rfl rfl rfl (pNot rfl) fun a hf => stP hf rfl rfl rfl (pM rfl) fun a hf => stCut 5 (fun a w => Has 60 a [(1,.slice l_p l.length l_c),(2,pq b_1),(10,pq b_1),(11,i6 p_.Rate),(12,.bool (crew_in p_.Rate 0 10000)),(13,.bool (!(crew_in p_.Rate 0 10000))),(14,.bool (!(crew_in p_.Rate 0 10000))),(19,.bool ((!(crew_in p_.Rate 0 10000)) || (!(crew_in p_.Normal 0 1440))))] ∧ Ctx G (.box b_1 [i6 p_.Rate,i6 p_.Normal,i6 p_.Extra] 24::Lf) w) ?_ ?_
 ·cases hb : (!(crew_in p_.Rate 0 10000))
  ·rw [hb] at hf
   refine stP hf rfl rfl rfl (pFA fa_24_1 rfl) fun a hf => stE hf hc rfl rfl rfl (eLd1 sc_3 rfl (cell_box m0 rfl)) fun a w hf hc => stE hf hc rfl rfl rfl (eC (v := .bool (crew_in p_.Normal 0 1440)) (vs := [i6 p_.Normal,i6 0,i6 1440]) (caps := []) en_86 rfl rfl rfl rfl (fun w hc => crew_in_ok p_.Normal 0 1440 hc rfl)) fun a w hf hc => stP hf rfl rfl rfl (pNot rfl) fun a hf => stP hf rfl rfl rfl (pPf rfl rfl) fun a hf => cNil ⟨hf.kp rfl,hc⟩
  ·rw [hb] at hf
   refine stS hf rfl rfl rfl fun a hf => stS hf rfl rfl rfl fun a hf => stS hf rfl rfl rfl fun a hf => stS hf rfl rfl rfl fun a hf => stP hf rfl rfl rfl (pPt rfl rfl) fun a hf => cNil ⟨hf.kp rfl,hc⟩
 intro a w ⟨hf,hc⟩
 refine stP hf rfl rfl rfl (pM rfl) fun a hf => stCut 5 (fun a w => Has 60 a [(1,.slice l_p l.length l_c),(2,pq b_1),(10,pq b_1),(11,i6 p_.Rate),(12,.bool (crew_in p_.Rate 0 10000)),(13,.bool (!(crew_in p_.Rate 0 10000))),(14,.bool (!(crew_in p_.Rate 0 10000))),(19,.bool ((!(crew_in p_.Rate 0 10000)) || (!(crew_in p_.Normal 0 1440)))),(20,.bool ((!(crew_in p_.Rate 0 10000)) || (!(crew_in p_.Normal 0 1440)))),(25,.bool (((!(crew_in p_.Rate 0 10000)) || (!(crew_in p_.Normal 0 1440))) || (!(crew_in p_.Extra 0 1000))))] ∧ Ctx G (.box b_1 [i6 p_.Rate,i6 p_.Normal,i6 p_.Extra] 24::Lf) w) ?_ ?_
 ·cases hb : ((!(crew_in p_.Rate 0 10000)) || (!(crew_in p_.Normal 0 1440)))
  ·rw [hb] at hf
   refine stP hf rfl rfl rfl (pFA fa_24_2 rfl) fun a hf => stE hf hc rfl rfl rfl (eLd1 sc_3 rfl (cell_box m0 rfl)) fun a w hf hc => stE hf hc rfl rfl rfl (eC (v := .bool (crew_in p_.Extra 0 1000)) (vs := [i6 p_.Extra,i6 0,i6 1000]) (caps := []) en_86 rfl rfl rfl rfl (fun w hc => crew_in_ok p_.Extra 0 1000 hc rfl)) fun a w hf hc => stP hf rfl rfl rfl (pNot rfl) fun a hf => stP hf rfl rfl rfl (pPf rfl rfl) fun a hf => cNil ⟨hf.kp rfl,hc⟩
  ·rw [hb] at hf
   refine stS hf rfl rfl rfl fun a hf => stS hf rfl rfl rfl fun a hf => stS hf rfl rfl rfl fun a hf => stS hf rfl rfl rfl fun a hf => stP hf rfl rfl rfl (pPt rfl rfl) fun a hf => cNil ⟨hf.kp rfl,hc⟩
 intro a w ⟨hf,hc⟩
 refine stP hf rfl rfl rfl (pA rfl) fun a hf => cNil ?_
 refine h3 _ _ ?_
 refine cCond (b := (((!(crew_in p_.Rate 0 10000)) || (!(crew_in p_.Normal 0 1440))) || (!(crew_in p_.Extra 0 1000)))) hf rfl (fun hb => ?_) (fun hb => ?_)
 ·replace hF := condT hb hF
  clear hb
  refine wp_seq_k fun K4 h4 => cReg ?_
  refine stP hf rfl rfl rfl (pA rfl) fun a hf => stP hf rfl rfl rfl (pA rfl) fun a hf => cNil ?_
  refine h4 _ _ ?_
  refine wp_ret ?_
  refine xBlkR ?_
  refine xThenR ?_
  obtain rfl := sj hF
  replace hc := hc.drop k0
  exact fnOut2 (by simp) rfl Tryz.results26 hf hc (show look _ 4 = _ from rfl) (show look _ 5 = _ from rfl) ⟨rfl,hc⟩
 ·replace hF := condF hb hF
  clear hb
  refine wp_seq_k fun K5 h5 => cReg ?_
  refine stP hf rfl rfl rfl (pM rfl) fun a hf => stP hf rfl rfl rfl (pLenS Tryz.underlying25 rfl) fun a hf => stP hf rfl rfl rfl (pGt rfl rfl) fun a hf => stP hf rfl rfl rfl (pA rfl) fun a hf => cNil ?_
  refine h5 _ _ ?_
  refine cCond (b := (decide (366 < ((l.length : Nat) : Int)))) hf rfl (fun hb => ?_) (fun hb => ?_)
  ·replace hF := condT hb hF
   clear hb
   refine wp_seq_k fun K6 h6 => cReg ?_
   refine stP hf rfl rfl rfl (pA rfl) fun a hf => stP hf rfl rfl rfl (pA rfl) fun a hf => cNil ?_
   refine h6 _ _ ?_
   refine wp_ret ?_
   refine xBlkR ?_
   refine xThenR ?_
   obtain rfl := sj hF
   replace hc := hc.drop k0
   exact fnOut2 (by simp) rfl Tryz.results26 hf hc (show look _ 4 = _ from rfl) (show look _ 5 = _ from rfl) ⟨rfl,hc⟩
  ·replace hF := condF hb hF
   clear hb
   refine wp_seq_k fun K7 h7 => cReg ?_
   refine stP hf rfl rfl rfl (pM rfl) fun a hf => ?_
   obtain ⟨r,hr,hF⟩ := bnd_some hF
   refine stE hf hc rfl rfl rfl (eC (v := .bool r) (vs := [.slice l_p l.length l_c,.func (.func 88) #[] #[]]) (caps := []) en_87 rfl rfl rfl rfl (fun w hc => crew_every_int_s4_ok l h_l hc hr)) fun a w hf hc => stP hf rfl rfl rfl (pNot rfl) fun a hf => stP hf rfl rfl rfl (pA rfl) fun a hf => cNil ?_
   refine h7 _ _ ?_
   refine cCond (b := (!r)) hf rfl (fun hb => ?_) (fun hb => ?_)
   ·replace hF := condT hb hF
    clear hb
    refine wp_seq_k fun K8 h8 => cReg ?_
    refine stP hf rfl rfl rfl (pA rfl) fun a hf => stP hf rfl rfl rfl (pA rfl) fun a hf => cNil ?_
    refine h8 _ _ ?_
    refine wp_ret ?_
    refine xBlkR ?_
    refine xThenR ?_
    obtain rfl := sj hF
    replace hc := hc.drop k0
    exact fnOut2 (by simp) rfl Tryz.results26 hf hc (show look _ 4 = _ from rfl) (show look _ 5 = _ from rfl) ⟨rfl,hc⟩
   ·replace hF := condF hb hF
    clear hb
    refine wp_skip ?_
    refine h2 _ _ ?_
    refine wp_seq_k fun K9 h9 => cReg ?_
    refine stP hf rfl rfl rfl (pA rfl) fun a hf => cNil ?_
    refine h9 _ _ ?_
    refine wp_seq_k fun K10 h10 => wp_seq_k fun K11 h11 => cReg ?_
    refine stP hf rfl rfl rfl (pM rfl) fun a hf => stP hf rfl rfl rfl (pLenS Tryz.underlying25 rfl) fun a hf => stP hf rfl rfl rfl (pM rfl) fun a hf => cNil ?_
    refine h11 _ _ ?_
    refine wp_block ?_
    obtain ⟨x12,hx12,hF⟩ := bnd_some hF
    let S12 : (Int × Int) → Act → World → Prop := (fun (zz : Int × Int) a w => Has 60 a [(2,pq b_1),(6,i6 zz.1),(34,.slice l_p l.length l_c),(35,i6 ((l.length : Nat) : Int)),(36,i6 zz.2)] ∧ Ctx G (.box b_1 [i6 p_.Rate,i6 p_.Normal,i6 p_.Extra] 24::Lf) w)
    have hr12 : ∀ (zz : Int × Int) a w,x12 = .go zz → S12 zz a w → K10 a w := by
     rintro ⟨out,x⟩ a w rfl ⟨hf,hc⟩
     replace hF := exK_go hF
     refine h10 _ _ ?_
     refine wp_seq_k fun K13 h13 => cReg ?_
     refine stP hf rfl rfl rfl (pM rfl) fun a hf => stP hf rfl rfl rfl (pAdd rfl rfl) fun a hf => stP hf rfl rfl rfl (pQuo rfl rfl (by decide)) fun a hf => stP hf rfl rfl rfl (pA rfl) fun a hf => stP hf rfl rfl rfl (pA rfl) fun a hf => cNil ?_
     refine h13 _ _ ?_
     refine wp_ret ?_
     obtain rfl := sj hF
     replace hc := hc.drop k0
     exact fnOut2 (by simp) rfl Tryz.results26 hf hc (show look _ 4 = _ from rfl) (show look _ 5 = _ from rfl) ⟨rfl,hc⟩
    have ho12 : ∀ r,x12 = .out r → r = res := by
     rintro r rfl
     exact sj hF
    refine cLoop N (loopW (S := S12) (x := x12) ?_ N (0,0) _ _ ⟨hf.kp rfl,hc⟩ hx12)
    clear hF hf hc
    rintro ⟨out,x⟩ st12 a w KB12 ⟨hf,hc⟩ hF hfin12 hK12
    unfold crew_Paid_b12 at hF
    refine wp_seq_k fun K14 h14 => cReg ?_
    refine stP hf rfl rfl rfl (pLt rfl rfl) fun a hf => cNil ?_
    refine h14 _ _ ?_
    refine wp_seq_k fun K15 h15 => cCond (b := (decide (x < ((l.length : Nat) : Int)))) hf rfl (fun hb => ?_) (fun hb => ?_)
    ·replace hF := condT hb hF
     clear hb
     refine wp_skip ?_
     refine h15 _ _ ?_
     refine wp_seq_k fun K16 h16 => wp_block ?_
     refine wp_seq_k fun K17 h17 => cReg ?_
     obtain ⟨e_1,he_1,hF⟩ := bnd_some hF
     obtain ⟨b_2,o,qa,qp⟩ := h_l.atm he_1
     refine stP hf rfl rfl rfl (pIA Tryz.underlying25 sz_3 rfl rfl qa) fun a hf => stE hf hc rfl rfl rfl (eLd1 sc_3 rfl (cell_pc (j := 0) qp rfl)) fun a w hf hc => stP hf rfl rfl rfl (pA rfl) fun a hf => cNil ?_
     refine h17 _ _ ?_
     refine cReg ?_
     refine stP hf rfl rfl rfl (pM rfl) fun a hf => stP hf rfl rfl rfl (pFA fa_24_0 rfl) fun a hf => stE hf hc rfl rfl rfl (eLd1 sc_3 rfl (cell_box m0 rfl)) fun a w hf hc => stP hf rfl rfl rfl (pM rfl) fun a hf => stP hf rfl rfl rfl (pMul rfl rfl) fun a hf => stP hf rfl rfl rfl (pFA fa_24_2 rfl) fun a hf => stE hf hc rfl rfl rfl (eLd1 sc_3 rfl (cell_box m0 rfl)) fun a w hf hc => stP hf rfl rfl rfl (pM rfl) fun a hf => stP hf rfl rfl rfl (pFA fa_24_1 rfl) fun a hf => stE hf hc rfl rfl rfl (eLd1 sc_3 rfl (cell_box m0 rfl)) fun a w hf hc => stP hf rfl rfl rfl (pSub rfl rfl) fun a hf => stP hf rfl rfl rfl (pMax2 rfl rfl) fun a hf => stP hf rfl rfl rfl (pMul rfl rfl) fun a hf => ?_
     refine stP hf rfl rfl rfl (pAdd rfl rfl) fun a hf => stP hf rfl rfl rfl (pMul rfl rfl) fun a hf => stP hf rfl rfl rfl (pAdd rfl rfl) fun a hf => stP hf rfl rfl rfl (pA rfl) fun a hf => cNil ?_
     refine h16 _ _ ?_
     refine cReg ?_
     refine stP hf rfl rfl rfl (pAdd rfl rfl) fun a hf => stP hf rfl rfl rfl (pM rfl) fun a hf => cNil ?_
     exact hK12 (W (out + (W (p_.Rate * (W ((W (1000 * e_1)) + (W (p_.Extra * (max 0 (W (e_1 - p_.Normal)))))))))),W (x + 1)) _ _ (sj hF).symm ⟨hf.kp rfl,hc⟩
    ·replace hF := condF hb hF
     clear hb
     refine wp_exit ?_
     refine xThen ?_
     refine xThen ?_
     have he := sj hF
     rw [← he] at hfin12
     refine cHit ?_
     exact hr12 _ _ _ hfin12 ⟨hf.kp rfl,hc⟩

end Go.Nilo
