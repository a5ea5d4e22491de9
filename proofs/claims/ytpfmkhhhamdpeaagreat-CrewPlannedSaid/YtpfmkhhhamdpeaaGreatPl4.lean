/-
 What functions of the Go text compute, as plain functions, and that they do, part 4 of 4. Conditions: what each theorem names.
-/
import Derived.Test.YtpfmkhhhamdpeaaGreatPl3
import Derived.Test.YtpfmkhhhamdpeaaGreatProg
set_option linter.unusedVariables false
set_option linter.unusedSimpArgs false
set_option maxRecDepth 100000
set_option maxHeartbeats 4000000
namespace Go.Nilo
open Go.Proofs


def crew_every_int_1_s4 (x : Int) : Bool :=
 (!(crew_Paid_1 x))
theorem crew_every_int_1_s4_ok {G : Pers} {Lf : List Ent} {w : World} (x : Int) {b_ : Nat}  (hc : Ctx G (.box b_ [.func (.func 88) #[] #[]] 143::Lf) w) {res : Bool} (hF : crew_every_int_1_s4 x = res) : Calls Tryz.prog 157 #[i6 x,pq b_] w (fun e w => e = .returned (.bool res) ∧ Ctx G (.box b_ [.func (.func 88) #[] #[]] 143::Lf) w) := by
 unfold crew_every_int_1_s4 at hF
 refine fnIn Tryz.func157 rfl Tryz.ntmps157 rfl fun a hf => zS fun K h => sp 1 hf rfl fun a hf => zT h ?_
 refine zS fun K h => zL hf hc sc_143 m0 rfl fun a w hf hc => sp 1 hf rfl fun a hf => zQ (v := .bool (crew_Paid_1 x)) hf hc en_88 rfl (fun w hc => crew_Paid_1_ok x hc rfl) fun a w hf hc => sp 2 hf rfl fun a hf => zT h ?_
 refine wp_ret ?_
 obtain rfl := hF
 exact zO1 Tryz.results157 hf rfl ⟨rfl,hc⟩

def slices_IndexFunc_Lint_int_s8_b4 (N : Nat) (s_ : List Int) (x : Int) : Option (Step (Int) (Int)) :=
 cond (decide (x < ((s_.length : Nat) : Int)))
 (Option.bind (getI s_ x) fun e_1 =>
 cond (crew_every_int_1_s4 e_1)
 (some (.ret x))
 (some (.cont (W (x + 1)))))
 (some (.brk x))
def slices_IndexFunc_Lint_int_s8 (N : Nat) (s_ : List Int) : Option (Int) :=
 Option.bind (loopO (fun s4 => slices_IndexFunc_Lint_int_s8_b4 N s_ s4) N 0) fun x4 =>
 exK x4 (fun s4 => some (-1)) some
theorem slices_IndexFunc_Lint_int_s8_ok {N : Nat} {G : Pers} {Lf : List Ent} {w : World} (s_ : List Int) {s__p : Option Addr} {s__c : Nat} {b_ : Nat} (h_s_ : Rd G 1 s__p s__c (s_.map encI_i64)) (hc : Ctx G (.box b_ [.func (.func 88) #[] #[]] 143::Lf) w) {res : Int} (hF : slices_IndexFunc_Lint_int_s8 N s_ = some res) : Calls Tryz.prog 97 #[.slice s__p s_.length s__c,.func (.func 157) #[] #[pq b_]] w (fun e w => e = .returned (i6 res) ∧ Ctx G (.box b_ [.func (.func 88) #[] #[]] 143::Lf) w) := by
 unfold slices_IndexFunc_Lint_int_s8 at hF
 refine fnIn Tryz.func97 rfl Tryz.ntmps97 rfl fun a hf => zS fun K h => sp 1 hf rfl fun a hf => zT h ?_
 refine wp_seq_k fun K2 h2 => zS fun K h => sp 1 hf rfl fun a hf => zP hf rfl (pLenS Tryz.underlying25 rfl) fun a hf => sp 1 hf rfl fun a hf => zT h ?_
 refine wp_block ?_
 obtain ⟨x4,hx4,hF⟩ := bnd_some hF
 let S4 : Int → Act → World → Prop := (fun (zz : Int) a w => Has 19 a [(0,.slice s__p s_.length s__c),(1,.func (.func 157) #[] #[pq b_]),(7,i6 ((s_.length : Nat) : Int)),(8,i6 zz)] ∧ Ctx G (.box b_ [.func (.func 88) #[] #[]] 143::Lf) w)
 have hr4 : ∀ (zz : Int) a w,x4 = .go zz → S4 zz a w → K2 a w := by
  rintro x a w rfl ⟨hf,hc⟩
  replace hF := exK_go hF
  refine h2 _ _ ?_
  refine zS fun K h => sp 1 hf rfl fun a hf => zT h ?_
  refine wp_ret ?_
  obtain rfl := sj hF
  exact zO1 Tryz.results97 hf rfl ⟨rfl,hc⟩
 have ho4 : ∀ r,x4 = .out r → r = res := by
  rintro r rfl
  exact sj hF
 refine cLoop N (loopW (S := S4) (x := x4) ?_ N 0 _ _ ⟨hf.kp rfl,hc⟩ hx4)
 clear hF hf hc
 rintro x st4 a w KB4 ⟨hf,hc⟩ hF hfin4 hK4
 unfold slices_IndexFunc_Lint_int_s8_b4 at hF
 refine zS fun K h => sp 1 hf rfl fun a hf => zT h ?_
 refine wp_seq_k fun K7 h7 => zI hf rfl hF ?_ ?_ <;> clear hF <;> intro hF
 ·refine wp_skip ?_
  refine h7 _ _ ?_
  refine wp_seq_k fun K8 h8 => wp_block ?_
  refine zS fun K h => sp 2 hf rfl fun a hf => zT h ?_
  refine zS fun K h => sp 3 hf rfl fun a hf => ?_
  obtain ⟨e_1,he_1,hF⟩ := bnd_some hF
  obtain ⟨b_1,o,qa,qp⟩ := h_s_.atm he_1
  refine zP hf rfl (pIA Tryz.underlying25 sz_3 rfl rfl qa) fun a hf => zE hf hc rfl (eLd1 sc_3 rfl (cell_pc (j := 0) qp rfl)) fun a w hf hc => zQ (v := .bool (crew_every_int_1_s4 e_1)) hf hc en_157 rfl (fun w hc => (crew_every_int_1_s4_ok e_1 (hc.pick k0) rfl).mono fun e w h => ⟨h.1,(h.2.unpick k0)⟩) fun a w hf hc => zT h ?_
  refine zI hf rfl hF ?_ ?_ <;> clear hF <;> intro hF
  ·refine zS fun K h => sp 2 hf rfl fun a hf => zT h ?_
   refine wp_ret ?_
   refine xBlkR ?_
   refine xThenR ?_
   refine xThenR ?_
   have he := sj hF
   rw [← he] at hfin4
   replace hF := ho4 _ hfin4
   refine xBlkR ?_
   refine xThenR ?_
   obtain rfl := hF
   exact zO1 Tryz.results97 hf rfl ⟨rfl,hc⟩
  ·refine wp_skip ?_
   refine h8 _ _ ?_
   refine cReg ?_
   refine sp 2 hf rfl fun a hf => cNil ?_
   exact hK4 (W (x + 1)) _ _ (sj hF).symm ⟨hf.kp rfl,hc⟩
 ·refine wp_exit ?_
  refine xThen ?_
  refine xThen ?_
  have he := sj hF
  rw [← he] at hfin4
  refine cHit ?_
  exact hr4 _ _ _ hfin4 ⟨hf.kp rfl,hc⟩

def slices_ContainsFunc_Lint_int_s6 (N : Nat) (s_ : List Int) : Option (Bool) :=
 Option.bind (slices_IndexFunc_Lint_int_s8 N s_) fun r =>
 some (decide (0 ≤ r))
theorem slices_ContainsFunc_Lint_int_s6_ok {N : Nat} {G : Pers} {Lf : List Ent} {w : World} (s_ : List Int) {s__p : Option Addr} {s__c : Nat} {b_ : Nat} (h_s_ : Rd G 1 s__p s__c (s_.map encI_i64)) (hc : Ctx G (.box b_ [.func (.func 88) #[] #[]] 143::Lf) w) {res : Bool} (hF : slices_ContainsFunc_Lint_int_s6 N s_ = some res) : Calls Tryz.prog 113 #[.slice s__p s_.length s__c,.func (.func 157) #[] #[pq b_]] w (fun e w => e = .returned (.bool res) ∧ Ctx G (.box b_ [.func (.func 88) #[] #[]] 143::Lf) w) := by
 unfold slices_ContainsFunc_Lint_int_s6 at hF
 refine fnIn Tryz.func113 rfl Tryz.ntmps113 rfl fun a hf => zS fun K h => sp 1 hf rfl fun a hf => zT h ?_
 refine zS fun K h => sp 2 hf rfl fun a hf => ?_
 obtain ⟨r,hr,hF⟩ := bnd_some hF
 refine zQ (v := i6 r) hf hc en_97 rfl (fun w hc => (slices_IndexFunc_Lint_int_s8_ok s_ h_s_ (hc.pick k0) hr).mono fun e w h => ⟨h.1,(h.2.unpick k0)⟩) fun a w hf hc => sp 2 hf rfl fun a hf => zT h ?_
 refine wp_ret ?_
 obtain rfl := sj hF
 exact zO1 Tryz.results113 hf rfl ⟨rfl,hc⟩

def crew_every_int_s4 (N : Nat) (l : List Int) : Option (Bool) :=
 Option.bind (slices_ContainsFunc_Lint_int_s6 N l) fun r =>
 some (!r)
theorem crew_every_int_s4_ok {N : Nat} {G : Pers} {Lf : List Ent} {w : World} (l : List Int) {l_p : Option Addr} {l_c : Nat} (h_l : Rd G 1 l_p l_c (l.map encI_i64)) (hc : Ctx G (Lf) w) {res : Bool} (hF : crew_every_int_s4 N l = some res) : Calls Tryz.prog 87 #[.slice l_p l.length l_c,.func (.func 88) #[] #[]] w (fun e w => e = .returned (.bool res) ∧ Ctx G (Lf) w) := by
 unfold crew_every_int_s4 at hF
 refine fnIn Tryz.func87 rfl Tryz.ntmps87 rfl fun a hf => zS fun K h => zB hf hc rfl fun b_1 a w hf hc => sp 1 hf rfl fun a hf => zT h ?_
 refine zS fun K h => sp 1 hf rfl fun a hf => zP hf rfl (pMF (us := [pq b_1]) rfl rfl) fun a hf => ?_
 obtain ⟨r,hr,hF⟩ := bnd_some hF
 refine zQ (v := .bool r) hf hc en_113 rfl (fun w hc => (slices_ContainsFunc_Lint_int_s6_ok l h_l (hc.pick k0) hr).mono fun e w h => ⟨h.1,(h.2.unpick k0)⟩) fun a w hf hc => sp 2 hf rfl fun a hf => zT h ?_
 refine wp_ret ?_
 obtain rfl := sj hF
 replace hc := hc.drop k0
 exact zO1 Tryz.results87 hf rfl ⟨rfl,hc⟩

def crew_Paid_b12 (N : Nat) (p_ : crew_Pay) (l : List Int) (out : Int) (x : Int) : Option (Step (Int × Int) (Int × Int)) :=
 cond (decide (x < ((l.length : Nat) : Int)))
 (Option.bind (getI l x) fun e_1 =>
 some (.cont (W (out + (W (p_.Rate * (W ((W (1000 * e_1)) + (W (p_.Extra * (max 0 (W (e_1 - p_.Normal)))))))))),W (x + 1))))
 (some (.brk (out,x)))
def crew_Paid (N : Nat) (p_ : crew_Pay) (l : List Int) : Option (Int × Int) :=
 cond (((!(crew_in p_.Rate 0 10000)) || (!(crew_in p_.Normal 0 1440))) || (!(crew_in p_.Extra 0 1000)))
 (some (0,120))
 (cond (decide (366 < ((l.length : Nat) : Int)))
 (some (0,3))
 (Option.bind (crew_every_int_s4 N l) fun r =>
 cond (!r)
 (some (0,4))
 (Option.bind (loopO (fun s12 => crew_Paid_b12 N p_ l s12.1 s12.2) N (0,0)) fun x12 =>
 exK x12 (fun s12 => some (W ((W (s12.1 + 59999)).tdiv 60000),0)) some)))
theorem crew_Paid_ok {N : Nat} {G : Pers} {Lf : List Ent} {w : World} (p_ : crew_Pay) (l : List Int) {l_p : Option Addr} {l_c : Nat} (h_l : Rd G 1 l_p l_c (l.map encI_i64)) (hc : Ctx G (Lf) w) {res : Int × Int} (hF : crew_Paid N p_ l = some res) : Calls Tryz.prog 26 #[.agg #[i6 p_.Rate,i6 p_.Normal,i6 p_.Extra],.slice l_p l.length l_c] w (fun e w => e = .returned (.tuple #[i6 res.1,i6 res.2]) ∧ Ctx G (Lf) w) := by
 unfold crew_Paid at hF
 refine fnIn Tryz.func26 rfl Tryz.ntmps26 rfl fun a hf => zS fun K h => zB hf hc rfl fun b_1 a w hf hc => sp 2 hf rfl fun a hf => zT h ?_
 refine wp_seq_k fun K2 h2 => wp_block ?_
 refine zS fun K h => zP hf rfl (pFA fa_24_0 rfl) fun a hf => zL hf hc sc_3 m0 rfl fun a w hf hc => zQ (v := .bool (crew_in p_.Rate 0 10000)) hf hc en_86 rfl (fun w hc => crew_in_ok p_.Rate 0 10000 hc rfl) fun a w hf hc => sp 2 hf rfl fun a hf => stCc 5 (fun a => Has 60 a [(1,.slice l_p l.length l_c),(2,pq b_1),(10,pq b_1),(11,i6 p_.Rate),(12,.bool (crew_in p_.Rate 0 10000)),(13,.bool (!(crew_in p_.Rate 0 10000))),(14,.bool (!(crew_in p_.Rate 0 10000))),(19,.bool ((!(crew_in p_.Rate 0 10000)) || (!(crew_in p_.Normal 0 1440))))]) hc ?_ ?_
 ·cases hb : (!(crew_in p_.Rate 0 10000))
  ·rw [hb] at hf
   refine zP hf rfl (pFA fa_24_1 rfl) fun a hf => zL hf hc sc_3 m0 rfl fun a w hf hc => zQ (v := .bool (crew_in p_.Normal 0 1440)) hf hc en_86 rfl (fun w hc => crew_in_ok p_.Normal 0 1440 hc rfl) fun a w hf hc => sp 2 hf rfl fun a hf => cNil ⟨hf.kp rfl,hc⟩
  ·rw [hb] at hf
   refine stS hf rfl rfl rfl fun a hf => stS hf rfl rfl rfl fun a hf => stS hf rfl rfl rfl fun a hf => stS hf rfl rfl rfl fun a hf => sp 1 hf rfl fun a hf => cNil ⟨hf.kp rfl,hc⟩
 intro a w ⟨hf,hc⟩
 refine sp 1 hf rfl fun a hf => stCc 5 (fun a => Has 60 a [(1,.slice l_p l.length l_c),(2,pq b_1),(10,pq b_1),(11,i6 p_.Rate),(12,.bool (crew_in p_.Rate 0 10000)),(13,.bool (!(crew_in p_.Rate 0 10000))),(14,.bool (!(crew_in p_.Rate 0 10000))),(19,.bool ((!(crew_in p_.Rate 0 10000)) || (!(crew_in p_.Normal 0 1440)))),(20,.bool ((!(crew_in p_.Rate 0 10000)) || (!(crew_in p_.Normal 0 1440)))),(25,.bool (((!(crew_in p_.Rate 0 10000)) || (!(crew_in p_.Normal 0 1440))) || (!(crew_in p_.Extra 0 1000))))]) hc ?_ ?_
 ·cases hb : ((!(crew_in p_.Rate 0 10000)) || (!(crew_in p_.Normal 0 1440)))
  ·rw [hb] at hf
   refine zP hf rfl (pFA fa_24_2 rfl) fun a hf => zL hf hc sc_3 m0 rfl fun a w hf hc => zQ (v := .bool (crew_in p_.Extra 0 1000)) hf hc en_86 rfl (fun w hc => crew_in_ok p_.Extra 0 1000 hc rfl) fun a w hf hc => sp 2 hf rfl fun a hf => cNil ⟨hf.kp rfl,hc⟩
  ·rw [hb] at hf
   refine stS hf rfl rfl rfl fun a hf => stS hf rfl rfl rfl fun a hf => stS hf rfl rfl rfl fun a hf => stS hf rfl rfl rfl fun a hf => sp 1 hf rfl fun a hf => cNil ⟨hf.kp rfl,hc⟩
 intro a w ⟨hf,hc⟩
 refine sp 1 hf rfl fun a hf => zT h ?_
 refine zI hf rfl hF ?_ ?_ <;> clear hF <;> intro hF
 ·refine zS fun K h => sp 2 hf rfl fun a hf => zT h ?_
  refine wp_ret ?_
  refine xBlkR ?_
  refine xThenR ?_
  obtain rfl := sj hF
  replace hc := hc.drop k0
  exact zO2 Tryz.results26 hf rfl rfl ⟨rfl,hc⟩
 ·refine zS fun K h => sp 1 hf rfl fun a hf => zP hf rfl (pLenS Tryz.underlying25 rfl) fun a hf => sp 2 hf rfl fun a hf => zT h ?_
  refine zI hf rfl hF ?_ ?_ <;> clear hF <;> intro hF
  ·refine zS fun K h => sp 2 hf rfl fun a hf => zT h ?_
   refine wp_ret ?_
   refine xBlkR ?_
   refine xThenR ?_
   obtain rfl := sj hF
   replace hc := hc.drop k0
   exact zO2 Tryz.results26 hf rfl rfl ⟨rfl,hc⟩
  ·refine zS fun K h => sp 1 hf rfl fun a hf => ?_
   obtain ⟨r,hr,hF⟩ := bnd_some hF
   refine zQ (v := .bool r) hf hc en_87 rfl (fun w hc => crew_every_int_s4_ok l h_l hc hr) fun a w hf hc => sp 2 hf rfl fun a hf => zT h ?_
   refine zI hf rfl hF ?_ ?_ <;> clear hF <;> intro hF
   ·refine zS fun K h => sp 2 hf rfl fun a hf => zT h ?_
    refine wp_ret ?_
    refine xBlkR ?_
    refine xThenR ?_
    obtain rfl := sj hF
    replace hc := hc.drop k0
    exact zO2 Tryz.results26 hf rfl rfl ⟨rfl,hc⟩
   ·refine wp_skip ?_
    refine h2 _ _ ?_
    refine zS fun K h => sp 1 hf rfl fun a hf => zT h ?_
    refine wp_seq_k fun K10 h10 => zS fun K h => sp 1 hf rfl fun a hf => zP hf rfl (pLenS Tryz.underlying25 rfl) fun a hf => sp 1 hf rfl fun a hf => zT h ?_
    refine wp_block ?_
    obtain ⟨x12,hx12,hF⟩ := bnd_some hF
    let S12 : (Int × Int) → Act → World → Prop := (fun (zz : Int × Int) a w => Has 60 a [(2,pq b_1),(6,i6 zz.1),(34,.slice l_p l.length l_c),(35,i6 ((l.length : Nat) : Int)),(36,i6 zz.2)] ∧ Ctx G (.box b_1 [i6 p_.Rate,i6 p_.Normal,i6 p_.Extra] 24::Lf) w)
    have hr12 : ∀ (zz : Int × Int) a w,x12 = .go zz → S12 zz a w → K10 a w := by
     rintro ⟨out,x⟩ a w rfl ⟨hf,hc⟩
     replace hF := exK_go hF
     refine h10 _ _ ?_
     refine zS fun K h => sp 2 hf rfl fun a hf => zP hf rfl (pQuo rfl rfl (by decide)) fun a hf => sp 2 hf rfl fun a hf => zT h ?_
     refine wp_ret ?_
     obtain rfl := sj hF
     replace hc := hc.drop k0
     exact zO2 Tryz.results26 hf rfl rfl ⟨rfl,hc⟩
    have ho12 : ∀ r,x12 = .out r → r = res := by
     rintro r rfl
     exact sj hF
    refine cLoop N (loopW (S := S12) (x := x12) ?_ N (0,0) _ _ ⟨hf.kp rfl,hc⟩ hx12)
    clear hF hf hc
    rintro ⟨out,x⟩ st12 a w KB12 ⟨hf,hc⟩ hF hfin12 hK12
    unfold crew_Paid_b12 at hF
    refine zS fun K h => sp 1 hf rfl fun a hf => zT h ?_
    refine wp_seq_k fun K15 h15 => zI hf rfl hF ?_ ?_ <;> clear hF <;> intro hF
    ·refine wp_skip ?_
     refine h15 _ _ ?_
     refine wp_seq_k fun K16 h16 => wp_block ?_
     refine zS fun K h => ?_
     obtain ⟨e_1,he_1,hF⟩ := bnd_some hF
     obtain ⟨b_2,o,qa,qp⟩ := h_l.atm he_1
     refine zP hf rfl (pIA Tryz.underlying25 sz_3 rfl rfl qa) fun a hf => zE hf hc rfl (eLd1 sc_3 rfl (cell_pc (j := 0) qp rfl)) fun a w hf hc => sp 1 hf rfl fun a hf => zT h ?_
     refine cReg ?_
     refine sp 1 hf rfl fun a hf => zP hf rfl (pFA fa_24_0 rfl) fun a hf => zL hf hc sc_3 m0 rfl fun a w hf hc => sp 2 hf rfl fun a hf => zP hf rfl (pFA fa_24_2 rfl) fun a hf => zL hf hc sc_3 m0 rfl fun a w hf hc => sp 1 hf rfl fun a hf => zP hf rfl (pFA fa_24_1 rfl) fun a hf => zL hf hc sc_3 m0 rfl fun a w hf hc => sp 1 hf rfl fun a hf => zP hf rfl (pMax2 rfl rfl) fun a hf => sp 5 hf rfl fun a hf => cNil ?_
     refine h16 _ _ ?_
     refine cReg ?_
     refine sp 2 hf rfl fun a hf => cNil ?_
     exact hK12 (W (out + (W (p_.Rate * (W ((W (1000 * e_1)) + (W (p_.Extra * (max 0 (W (e_1 - p_.Normal)))))))))),W (x + 1)) _ _ (sj hF).symm ⟨hf.kp rfl,hc⟩
    ·refine wp_exit ?_
     refine xThen ?_
     refine xThen ?_
     have he := sj hF
     rw [← he] at hfin12
     refine cHit ?_
     exact hr12 _ _ _ hfin12 ⟨hf.kp rfl,hc⟩

def law11_awake (N : Nat)  : Option (Bool) :=
 Option.bind (law11_Two N) fun r =>
 Option.bind (crew_Assign N r) fun r_1 =>
 Option.bind (law11_Two N) fun r_2 =>
 Option.bind (crew_Blocks N r_2 ([0,1] : List Int)) fun r_3 =>
 Option.bind (law11_Two N) fun r_4 =>
 Option.bind (crew_Holds N r_4 ([(⟨0,0⟩ : crew_Refusal)] : List crew_Refusal)) fun r_5 =>
 Option.bind (law11_Trip N 70) fun r_6 =>
 Option.bind (crew_Hours N 0 r_6) fun r_7 =>
 Option.bind (law11_Trip N 70) fun r_8 =>
 Option.bind (crew_Late N 0 r_8) fun r_9 =>
 Option.bind (cond (((((r_1.2 != 0) || (r_3.2 != 0)) || (r_5.2 != 0)) || (r_7.2 != 0)) || (r_9.2.2 != 0)) (some true) (Option.bind (kit_Same_int N r_1.1 ([1,0] : List Int)) fun r_10 =>
 some (!r_10))) fun t_1 =>
 Option.bind (cond ((t_1 || (!(r_3.1.Person == 1 && r_3.1.Station == 0))) || (!r_5.1)) (some true) (Option.bind (kit_Same_api_Span N r_7.1 ([(⟨35,40⟩ : api_Span),(⟨65,75⟩ : api_Span)] : List api_Span)) fun r_11 =>
 some (!r_11))) fun t_2 =>
 cond ((t_2 || (r_9.1 != 1)) || (r_9.2.1 != (-1)))
 (some false)
 (Option.bind (law11_Trip N 80) fun r_12 =>
 Option.bind (crew_Latest N r_12) fun r_13 =>
 Option.bind (law11_Wire N) fun r_14 =>
 Option.bind (crew_Load N r_14 5) fun r_15 =>
 Option.bind (law11_Wire N) fun r_16 =>
 Option.bind (crew_Beyond N r_16) fun r_17 =>
 Option.bind (law11_Wire N) fun r_18 =>
 Option.bind (law11_span N 90 90) fun r_19 =>
 Option.bind (room ((r_18.Rides ++ [(⟨5,5,r_19⟩ : crew_Ride)])).length) fun un =>
 Option.bind (crew_Queue N (⟨r_18.Car,r_18.Wide,r_18.Sag,r_18.Most,(r_18.Rides ++ [(⟨5,5,r_19⟩ : crew_Ride)])⟩ : crew_Cable)) fun r_20 =>
 Option.bind (crew_Paid N (⟨600,480,500⟩ : crew_Pay) ([481] : List Int)) fun r_21 =>
 Option.bind (cond ((((((r_13.2 == 0) && (r_15.2 == 0)) && (r_17.2.2 == 0)) && (r_20.2 == 0)) && (r_21.2 == 0)) && (r_13.1 == 5)) (law11_span N 290 320) (some (⟨0,0⟩ : api_Span))) fun r_22 =>
 Option.bind (cond (((((((((r_13.2 == 0) && (r_15.2 == 0)) && (r_17.2.2 == 0)) && (r_20.2 == 0)) && (r_21.2 == 0)) && (r_13.1 == 5)) && (r_15.1.Lo == r_22.Lo && r_15.1.Hi == r_22.Hi)) && (r_17.1 == 5)) && (r_17.2.1 == (-1))) (kit_Same_int N r_20.1 ([0,10,15] : List Int)) (some false)) fun r_23 =>
 some (((((((((((r_13.2 == 0) && (r_15.2 == 0)) && (r_17.2.2 == 0)) && (r_20.2 == 0)) && (r_21.2 == 0)) && (r_13.1 == 5)) && (r_15.1.Lo == r_22.Lo && r_15.1.Hi == r_22.Hi)) && (r_17.1 == 5)) && (r_17.2.1 == (-1))) && r_23) && (r_21.1 == 4815)))
theorem law11_awake_ok {N : Nat} {G : Pers} {Lf : List Ent} {w : World}    (hc : Ctx G (Lf) w) {res : Bool} (hF : law11_awake N = some res) : Calls Tryz.prog 15 #[] w (fun e w => e = .returned (.bool res) ∧ Ctx G (Lf) w) := by
 unfold law11_awake at hF
 refine fnIn Tryz.func15 rfl Tryz.ntmps15 rfl fun a hf => zS fun K h => sp 1 hf rfl fun a hf => zT h ?_
 refine zS fun K h => ?_
 obtain ⟨r,hr,hF⟩ := bnd_some hF
 refine zC hf en_67 rfl (law11_Two_ok hc hr) ?_
 rintro _ w ⟨p_1,tcq,p_2,tcq_1,rfl,hc⟩
 refine ⟨_,rfl,fun a hf => ?_⟩
 obtain ⟨r_1,hr_1,hF⟩ := bnd_some hF
 obtain ⟨G1,hle1,hrd1,hc,hth1⟩ := lendT kdo_25 hc k0 k0
 obtain ⟨G2,hle2,hrd2,hc,hth2⟩ := lendT kdo_101 hc k0 k0
 refine zC hf en_43 rfl (crew_Assign_ok r (hrd1.mono hle2) hrd2 hc hr_1) ?_
 rintro _ w ⟨p_3,c_1,rfl,hc⟩
 refine ⟨_,rfl,fun a hf => ?_⟩
 replace hc := hth2 _ _ hc
 replace hc := hth1 _ _ hc
 refine sp 5 hf rfl fun a hf => zT h ?_
 refine wp_seq_k fun K3 h3 => cReg ?_
 obtain ⟨r_2,hr_2,hF⟩ := bnd_some hF
 refine zC hf en_67 rfl (law11_Two_ok hc hr_2) ?_
 rintro _ w ⟨p_4,tcq_2,p_5,tcq_3,rfl,hc⟩
 refine ⟨_,rfl,fun a hf => ?_⟩
 refine stBS (rows := ([0,1] : List Int).map encI_i64) (vs := [(0,i6 0),(1,i6 1)]) hf hc rfl rfl sl_25 rfl ⟨rfl,rfl,rfl,rfl,rfl,rfl,trivial⟩ rfl rfl fun b_1 a w hf hc => ?_
 obtain ⟨r_3,hr_3,hF⟩ := bnd_some hF
 refine zQ (v := .tuple #[.agg #[i6 r_3.1.Person,i6 r_3.1.Station],i6 r_3.2]) hf hc en_46 rfl (fun w hc => by obtain ⟨G1,hle1,hrd1,hc,hth1⟩ := lendT kdo_25 hc k1 k1; obtain ⟨G2,hle2,hrd2,hc,hth2⟩ := lendT kdo_101 hc k1 k1; obtain ⟨G3,hle3,hrd3,hc,hth3⟩ := lend hc k0; exact (crew_Blocks_ok r_2 ([0,1] : List Int) ((hrd1.mono hle2).mono hle3) (hrd2.mono hle3) hrd3 hc hr_3).mono fun e w h => ⟨h.1,(unpickT (hth1 _ _ (unpickT (hth2 _ _ ((hth3 _ _ h.2).unpick k0)) k1 k1)) k1 k1)⟩) fun a w hf hc => sp 3 hf rfl fun a hf => zA hf hc zr_86 rfl fun b_2 a w hf hc => zW hf hc sz_86 u0 rfl fun w hc => sp 1 hf rfl fun a hf => cNil ?_
 replace hc := ((((((((hc.drop k9).drop k8).drop k7).drop k6).drop k5).drop k4).drop k3).drop k2).drop k1
 refine h3 _ _ ?_
 refine zS fun K h => ?_
 obtain ⟨r_4,hr_4,hF⟩ := bnd_some hF
 refine zC hf en_67 rfl (law11_Two_ok hc hr_4) ?_
 rintro _ w ⟨p_6,tcq_4,p_7,tcq_5,rfl,hc⟩
 refine ⟨_,rfl,fun a hf => ?_⟩
 refine zP hf rfl (pBuildS (cells := [i6 0,i6 0]) bt_86 rfl rfl) fun a hf => stBS (rows := ([(⟨0,0⟩ : crew_Refusal)] : List crew_Refusal).map enc_crew_Refusal) (vs := [(0,.agg #[i6 0,i6 0])]) hf hc rfl rfl sl_99 rfl ⟨rfl,rfl,rfl,trivial⟩ rfl rfl fun b_3 a w hf hc => ?_
 obtain ⟨r_5,hr_5,hF⟩ := bnd_some hF
 refine zQ (v := .tuple #[.bool r_5.1,i6 r_5.2]) hf hc en_59 rfl (fun w hc => by obtain ⟨G1,hle1,hrd1,hc,hth1⟩ := lendT kdo_25 hc k1 k1; obtain ⟨G2,hle2,hrd2,hc,hth2⟩ := lendT kdo_101 hc k1 k1; obtain ⟨G3,hle3,hrd3,hc,hth3⟩ := lend hc k0; exact (crew_Holds_ok r_4 ([(⟨0,0⟩ : crew_Refusal)] : List crew_Refusal) ((hrd1.mono hle2).mono hle3) (hrd2.mono hle3) hrd3 hc hr_5).mono fun e w h => ⟨h.1,(unpickT (hth1 _ _ (unpickT (hth2 _ _ ((hth3 _ _ h.2).unpick k0)) k1 k1)) k1 k1)⟩) fun a w hf hc => sp 5 hf rfl fun a hf => zT h ?_
 refine wp_seq_k fun K5 h5 => cReg ?_
 obtain ⟨r_6,hr_6,hF⟩ := bnd_some hF
 refine zC hf en_68 rfl (law11_Trip_ok 70 hc hr_6) ?_
 rintro _ w ⟨p_8,c_2,rfl,hc⟩
 refine ⟨_,rfl,fun a hf => ?_⟩
 obtain ⟨r_7,hr_7,hF⟩ := bnd_some hF
 obtain ⟨G1,hle1,hrd1,hc,hth1⟩ := lend hc k0
 refine zC hf en_18 rfl (crew_Hours_ok 0 r_6 hrd1 hc hr_7) ?_
 rintro _ w ⟨p_9,c_3,rfl,hc⟩
 refine ⟨_,rfl,fun a hf => ?_⟩
 replace hc := hth1 _ _ hc
 refine sp 5 hf rfl fun a hf => cNil ?_
 replace hc := (((((hc.drop k6).drop k5).drop k4).drop k3).drop k2).drop k0
 refine h5 _ _ ?_
 refine zS fun K h => ?_
 obtain ⟨r_8,hr_8,hF⟩ := bnd_some hF
 refine zC hf en_68 rfl (law11_Trip_ok 70 hc hr_8) ?_
 rintro _ w ⟨p_10,c_4,rfl,hc⟩
 refine ⟨_,rfl,fun a hf => ?_⟩
 obtain ⟨r_9,hr_9,hF⟩ := bnd_some hF
 refine zQ (v := .tuple #[i6 r_9.1,i6 r_9.2.1,i6 r_9.2.2]) hf hc en_22 rfl (fun w hc => by obtain ⟨G1,hle1,hrd1,hc,hth1⟩ := lend hc k0; exact (crew_Late_ok 0 r_8 hrd1 hc hr_9).mono fun e w h => ⟨h.1,((hth1 _ _ h.2).unpick k0)⟩) fun a w hf hc => sp 7 hf rfl fun a hf => zT h ?_
 refine wp_seq_k fun K7 h7 => zS fun K h => sp 3 hf rfl fun a hf => stCc 3 (fun a => Has 174 a [(1,.slice p_3 r_1.1.length c_1),(2,i6 r_1.2),(3,pq b_2),(4,i6 r_3.2),(5,.bool r_5.1),(6,i6 r_5.2),(7,.slice p_9 r_7.1.length c_3),(8,i6 r_7.2),(9,i6 r_9.1),(10,i6 r_9.2.1),(11,i6 r_9.2.2),(46,i6 r_1.2),(47,.bool (r_1.2 != 0)),(48,.bool (r_1.2 != 0)),(51,.bool ((r_1.2 != 0) || (r_3.2 != 0)))]) hc ?_ ?_
 ·cases hb : (r_1.2 != 0)
  ·rw [hb] at hf
   refine sp 3 hf rfl fun a hf => cNil ⟨hf.kp rfl,hc⟩
  ·rw [hb] at hf
   refine stS hf rfl rfl rfl fun a hf => stS hf rfl rfl rfl fun a hf => sp 1 hf rfl fun a hf => cNil ⟨hf.kp rfl,hc⟩
 intro a w ⟨hf,hc⟩
 refine sp 1 hf rfl fun a hf => stCc 3 (fun a => Has 174 a [(1,.slice p_3 r_1.1.length c_1),(2,i6 r_1.2),(3,pq b_2),(4,i6 r_3.2),(5,.bool r_5.1),(6,i6 r_5.2),(7,.slice p_9 r_7.1.length c_3),(8,i6 r_7.2),(9,i6 r_9.1),(10,i6 r_9.2.1),(11,i6 r_9.2.2),(46,i6 r_1.2),(47,.bool (r_1.2 != 0)),(48,.bool (r_1.2 != 0)),(51,.bool ((r_1.2 != 0) || (r_3.2 != 0))),(52,.bool ((r_1.2 != 0) || (r_3.2 != 0))),(55,.bool (((r_1.2 != 0) || (r_3.2 != 0)) || (r_5.2 != 0)))]) hc ?_ ?_
 ·cases hb : ((r_1.2 != 0) || (r_3.2 != 0))
  ·rw [hb] at hf
   refine sp 3 hf rfl fun a hf => cNil ⟨hf.kp rfl,hc⟩
  ·rw [hb] at hf
   refine stS hf rfl rfl rfl fun a hf => stS hf rfl rfl rfl fun a hf => sp 1 hf rfl fun a hf => cNil ⟨hf.kp rfl,hc⟩
 intro a w ⟨hf,hc⟩
 refine sp 1 hf rfl fun a hf => stCc 3 (fun a => Has 174 a [(1,.slice p_3 r_1.1.length c_1),(2,i6 r_1.2),(3,pq b_2),(4,i6 r_3.2),(5,.bool r_5.1),(6,i6 r_5.2),(7,.slice p_9 r_7.1.length c_3),(8,i6 r_7.2),(9,i6 r_9.1),(10,i6 r_9.2.1),(11,i6 r_9.2.2),(46,i6 r_1.2),(47,.bool (r_1.2 != 0)),(48,.bool (r_1.2 != 0)),(51,.bool ((r_1.2 != 0) || (r_3.2 != 0))),(52,.bool ((r_1.2 != 0) || (r_3.2 != 0))),(55,.bool (((r_1.2 != 0) || (r_3.2 != 0)) || (r_5.2 != 0))),(56,.bool (((r_1.2 != 0) || (r_3.2 != 0)) || (r_5.2 != 0))),(59,.bool ((((r_1.2 != 0) || (r_3.2 != 0)) || (r_5.2 != 0)) || (r_7.2 != 0)))]) hc ?_ ?_
 ·cases hb : (((r_1.2 != 0) || (r_3.2 != 0)) || (r_5.2 != 0))
  ·rw [hb] at hf
   refine sp 3 hf rfl fun a hf => cNil ⟨hf.kp rfl,hc⟩
  ·rw [hb] at hf
   refine stS hf rfl rfl rfl fun a hf => stS hf rfl rfl rfl fun a hf => sp 1 hf rfl fun a hf => cNil ⟨hf.kp rfl,hc⟩
 intro a w ⟨hf,hc⟩
 refine sp 1 hf rfl fun a hf => stCc 3 (fun a => Has 174 a [(1,.slice p_3 r_1.1.length c_1),(2,i6 r_1.2),(3,pq b_2),(4,i6 r_3.2),(5,.bool r_5.1),(6,i6 r_5.2),(7,.slice p_9 r_7.1.length c_3),(8,i6 r_7.2),(9,i6 r_9.1),(10,i6 r_9.2.1),(11,i6 r_9.2.2),(46,i6 r_1.2),(47,.bool (r_1.2 != 0)),(48,.bool (r_1.2 != 0)),(51,.bool ((r_1.2 != 0) || (r_3.2 != 0))),(52,.bool ((r_1.2 != 0) || (r_3.2 != 0))),(55,.bool (((r_1.2 != 0) || (r_3.2 != 0)) || (r_5.2 != 0))),(56,.bool (((r_1.2 != 0) || (r_3.2 != 0)) || (r_5.2 != 0))),(59,.bool ((((r_1.2 != 0) || (r_3.2 != 0)) || (r_5.2 != 0)) || (r_7.2 != 0))),(60,.bool ((((r_1.2 != 0) || (r_3.2 != 0)) || (r_5.2 != 0)) || (r_7.2 != 0))),(63,.bool (((((r_1.2 != 0) || (r_3.2 != 0)) || (r_5.2 != 0)) || (r_7.2 != 0)) || (r_9.2.2 != 0)))]) hc ?_ ?_
 ·cases hb : ((((r_1.2 != 0) || (r_3.2 != 0)) || (r_5.2 != 0)) || (r_7.2 != 0))
  ·rw [hb] at hf
   refine sp 3 hf rfl fun a hf => cNil ⟨hf.kp rfl,hc⟩
  ·rw [hb] at hf
   refine stS hf rfl rfl rfl fun a hf => stS hf rfl rfl rfl fun a hf => sp 1 hf rfl fun a hf => cNil ⟨hf.kp rfl,hc⟩
 intro a w ⟨hf,hc⟩
 refine sp 1 hf rfl fun a hf => ?_
 obtain ⟨t_1,ht_1,hF⟩ := bnd_some hF
 refine stCc 5 (fun a => Has 174 a [(1,.slice p_3 r_1.1.length c_1),(2,i6 r_1.2),(3,pq b_2),(4,i6 r_3.2),(5,.bool r_5.1),(6,i6 r_5.2),(7,.slice p_9 r_7.1.length c_3),(8,i6 r_7.2),(9,i6 r_9.1),(10,i6 r_9.2.1),(11,i6 r_9.2.2),(46,i6 r_1.2),(47,.bool (r_1.2 != 0)),(48,.bool (r_1.2 != 0)),(51,.bool ((r_1.2 != 0) || (r_3.2 != 0))),(52,.bool ((r_1.2 != 0) || (r_3.2 != 0))),(55,.bool (((r_1.2 != 0) || (r_3.2 != 0)) || (r_5.2 != 0))),(56,.bool (((r_1.2 != 0) || (r_3.2 != 0)) || (r_5.2 != 0))),(59,.bool ((((r_1.2 != 0) || (r_3.2 != 0)) || (r_5.2 != 0)) || (r_7.2 != 0))),(60,.bool ((((r_1.2 != 0) || (r_3.2 != 0)) || (r_5.2 != 0)) || (r_7.2 != 0))),(63,.bool (((((r_1.2 != 0) || (r_3.2 != 0)) || (r_5.2 != 0)) || (r_7.2 != 0)) || (r_9.2.2 != 0))),(64,.bool (((((r_1.2 != 0) || (r_3.2 != 0)) || (r_5.2 != 0)) || (r_7.2 != 0)) || (r_9.2.2 != 0))),(69,.bool t_1)]) hc ?_ ?_
 ·cases hb : (((((r_1.2 != 0) || (r_3.2 != 0)) || (r_5.2 != 0)) || (r_7.2 != 0)) || (r_9.2.2 != 0))
  ·rw [hb] at hf
   have hF := condF hb ht_1
   refine sp 1 hf rfl fun a hf => stBS (rows := ([1,0] : List Int).map encI_i64) (vs := [(0,i6 1),(1,i6 0)]) hf hc rfl rfl sl_25 rfl ⟨rfl,rfl,rfl,rfl,rfl,rfl,trivial⟩ rfl rfl fun b_4 a w hf hc => ?_
   obtain ⟨r_10,hr_10,hF⟩ := bnd_some hF
   refine zQ (v := .bool r_10) hf hc en_29 rfl (fun w hc => by obtain ⟨G1,hle1,hrd1,hc,hth1⟩ := lend hc k4; obtain ⟨G2,hle2,hrd2,hc,hth2⟩ := lend hc k0; exact (kit_Same_int_ok r_1.1 ([1,0] : List Int) (hrd1.mono hle2) hrd2 hc hr_10).mono fun e w h => ⟨h.1,((hth1 _ _ ((hth2 _ _ h.2).unpick k0)).unpick k4)⟩) fun a w hf hc => sp 2 hf rfl fun a hf => ?_
   replace hc := hc.drop k0
   obtain rfl := sj hF
   exact cNil ⟨hf.kp rfl,hc⟩
  ·rw [hb] at hf
   have hF := condT hb ht_1
   obtain rfl := sj hF
   refine stS hf rfl rfl rfl fun a hf => stS hf rfl rfl rfl fun a hf => stS hf rfl rfl rfl fun a hf => stS hf rfl rfl rfl fun a hf => sp 1 hf rfl fun a hf => cNil ⟨hf.kp rfl,hc⟩
 intro a w ⟨hf,hc⟩
 refine sp 1 hf rfl fun a hf => stCc 4 (fun a => Has 174 a [(1,.slice p_3 r_1.1.length c_1),(2,i6 r_1.2),(3,pq b_2),(4,i6 r_3.2),(5,.bool r_5.1),(6,i6 r_5.2),(7,.slice p_9 r_7.1.length c_3),(8,i6 r_7.2),(9,i6 r_9.1),(10,i6 r_9.2.1),(11,i6 r_9.2.2),(46,i6 r_1.2),(47,.bool (r_1.2 != 0)),(48,.bool (r_1.2 != 0)),(51,.bool ((r_1.2 != 0) || (r_3.2 != 0))),(52,.bool ((r_1.2 != 0) || (r_3.2 != 0))),(55,.bool (((r_1.2 != 0) || (r_3.2 != 0)) || (r_5.2 != 0))),(56,.bool (((r_1.2 != 0) || (r_3.2 != 0)) || (r_5.2 != 0))),(59,.bool ((((r_1.2 != 0) || (r_3.2 != 0)) || (r_5.2 != 0)) || (r_7.2 != 0))),(60,.bool ((((r_1.2 != 0) || (r_3.2 != 0)) || (r_5.2 != 0)) || (r_7.2 != 0))),(63,.bool (((((r_1.2 != 0) || (r_3.2 != 0)) || (r_5.2 != 0)) || (r_7.2 != 0)) || (r_9.2.2 != 0))),(64,.bool (((((r_1.2 != 0) || (r_3.2 != 0)) || (r_5.2 != 0)) || (r_7.2 != 0)) || (r_9.2.2 != 0))),(69,.bool t_1),(70,.bool t_1),(74,.bool (t_1 || (!(r_3.1.Person == 1 && r_3.1.Station == 0))))]) hc ?_ ?_
 ·cases hb : t_1
  ·rw [hb] at hf
   try rw [hb] at hc
   refine zN hf hc ag_86 m2 rfl fun a w hf hc => zP hf rfl (pBuildS (cells := [i6 1,i6 0]) bt_86 rfl rfl) fun a hf => zP hf rfl (pNeA ge_86 rfl rfl (eqs_86 _ _ _ _)) fun a hf => sp 1 hf rfl fun a hf => cNil ⟨hf.kp rfl,hc⟩
  ·rw [hb] at hf
   try rw [hb] at hc
   refine stS hf rfl rfl rfl fun a hf => stS hf rfl rfl rfl fun a hf => stS hf rfl rfl rfl fun a hf => sp 1 hf rfl fun a hf => cNil ⟨hf.kp rfl,hc⟩
 intro a w ⟨hf,hc⟩
 refine sp 1 hf rfl fun a hf => stCc 3 (fun a => Has 174 a [(1,.slice p_3 r_1.1.length c_1),(2,i6 r_1.2),(3,pq b_2),(4,i6 r_3.2),(5,.bool r_5.1),(6,i6 r_5.2),(7,.slice p_9 r_7.1.length c_3),(8,i6 r_7.2),(9,i6 r_9.1),(10,i6 r_9.2.1),(11,i6 r_9.2.2),(46,i6 r_1.2),(47,.bool (r_1.2 != 0)),(48,.bool (r_1.2 != 0)),(51,.bool ((r_1.2 != 0) || (r_3.2 != 0))),(52,.bool ((r_1.2 != 0) || (r_3.2 != 0))),(55,.bool (((r_1.2 != 0) || (r_3.2 != 0)) || (r_5.2 != 0))),(56,.bool (((r_1.2 != 0) || (r_3.2 != 0)) || (r_5.2 != 0))),(59,.bool ((((r_1.2 != 0) || (r_3.2 != 0)) || (r_5.2 != 0)) || (r_7.2 != 0))),(60,.bool ((((r_1.2 != 0) || (r_3.2 != 0)) || (r_5.2 != 0)) || (r_7.2 != 0))),(63,.bool (((((r_1.2 != 0) || (r_3.2 != 0)) || (r_5.2 != 0)) || (r_7.2 != 0)) || (r_9.2.2 != 0))),(64,.bool (((((r_1.2 != 0) || (r_3.2 != 0)) || (r_5.2 != 0)) || (r_7.2 != 0)) || (r_9.2.2 != 0))),(69,.bool t_1),(70,.bool t_1),(74,.bool (t_1 || (!(r_3.1.Person == 1 && r_3.1.Station == 0)))),(75,.bool (t_1 || (!(r_3.1.Person == 1 && r_3.1.Station == 0)))),(78,.bool ((t_1 || (!(r_3.1.Person == 1 && r_3.1.Station == 0))) || (!r_5.1)))]) hc ?_ ?_
 ·cases hb : (t_1 || (!(r_3.1.Person == 1 && r_3.1.Station == 0)))
  ·rw [hb] at hf
   refine sp 3 hf rfl fun a hf => cNil ⟨hf.kp rfl,hc⟩
  ·rw [hb] at hf
   refine stS hf rfl rfl rfl fun a hf => stS hf rfl rfl rfl fun a hf => sp 1 hf rfl fun a hf => cNil ⟨hf.kp rfl,hc⟩
 intro a w ⟨hf,hc⟩
 refine sp 1 hf rfl fun a hf => ?_
 obtain ⟨t_2,ht_2,hF⟩ := bnd_some hF
 refine stCc 7 (fun a => Has 174 a [(1,.slice p_3 r_1.1.length c_1),(2,i6 r_1.2),(3,pq b_2),(4,i6 r_3.2),(5,.bool r_5.1),(6,i6 r_5.2),(7,.slice p_9 r_7.1.length c_3),(8,i6 r_7.2),(9,i6 r_9.1),(10,i6 r_9.2.1),(11,i6 r_9.2.2),(46,i6 r_1.2),(47,.bool (r_1.2 != 0)),(48,.bool (r_1.2 != 0)),(51,.bool ((r_1.2 != 0) || (r_3.2 != 0))),(52,.bool ((r_1.2 != 0) || (r_3.2 != 0))),(55,.bool (((r_1.2 != 0) || (r_3.2 != 0)) || (r_5.2 != 0))),(56,.bool (((r_1.2 != 0) || (r_3.2 != 0)) || (r_5.2 != 0))),(59,.bool ((((r_1.2 != 0) || (r_3.2 != 0)) || (r_5.2 != 0)) || (r_7.2 != 0))),(60,.bool ((((r_1.2 != 0) || (r_3.2 != 0)) || (r_5.2 != 0)) || (r_7.2 != 0))),(63,.bool (((((r_1.2 != 0) || (r_3.2 != 0)) || (r_5.2 != 0)) || (r_7.2 != 0)) || (r_9.2.2 != 0))),(64,.bool (((((r_1.2 != 0) || (r_3.2 != 0)) || (r_5.2 != 0)) || (r_7.2 != 0)) || (r_9.2.2 != 0))),(69,.bool t_1),(70,.bool t_1),(74,.bool (t_1 || (!(r_3.1.Person == 1 && r_3.1.Station == 0)))),(75,.bool (t_1 || (!(r_3.1.Person == 1 && r_3.1.Station == 0)))),(78,.bool ((t_1 || (!(r_3.1.Person == 1 && r_3.1.Station == 0))) || (!r_5.1))),(79,.bool ((t_1 || (!(r_3.1.Person == 1 && r_3.1.Station == 0))) || (!r_5.1))),(86,.bool t_2)]) hc ?_ ?_
 ·cases hb : ((t_1 || (!(r_3.1.Person == 1 && r_3.1.Station == 0))) || (!r_5.1))
  ·rw [hb] at hf
   have hF := condF hb ht_2
   refine sp 1 hf rfl fun a hf => zP hf rfl (pBuildS (cells := [i6 35,i6 40]) bt_29 rfl rfl) fun a hf => zP hf rfl (pBuildS (cells := [i6 65,i6 75]) bt_29 rfl rfl) fun a hf => stBS (rows := ([(⟨35,40⟩ : api_Span),(⟨65,75⟩ : api_Span)] : List api_Span).map enc_api_Span) (vs := [(0,.agg #[i6 35,i6 40]),(1,.agg #[i6 65,i6 75])]) hf hc rfl rfl sl_33 rfl ⟨rfl,rfl,rfl,rfl,rfl,rfl,trivial⟩ rfl rfl fun b_5 a w hf hc => ?_
   obtain ⟨r_11,hr_11,hF⟩ := bnd_some hF
   refine zQ (v := .bool r_11) hf hc en_21 rfl (fun w hc => by obtain ⟨G1,hle1,hrd1,hc,hth1⟩ := lend hc k2; obtain ⟨G2,hle2,hrd2,hc,hth2⟩ := lend hc k0; exact (kit_Same_api_Span_ok r_7.1 ([(⟨35,40⟩ : api_Span),(⟨65,75⟩ : api_Span)] : List api_Span) (hrd1.mono hle2) hrd2 hc hr_11).mono fun e w h => ⟨h.1,((hth1 _ _ ((hth2 _ _ h.2).unpick k0)).unpick k2)⟩) fun a w hf hc => sp 2 hf rfl fun a hf => ?_
   replace hc := hc.drop k0
   obtain rfl := sj hF
   exact cNil ⟨hf.kp rfl,hc⟩
  ·rw [hb] at hf
   have hF := condT hb ht_2
   obtain rfl := sj hF
   refine stS hf rfl rfl rfl fun a hf => stS hf rfl rfl rfl fun a hf => stS hf rfl rfl rfl fun a hf => stS hf rfl rfl rfl fun a hf => stS hf rfl rfl rfl fun a hf => stS hf rfl rfl rfl fun a hf => sp 1 hf rfl fun a hf => cNil ⟨hf.kp rfl,hc⟩
 intro a w ⟨hf,hc⟩
 refine sp 1 hf rfl fun a hf => stCc 3 (fun a => Has 174 a ((1,.slice p_3 r_1.1.length c_1)::(2,i6 r_1.2)::(3,pq b_2)::(4,i6 r_3.2)::(5,.bool r_5.1)::(6,i6 r_5.2)::(7,.slice p_9 r_7.1.length c_3)::(8,i6 r_7.2)::(9,i6 r_9.1)::(10,i6 r_9.2.1)::(11,i6 r_9.2.2)::(46,i6 r_1.2)::(47,.bool (r_1.2 != 0))::(48,.bool (r_1.2 != 0))::(51,.bool ((r_1.2 != 0) || (r_3.2 != 0)))::(52,.bool ((r_1.2 != 0) || (r_3.2 != 0)))::(55,.bool (((r_1.2 != 0) || (r_3.2 != 0)) || (r_5.2 != 0)))::(56,.bool (((r_1.2 != 0) || (r_3.2 != 0)) || (r_5.2 != 0)))::(59,.bool ((((r_1.2 != 0) || (r_3.2 != 0)) || (r_5.2 != 0)) || (r_7.2 != 0)))::(60,.bool ((((r_1.2 != 0) || (r_3.2 != 0)) || (r_5.2 != 0)) || (r_7.2 != 0)))::(63,.bool (((((r_1.2 != 0) || (r_3.2 != 0)) || (r_5.2 != 0)) || (r_7.2 != 0)) || (r_9.2.2 != 0)))::(64,.bool (((((r_1.2 != 0) || (r_3.2 != 0)) || (r_5.2 != 0)) || (r_7.2 != 0)) || (r_9.2.2 != 0)))::(69,.bool t_1)::(70,.bool t_1)::(74,.bool (t_1 || (!(r_3.1.Person == 1 && r_3.1.Station == 0))))::(75,.bool (t_1 || (!(r_3.1.Person == 1 && r_3.1.Station == 0))))::(78,.bool ((t_1 || (!(r_3.1.Person == 1 && r_3.1.Station == 0))) || (!r_5.1)))::(79,.bool ((t_1 || (!(r_3.1.Person == 1 && r_3.1.Station == 0))) || (!r_5.1)))::(86,.bool t_2)::(87,.bool t_2)::(90,.bool (t_2 || (r_9.1 != 1)))::[])) hc ?_ ?_
 ·cases hb : t_2
  ·rw [hb] at hf
   try rw [hb] at hc
   refine sp 3 hf rfl fun a hf => cNil ⟨hf.kp rfl,hc⟩
  ·rw [hb] at hf
   try rw [hb] at hc
   refine stS hf rfl rfl rfl fun a hf => stS hf rfl rfl rfl fun a hf => sp 1 hf rfl fun a hf => cNil ⟨hf.kp rfl,hc⟩
 intro a w ⟨hf,hc⟩
 refine sp 1 hf rfl fun a hf => stCc 3 (fun a => Has 174 a ((1,.slice p_3 r_1.1.length c_1)::(2,i6 r_1.2)::(3,pq b_2)::(4,i6 r_3.2)::(5,.bool r_5.1)::(6,i6 r_5.2)::(7,.slice p_9 r_7.1.length c_3)::(8,i6 r_7.2)::(9,i6 r_9.1)::(10,i6 r_9.2.1)::(11,i6 r_9.2.2)::(46,i6 r_1.2)::(47,.bool (r_1.2 != 0))::(48,.bool (r_1.2 != 0))::(51,.bool ((r_1.2 != 0) || (r_3.2 != 0)))::(52,.bool ((r_1.2 != 0) || (r_3.2 != 0)))::(55,.bool (((r_1.2 != 0) || (r_3.2 != 0)) || (r_5.2 != 0)))::(56,.bool (((r_1.2 != 0) || (r_3.2 != 0)) || (r_5.2 != 0)))::(59,.bool ((((r_1.2 != 0) || (r_3.2 != 0)) || (r_5.2 != 0)) || (r_7.2 != 0)))::(60,.bool ((((r_1.2 != 0) || (r_3.2 != 0)) || (r_5.2 != 0)) || (r_7.2 != 0)))::(63,.bool (((((r_1.2 != 0) || (r_3.2 != 0)) || (r_5.2 != 0)) || (r_7.2 != 0)) || (r_9.2.2 != 0)))::(64,.bool (((((r_1.2 != 0) || (r_3.2 != 0)) || (r_5.2 != 0)) || (r_7.2 != 0)) || (r_9.2.2 != 0)))::(69,.bool t_1)::(70,.bool t_1)::(74,.bool (t_1 || (!(r_3.1.Person == 1 && r_3.1.Station == 0))))::(75,.bool (t_1 || (!(r_3.1.Person == 1 && r_3.1.Station == 0))))::(78,.bool ((t_1 || (!(r_3.1.Person == 1 && r_3.1.Station == 0))) || (!r_5.1)))::(79,.bool ((t_1 || (!(r_3.1.Person == 1 && r_3.1.Station == 0))) || (!r_5.1)))::(86,.bool t_2)::(87,.bool t_2)::(90,.bool (t_2 || (r_9.1 != 1)))::(91,.bool (t_2 || (r_9.1 != 1)))::(94,.bool ((t_2 || (r_9.1 != 1)) || (r_9.2.1 != (-1))))::[])) hc ?_ ?_
 ·cases hb : (t_2 || (r_9.1 != 1))
  ·rw [hb] at hf
   refine sp 3 hf rfl fun a hf => cNil ⟨hf.kp rfl,hc⟩
  ·rw [hb] at hf
   refine stS hf rfl rfl rfl fun a hf => stS hf rfl rfl rfl fun a hf => sp 1 hf rfl fun a hf => cNil ⟨hf.kp rfl,hc⟩
 intro a w ⟨hf,hc⟩
 refine zT h ?_
 refine zI hf rfl hF ?_ ?_ <;> clear hF <;> intro hF
 ·refine zS fun K h => sp 1 hf rfl fun a hf => zT h ?_
  refine wp_ret ?_
  refine xThenR ?_
  obtain rfl := sj hF
  replace hc := (((hc.drop k3).drop k2).drop k1).drop k0
  exact zO1 Tryz.results15 hf rfl ⟨rfl,hc⟩
 ·refine wp_skip ?_
  refine h7 _ _ ?_
  refine zS fun K h => ?_
  obtain ⟨r_12,hr_12,hF⟩ := bnd_some hF
  refine zC hf en_68 rfl (law11_Trip_ok 80 hc hr_12) ?_
  rintro _ w ⟨p_11,c_5,rfl,hc⟩
  refine ⟨_,rfl,fun a hf => ?_⟩
  obtain ⟨r_13,hr_13,hF⟩ := bnd_some hF
  refine zQ (v := .tuple #[i6 r_13.1,i6 r_13.2]) hf hc en_24 rfl (fun w hc => by obtain ⟨G1,hle1,hrd1,hc,hth1⟩ := lend hc k0; exact (crew_Latest_ok r_12 hrd1 hc hr_13).mono fun e w h => ⟨h.1,((hth1 _ _ h.2).unpick k0)⟩) fun a w hf hc => sp 5 hf rfl fun a hf => zT h ?_
  refine zS fun K h => ?_
  obtain ⟨r_14,hr_14,hF⟩ := bnd_some hF
  refine zC hf en_69 rfl (law11_Wire_ok hc hr_14) ?_
  rintro _ w ⟨p_12,c_6,rfl,hc⟩
  refine ⟨_,rfl,fun a hf => ?_⟩
  obtain ⟨r_15,hr_15,hF⟩ := bnd_some hF
  refine zQ (v := .tuple #[.agg #[i6 r_15.1.Lo,i6 r_15.1.Hi],i6 r_15.2]) hf hc en_34 rfl (fun w hc => by obtain ⟨G1,hle1,hrd1,hc,hth1⟩ := lend hc k0; exact (crew_Load_ok r_14 5 hrd1 hc hr_15).mono fun e w h => ⟨h.1,((hth1 _ _ h.2).unpick k0)⟩) fun a w hf hc => sp 3 hf rfl fun a hf => zA hf hc zr_29 rfl fun b_6 a w hf hc => zW hf hc sz_29 u0 rfl fun w hc => sp 1 hf rfl fun a hf => zT h ?_
  refine zS fun K h => ?_
  obtain ⟨r_16,hr_16,hF⟩ := bnd_some hF
  refine zC hf en_69 rfl (law11_Wire_ok hc hr_16) ?_
  rintro _ w ⟨p_13,c_7,rfl,hc⟩
  refine ⟨_,rfl,fun a hf => ?_⟩
  obtain ⟨r_17,hr_17,hF⟩ := bnd_some hF
  refine zQ (v := .tuple #[i6 r_17.1,i6 r_17.2.1,i6 r_17.2.2]) hf hc en_36 rfl (fun w hc => by obtain ⟨G1,hle1,hrd1,hc,hth1⟩ := lend hc k0; exact (crew_Beyond_ok r_16 hrd1 hc hr_17).mono fun e w h => ⟨h.1,((hth1 _ _ h.2).unpick k0)⟩) fun a w hf hc => sp 7 hf rfl fun a hf => zT h ?_
  refine wp_seq_k fun K13 h13 => cReg ?_
  obtain ⟨r_18,hr_18,hF⟩ := bnd_some hF
  refine zC hf en_69 rfl (law11_Wire_ok hc hr_18) ?_
  rintro _ w ⟨p_14,c_8,rfl,hc⟩
  refine ⟨_,rfl,fun a hf => ?_⟩
  refine zA hf hc zr_54 rfl fun b_7 a w hf hc => zW hf hc sz_54 u0 rfl fun w hc => cNil ?_
  replace hc := ((((((hc.drop k9).drop k8).drop k7).drop k6).drop k5).drop k4).drop k2
  refine h13 _ _ ?_
  refine wp_seq_k fun K14 h14 => ?_
  obtain ⟨r_19,hr_19,hF⟩ := bnd_some hF
  obtain ⟨un,hun,hF⟩ := bnd_some hF
  replace hc := hc.nilRow 0 0
  refine regionE (fun θ => [⟨none,none,2,i6 r_13.2⟩,⟨none,none,4,i6 r_15.2⟩,⟨none,none,6,i6 r_17.2.2⟩,⟨none,none,9,i6 r_17.1⟩,⟨none,none,10,i6 r_17.2.1⟩,⟨none,none,12,i6 r_13.1⟩,⟨none,none,13,pq b_6⟩,⟨none,none,14,pq b_7⟩,⟨some 0,none,112,.pointer (some ⟨b_7,4,none⟩)⟩,⟨some 1,none,113,.slice p_14 r_18.Rides.length c_8⟩,⟨some 2,none,114,.agg #[i6 r_19.Lo,i6 r_19.Hi]⟩,⟨some 3,none,115,.agg #[i6 5,i6 5,i6 r_19.Lo,i6 r_19.Hi]⟩,⟨some 4,none,116,.slice (some ⟨(θ 32).b,0,none⟩) 1 1⟩,⟨some 5,none,117,.slice ((θ 40).p) ((r_18.Rides ++ [(⟨5,5,r_19⟩ : crew_Ride)]).length) ((θ 40).c)⟩,⟨some 6,none,118,.pointer (some ⟨b_7,4,none⟩)⟩]) (fun E θ => (bif E 4 then .row (some ⟨(θ 32).b,0,none⟩) 1 (([(⟨5,5,r_19⟩ : crew_Ride)] : List crew_Ride).map enc_crew_Ride) 72 4 else .row none 0 [] 0 0)::(bif E 7 then .box b_7 [i6 r_18.Car,i6 r_18.Wide,i6 r_18.Sag,i6 r_18.Most,.slice ((θ 40).p) ((r_18.Rides ++ [(⟨5,5,r_19⟩ : crew_Ride)]).length) ((θ 40).c)] 54 else .box b_7 [i6 r_18.Car,i6 r_18.Wide,i6 r_18.Sag,i6 r_18.Most,.slice p_14 r_18.Rides.length c_8] 54)::(bif E 5 then .row ((θ 40).p) ((θ 40).c) ((r_18.Rides ++ [(⟨5,5,r_19⟩ : crew_Ride)]).map enc_crew_Ride) 72 4 else .row p_14 c_8 (r_18.Rides.map enc_crew_Ride) 72 4)::.box b_6 [i6 r_15.1.Lo,i6 r_15.1.Hi] 29::Lf) [(7,1),(7,5)] (fun a w => ∃ (b_9 : Nat) (p_16 : Option Addr) (c_10 : Nat),Has 174 a [(2,i6 r_13.2),(4,i6 r_15.2),(6,i6 r_17.2.2),(9,i6 r_17.1),(10,i6 r_17.2.1),(12,i6 r_13.1),(13,pq b_6),(14,pq b_7)] ∧ Ctx G (.row (some ⟨b_9,0,none⟩) 1 (([(⟨5,5,r_19⟩ : crew_Ride)] : List crew_Ride).map enc_crew_Ride) 72 4::.box b_7 [i6 r_18.Car,i6 r_18.Wide,i6 r_18.Sag,i6 r_18.Most,.slice p_16 ((r_18.Rides ++ [(⟨5,5,r_19⟩ : crew_Ride)]).length) c_10] 54::.row p_16 c_10 ((r_18.Rides ++ [(⟨5,5,r_19⟩ : crew_Ride)]).map enc_crew_Ride) 72 4::.box b_6 [i6 r_15.1.Lo,i6 r_15.1.Hi] 29::Lf) w) follows_mx (by kernel_rfl) (by kernel_rfl) (HasE.of hf ⟨rfl,rfl,rfl,rfl,rfl,rfl,rfl,rfl,trivial,trivial,trivial,trivial,trivial,trivial,trivial,trivial⟩) hc ⟨?_,?_,?_,?_,?_,?_,?_,?_,trivial⟩ ?_ ?_
  ·intro E θ a w hD hi hp he hc
   have hf := he.h0.mT he 7 rfl
   refine zP hf rfl (pFA fa_54_4 rfl) fun a hf => zD θ he hi hf 8 rfl rfl rfl hc
  ·intro E θ a w hD hi hp he hc
   have e0 := hp.o 0 rfl
   have e7 := hD.f 0 rfl hi
   try dsimp only at hc
   rw [e7] at hc
   have hf := he.h0.mP he 8 rfl e0
   refine zL hf hc sc_52 m1 rfl fun a w hf hc => zD θ he hi hf 9 rfl rfl rfl ?_
   try dsimp only
   rw [updE_fls 1 e7 rfl]
   exact hc
  ·intro E θ a w hD hi hp he hc
   have hf := he.h0
   refine zQ (v := .agg #[i6 r_19.Lo,i6 r_19.Hi]) hf hc en_51 rfl (fun w hc => law11_span_ok 90 90 hc hr_19) fun a w hf hc => zD θ he hi hf 10 rfl rfl rfl hc
  ·intro E θ a w hD hi hp he hc
   have e2 := hp.o 2 rfl
   have hf := he.h0.mP he 10 rfl e2
   refine zP hf rfl (pBuildS (cells := [i6 5,i6 5,i6 r_19.Lo,i6 r_19.Hi]) bt_72 rfl rfl) fun a hf => zD θ he hi hf 11 rfl rfl rfl hc
  ·intro E θ a w hD hi hp he hc
   have e3 := hp.o 3 rfl
   try dsimp only at hc
   rw [hi] at hc
   have hf := he.h0.mP he 11 rfl e3
   refine stBS (rows := ([(⟨5,5,r_19⟩ : crew_Ride)] : List crew_Ride).map enc_crew_Ride) (vs := [(0,.agg #[i6 5,i6 5,i6 r_19.Lo,i6 r_19.Hi])]) hf hc rfl rfl sl_52 rfl ⟨rfl,rfl,rfl,trivial⟩ rfl rfl fun b_8 a w hf hc => cNil ?_
   refine xThenN ?_
   intro ds u hau
   replace hc := hc.drop k1
   refine ⟨(setT θ 32 ⟨b_8,none,0,(fun _ => (none,0))⟩),he.put hi hau hf rfl [] trivial ⟨qq,qq,qq,qq,qq,qq,qq,qq,qq,qq,qq,qq,qq,qq,qq,trivial⟩,?_⟩
   try dsimp only
   rw [updE_self E 4]
   exact hc
  ·intro E θ a w hD hi hp he hc
   have e1 := hp.o 1 rfl
   have e4 := hp.o 4 rfl
   have e7 := hD.f 1 rfl hi
   try dsimp only at hc
   rw [e4,hi,e7] at hc
   have hf := (he.h0.mP he 9 rfl e1).mP he 12 rfl e4
   refine stApm (xs := r_18.Rides) (ys := ([(⟨5,5,r_19⟩ : crew_Ride)] : List crew_Ride)) hf hc rfl rfl sl_52 rfl rfl rfl rfl rfl one_enc_crew_Ride (src_row hc m0) (fun _ _ => u2) (by simpa using room_spec hun) fun p_15 c_9 a w hf hc => cNil ?_
   refine xThenN ?_
   intro ds u hau
   refine ⟨(setT θ 40 ⟨0,p_15,c_9,(fun _ => (none,0))⟩),he.put hi hau hf rfl [] trivial ⟨qq,qq,qq,qq,qq,qq,qq,qq,qq,qq,qq,qq,qq,qq,qq,trivial⟩,?_⟩
   try dsimp only
   rw [updE_tru 5 e4,updE_self E 5,updE_fls 5 e7 rfl]
   exact hc
  ·intro E θ a w hD hi hp he hc
   have hf := he.h0.mT he 7 rfl
   refine zP hf rfl (pFA fa_54_4 rfl) fun a hf => zD θ he hi hf 14 rfl rfl rfl hc
  ·intro E θ a w hD hi hp he hc
   have e5 := hp.o 5 rfl
   have e6 := hp.o 6 rfl
   try dsimp only at hc
   rw [hi] at hc
   have hf := (he.h0.mP he 13 rfl e5).mP he 14 rfl e6
   refine zW hf hc sz_52 u1 rfl fun w hc => zG θ he hi hf rfl ?_
   try dsimp only
   rw [updE_self E 7]
   exact hc
  ·intro E θ a w hall he hc
   have hf := he.h0
   have e4 := hall 4 rfl
   have e5 := hall 5 rfl
   have e7 := hall 7 rfl
   replace hf := hf.more he 7 rfl (onT)
   replace hf := hf.more he 6 rfl (onT)
   replace hf := hf.more he 5 rfl (onT)
   replace hf := hf.more he 4 rfl (onT)
   replace hf := hf.more he 3 rfl (onT)
   replace hf := hf.more he 2 rfl (onT)
   replace hf := hf.more he 1 rfl (onT)
   replace hf := hf.more he 0 rfl (onT)
   try dsimp only at hc
   rw [e4,e5,e7] at hc
   exact ⟨(θ 32).b,(θ 40).p,(θ 40).c,hf.kp rfl,hc⟩
  rintro a w ⟨b_9,p_16,c_10,hf,hc⟩
  refine h14 _ _ ?_
  refine zS fun K h => zN hf hc ag_54 m1 rfl fun a w hf hc => ?_
  obtain ⟨r_20,hr_20,hF⟩ := bnd_some hF
  obtain ⟨G1,hle1,hrd1,hc,hth1⟩ := lend hc k2
  refine zC hf en_38 rfl (crew_Queue_ok (⟨r_18.Car,r_18.Wide,r_18.Sag,r_18.Most,(r_18.Rides ++ [(⟨5,5,r_19⟩ : crew_Ride)])⟩ : crew_Cable) hrd1 hc hr_20) ?_
  rintro _ w ⟨p_17,c_11,rfl,hc⟩
  refine ⟨_,rfl,fun a hf => ?_⟩
  replace hc := hth1 _ _ hc
  refine sp 5 hf rfl fun a hf => zT h ?_
  refine zS fun K h => zP hf rfl (pBuildS (cells := [i6 600,i6 480,i6 500]) bt_24 rfl rfl) fun a hf => stBS (rows := ([481] : List Int).map encI_i64) (vs := [(0,i6 481)]) hf hc rfl rfl sl_25 rfl ⟨rfl,rfl,rfl,trivial⟩ rfl rfl fun b_10 a w hf hc => ?_
  obtain ⟨r_21,hr_21,hF⟩ := bnd_some hF
  refine zQ (v := .tuple #[i6 r_21.1,i6 r_21.2]) hf hc en_26 rfl (fun w hc => by obtain ⟨G1,hle1,hrd1,hc,hth1⟩ := lend hc k0; exact (crew_Paid_ok (⟨600,480,500⟩ : crew_Pay) ([481] : List Int) hrd1 hc hr_21).mono fun e w h => ⟨h.1,((hth1 _ _ h.2).unpick k0)⟩) fun a w hf hc => sp 5 hf rfl fun a hf => zT h ?_
  refine wp_seq_k fun K17 h17 => ?_
  obtain ⟨r_22,hr_22,hF⟩ := bnd_some hF
  obtain ⟨r_23,hr_23,hF⟩ := bnd_some hF
  replace hc := hc.nilRow 0 0
  refine regionE (fun θ => (⟨none,none,2,i6 r_13.2⟩::⟨none,none,4,i6 r_15.2⟩::⟨none,none,6,i6 r_17.2.2⟩::⟨none,none,8,i6 r_20.2⟩::⟨none,none,9,i6 r_17.1⟩::⟨none,none,10,i6 r_17.2.1⟩::⟨none,none,11,i6 r_21.2⟩::⟨none,none,12,i6 r_13.1⟩::⟨none,none,13,pq b_6⟩::⟨none,none,15,.slice p_17 r_20.1.length c_11⟩::⟨none,none,16,i6 r_21.1⟩::⟨some 0,none,130,i6 r_13.2⟩::⟨some 1,none,131,.bool (r_13.2 == 0)⟩::⟨some 2,none,132,.bool (r_13.2 == 0)⟩::⟨some 3,none,133,(bif (r_13.2 == 0) then i6 r_15.2 else undef)⟩::⟨some 4,none,134,(bif (r_13.2 == 0) then .bool (r_15.2 == 0) else undef)⟩::⟨some 5,none,135,.bool ((r_13.2 == 0) && (r_15.2 == 0))⟩::⟨some 6,none,136,.bool ((r_13.2 == 0) && (r_15.2 == 0))⟩::⟨some 7,none,137,(bif ((r_13.2 == 0) && (r_15.2 == 0)) then i6 r_17.2.2 else undef)⟩::⟨some 8,none,138,(bif ((r_13.2 == 0) && (r_15.2 == 0)) then .bool (r_17.2.2 == 0) else undef)⟩::⟨some 9,none,139,.bool (((r_13.2 == 0) && (r_15.2 == 0)) && (r_17.2.2 == 0))⟩::⟨some 10,none,140,.bool (((r_13.2 == 0) && (r_15.2 == 0)) && (r_17.2.2 == 0))⟩::⟨some 11,none,141,(bif (((r_13.2 == 0) && (r_15.2 == 0)) && (r_17.2.2 == 0)) then i6 r_20.2 else undef)⟩::⟨some 12,none,142,(bif (((r_13.2 == 0) && (r_15.2 == 0)) && (r_17.2.2 == 0)) then .bool (r_20.2 == 0) else undef)⟩::⟨some 13,none,143,.bool ((((r_13.2 == 0) && (r_15.2 == 0)) && (r_17.2.2 == 0)) && (r_20.2 == 0))⟩::⟨some 14,none,144,.bool ((((r_13.2 == 0) && (r_15.2 == 0)) && (r_17.2.2 == 0)) && (r_20.2 == 0))⟩::⟨some 15,none,145,(bif ((((r_13.2 == 0) && (r_15.2 == 0)) && (r_17.2.2 == 0)) && (r_20.2 == 0)) then i6 r_21.2 else undef)⟩::⟨some 16,none,146,(bif ((((r_13.2 == 0) && (r_15.2 == 0)) && (r_17.2.2 == 0)) && (r_20.2 == 0)) then .bool (r_21.2 == 0) else undef)⟩::⟨some 17,none,147,.bool (((((r_13.2 == 0) && (r_15.2 == 0)) && (r_17.2.2 == 0)) && (r_20.2 == 0)) && (r_21.2 == 0))⟩::⟨some 18,none,148,.bool (((((r_13.2 == 0) && (r_15.2 == 0)) && (r_17.2.2 == 0)) && (r_20.2 == 0)) && (r_21.2 == 0))⟩::⟨some 19,none,149,(bif (((((r_13.2 == 0) && (r_15.2 == 0)) && (r_17.2.2 == 0)) && (r_20.2 == 0)) && (r_21.2 == 0)) then i6 r_13.1 else undef)⟩::⟨some 20,none,150,(bif (((((r_13.2 == 0) && (r_15.2 == 0)) && (r_17.2.2 == 0)) && (r_20.2 == 0)) && (r_21.2 == 0)) then .bool (r_13.1 == 5) else undef)⟩::⟨some 21,none,151,.bool ((((((r_13.2 == 0) && (r_15.2 == 0)) && (r_17.2.2 == 0)) && (r_20.2 == 0)) && (r_21.2 == 0)) && (r_13.1 == 5))⟩::⟨some 22,none,152,.bool ((((((r_13.2 == 0) && (r_15.2 == 0)) && (r_17.2.2 == 0)) && (r_20.2 == 0)) && (r_21.2 == 0)) && (r_13.1 == 5))⟩::⟨some 23,none,153,(bif ((((((r_13.2 == 0) && (r_15.2 == 0)) && (r_17.2.2 == 0)) && (r_20.2 == 0)) && (r_21.2 == 0)) && (r_13.1 == 5)) then .agg #[i6 r_15.1.Lo,i6 r_15.1.Hi] else undef)⟩::⟨some 24,none,154,(bif ((((((r_13.2 == 0) && (r_15.2 == 0)) && (r_17.2.2 == 0)) && (r_20.2 == 0)) && (r_21.2 == 0)) && (r_13.1 == 5)) then .agg #[i6 r_22.Lo,i6 r_22.Hi] else undef)⟩::⟨some 25,none,155,(bif ((((((r_13.2 == 0) && (r_15.2 == 0)) && (r_17.2.2 == 0)) && (r_20.2 == 0)) && (r_21.2 == 0)) && (r_13.1 == 5)) then .bool (r_15.1.Lo == r_22.Lo && r_15.1.Hi == r_22.Hi) else undef)⟩::⟨some 26,none,156,.bool (((((((r_13.2 == 0) && (r_15.2 == 0)) && (r_17.2.2 == 0)) && (r_20.2 == 0)) && (r_21.2 == 0)) && (r_13.1 == 5)) && (r_15.1.Lo == r_22.Lo && r_15.1.Hi == r_22.Hi))⟩::⟨some 27,none,157,.bool (((((((r_13.2 == 0) && (r_15.2 == 0)) && (r_17.2.2 == 0)) && (r_20.2 == 0)) && (r_21.2 == 0)) && (r_13.1 == 5)) && (r_15.1.Lo == r_22.Lo && r_15.1.Hi == r_22.Hi))⟩::⟨some 28,none,158,(bif (((((((r_13.2 == 0) && (r_15.2 == 0)) && (r_17.2.2 == 0)) && (r_20.2 == 0)) && (r_21.2 == 0)) && (r_13.1 == 5)) && (r_15.1.Lo == r_22.Lo && r_15.1.Hi == r_22.Hi)) then i6 r_17.1 else undef)⟩::⟨some 29,none,159,(bif (((((((r_13.2 == 0) && (r_15.2 == 0)) && (r_17.2.2 == 0)) && (r_20.2 == 0)) && (r_21.2 == 0)) && (r_13.1 == 5)) && (r_15.1.Lo == r_22.Lo && r_15.1.Hi == r_22.Hi)) then .bool (r_17.1 == 5) else undef)⟩::⟨some 30,none,160,.bool ((((((((r_13.2 == 0) && (r_15.2 == 0)) && (r_17.2.2 == 0)) && (r_20.2 == 0)) && (r_21.2 == 0)) && (r_13.1 == 5)) && (r_15.1.Lo == r_22.Lo && r_15.1.Hi == r_22.Hi)) && (r_17.1 == 5))⟩::⟨some 31,none,161,.bool ((((((((r_13.2 == 0) && (r_15.2 == 0)) && (r_17.2.2 == 0)) && (r_20.2 == 0)) && (r_21.2 == 0)) && (r_13.1 == 5)) && (r_15.1.Lo == r_22.Lo && r_15.1.Hi == r_22.Hi)) && (r_17.1 == 5))⟩::⟨some 32,none,162,(bif ((((((((r_13.2 == 0) && (r_15.2 == 0)) && (r_17.2.2 == 0)) && (r_20.2 == 0)) && (r_21.2 == 0)) && (r_13.1 == 5)) && (r_15.1.Lo == r_22.Lo && r_15.1.Hi == r_22.Hi)) && (r_17.1 == 5)) then i6 r_17.2.1 else undef)⟩::⟨some 33,none,163,(bif ((((((((r_13.2 == 0) && (r_15.2 == 0)) && (r_17.2.2 == 0)) && (r_20.2 == 0)) && (r_21.2 == 0)) && (r_13.1 == 5)) && (r_15.1.Lo == r_22.Lo && r_15.1.Hi == r_22.Hi)) && (r_17.1 == 5)) then .bool (r_17.2.1 == (-1)) else undef)⟩::⟨some 34,none,164,.bool (((((((((r_13.2 == 0) && (r_15.2 == 0)) && (r_17.2.2 == 0)) && (r_20.2 == 0)) && (r_21.2 == 0)) && (r_13.1 == 5)) && (r_15.1.Lo == r_22.Lo && r_15.1.Hi == r_22.Hi)) && (r_17.1 == 5)) && (r_17.2.1 == (-1)))⟩::⟨some 35,none,165,.bool (((((((((r_13.2 == 0) && (r_15.2 == 0)) && (r_17.2.2 == 0)) && (r_20.2 == 0)) && (r_21.2 == 0)) && (r_13.1 == 5)) && (r_15.1.Lo == r_22.Lo && r_15.1.Hi == r_22.Hi)) && (r_17.1 == 5)) && (r_17.2.1 == (-1)))⟩::⟨some 36,none,166,(bif (((((((((r_13.2 == 0) && (r_15.2 == 0)) && (r_17.2.2 == 0)) && (r_20.2 == 0)) && (r_21.2 == 0)) && (r_13.1 == 5)) && (r_15.1.Lo == r_22.Lo && r_15.1.Hi == r_22.Hi)) && (r_17.1 == 5)) && (r_17.2.1 == (-1))) then .slice p_17 r_20.1.length c_11 else undef)⟩::⟨some 37,none,167,(bif (((((((((r_13.2 == 0) && (r_15.2 == 0)) && (r_17.2.2 == 0)) && (r_20.2 == 0)) && (r_21.2 == 0)) && (r_13.1 == 5)) && (r_15.1.Lo == r_22.Lo && r_15.1.Hi == r_22.Hi)) && (r_17.1 == 5)) && (r_17.2.1 == (-1))) then .slice (some ⟨(θ 296).b,0,none⟩) 3 3 else undef)⟩::⟨some 38,none,168,(bif (((((((((r_13.2 == 0) && (r_15.2 == 0)) && (r_17.2.2 == 0)) && (r_20.2 == 0)) && (r_21.2 == 0)) && (r_13.1 == 5)) && (r_15.1.Lo == r_22.Lo && r_15.1.Hi == r_22.Hi)) && (r_17.1 == 5)) && (r_17.2.1 == (-1))) then .bool r_23 else undef)⟩::⟨some 39,none,169,.bool ((((((((((r_13.2 == 0) && (r_15.2 == 0)) && (r_17.2.2 == 0)) && (r_20.2 == 0)) && (r_21.2 == 0)) && (r_13.1 == 5)) && (r_15.1.Lo == r_22.Lo && r_15.1.Hi == r_22.Hi)) && (r_17.1 == 5)) && (r_17.2.1 == (-1))) && r_23)⟩::⟨some 40,none,170,.bool ((((((((((r_13.2 == 0) && (r_15.2 == 0)) && (r_17.2.2 == 0)) && (r_20.2 == 0)) && (r_21.2 == 0)) && (r_13.1 == 5)) && (r_15.1.Lo == r_22.Lo && r_15.1.Hi == r_22.Hi)) && (r_17.1 == 5)) && (r_17.2.1 == (-1))) && r_23)⟩::⟨some 41,none,171,(bif ((((((((((r_13.2 == 0) && (r_15.2 == 0)) && (r_17.2.2 == 0)) && (r_20.2 == 0)) && (r_21.2 == 0)) && (r_13.1 == 5)) && (r_15.1.Lo == r_22.Lo && r_15.1.Hi == r_22.Hi)) && (r_17.1 == 5)) && (r_17.2.1 == (-1))) && r_23) then i6 r_21.1 else undef)⟩::⟨some 42,none,172,(bif ((((((((((r_13.2 == 0) && (r_15.2 == 0)) && (r_17.2.2 == 0)) && (r_20.2 == 0)) && (r_21.2 == 0)) && (r_13.1 == 5)) && (r_15.1.Lo == r_22.Lo && r_15.1.Hi == r_22.Hi)) && (r_17.1 == 5)) && (r_17.2.1 == (-1))) && r_23) then .bool (r_21.1 == 4815) else undef)⟩::⟨some 43,none,173,.bool (((((((((((r_13.2 == 0) && (r_15.2 == 0)) && (r_17.2.2 == 0)) && (r_20.2 == 0)) && (r_21.2 == 0)) && (r_13.1 == 5)) && (r_15.1.Lo == r_22.Lo && r_15.1.Hi == r_22.Hi)) && (r_17.1 == 5)) && (r_17.2.1 == (-1))) && r_23) && (r_21.1 == 4815))⟩::⟨some 44,none,0,.bool (((((((((((r_13.2 == 0) && (r_15.2 == 0)) && (r_17.2.2 == 0)) && (r_20.2 == 0)) && (r_21.2 == 0)) && (r_13.1 == 5)) && (r_15.1.Lo == r_22.Lo && r_15.1.Hi == r_22.Hi)) && (r_17.1 == 5)) && (r_17.2.1 == (-1))) && r_23) && (r_21.1 == 4815))⟩::[])) (fun E θ => (bif E 37 then (gE (((((((((r_13.2 == 0) && (r_15.2 == 0)) && (r_17.2.2 == 0)) && (r_20.2 == 0)) && (r_21.2 == 0)) && (r_13.1 == 5)) && (r_15.1.Lo == r_22.Lo && r_15.1.Hi == r_22.Hi)) && (r_17.1 == 5)) && (r_17.2.1 == (-1))) (.row (some ⟨(θ 296).b,0,none⟩) 3 (([0,10,15] : List Int).map encI_i64) 3 1)) else .row none 0 [] 0 0)::.row (some ⟨b_10,0,none⟩) 1 (([481] : List Int).map encI_i64) 3 1::.row p_16 c_10 ((r_18.Rides ++ [(⟨5,5,r_19⟩ : crew_Ride)]).map enc_crew_Ride) 72 4::.row p_17 c_11 (r_20.1.map encI_i64) 3 1::.row (some ⟨b_9,0,none⟩) 1 (([(⟨5,5,r_19⟩ : crew_Ride)] : List crew_Ride).map enc_crew_Ride) 72 4::.box b_7 [i6 r_18.Car,i6 r_18.Wide,i6 r_18.Sag,i6 r_18.Most,.slice p_16 ((r_18.Rides ++ [(⟨5,5,r_19⟩ : crew_Ride)]).length) c_10] 54::.box b_6 [i6 r_15.1.Lo,i6 r_15.1.Hi] 29::Lf) [] (fun a w => Has 174 a [(0,.bool (((((((((((r_13.2 == 0) && (r_15.2 == 0)) && (r_17.2.2 == 0)) && (r_20.2 == 0)) && (r_21.2 == 0)) && (r_13.1 == 5)) && (r_15.1.Lo == r_22.Lo && r_15.1.Hi == r_22.Hi)) && (r_17.1 == 5)) && (r_17.2.1 == (-1))) && r_23) && (r_21.1 == 4815)))] ∧ Ctx G (.row (some ⟨b_10,0,none⟩) 1 (([481] : List Int).map encI_i64) 3 1::.row p_16 c_10 ((r_18.Rides ++ [(⟨5,5,r_19⟩ : crew_Ride)]).map enc_crew_Ride) 72 4::.row p_17 c_11 (r_20.1.map encI_i64) 3 1::.row (some ⟨b_9,0,none⟩) 1 (([(⟨5,5,r_19⟩ : crew_Ride)] : List crew_Ride).map enc_crew_Ride) 72 4::.box b_7 [i6 r_18.Car,i6 r_18.Wide,i6 r_18.Sag,i6 r_18.Most,.slice p_16 ((r_18.Rides ++ [(⟨5,5,r_19⟩ : crew_Ride)]).length) c_10] 54::.box b_6 [i6 r_15.1.Lo,i6 r_15.1.Hi] 29::Lf) w) follows_mx (by kernel_rfl) (by kernel_rfl) (HasE.of hf ⟨rfl,rfl,rfl,rfl,rfl,rfl,rfl,rfl,rfl,rfl,rfl,trivial,trivial,trivial,trivial,trivial,trivial,trivial,trivial,trivial,trivial,trivial,trivial,trivial,trivial,trivial,trivial,trivial,trivial,trivial,trivial,trivial,trivial,trivial,trivial,trivial,trivial,trivial,trivial,trivial,trivial,trivial,trivial,trivial,trivial,trivial,trivial,trivial,trivial,trivial,trivial,trivial,trivial,trivial,trivial,trivial,trivial⟩) hc ⟨?_,?_,?_,?_,?_,?_,?_,?_,?_,?_,?_,?_,?_,?_,?_,?_,?_,?_,?_,?_,?_,?_,?_,?_,?_,?_,?_,?_,?_,?_,?_,?_,?_,?_,?_,?_,?_,?_,?_,?_,?_,?_,?_,?_,?_,trivial⟩ ?_ ?_
  ·intro E θ a w hD hi hp he hc
   have hf := he.h0.mT he 0 rfl
   refine sp 1 hf rfl fun a hf => zD θ he hi hf 11 rfl rfl rfl hc
  ·intro E θ a w hD hi hp he hc
   have e0 := hp.o 0 rfl
   have hf := he.h0.mP he 11 rfl e0
   refine sp 1 hf rfl fun a hf => zD θ he hi hf 12 rfl rfl rfl hc
  ·intro E θ a w hD hi hp he hc
   have e1 := hp.o 1 rfl
   have hf := he.h0.mP he 12 rfl e1
   refine sp 1 hf rfl fun a hf => zD θ he hi hf 13 rfl rfl rfl hc
  ·intro E θ a w hD hi hp he hc
   have e2 := hp.o 2 rfl
   rcases boolEq (r_13.2 == 0) with hb | hb
   ·have hf := (he.h0.mT he 1 rfl).mP he 13 rfl e2
    replace hf := castB hb hf
    refine sp 1 hf rfl fun a hf => ?_
    replace hf := castI (u := undef) hb hf
    exact zD θ he hi hf 14 rfl rfl rfl hc
   ·have hf := (he.h0.mT he 1 rfl).mP he 13 rfl e2
    replace hf := castB hb hf
    refine stS hf rfl rfl rfl fun a hf => ?_
    replace hf := castJ (u := i6 r_15.2) hb hf
    exact zD θ he hi hf 14 rfl rfl rfl hc
  ·intro E θ a w hD hi hp he hc
   have e2 := hp.o 2 rfl
   have e3 := hp.o 3 rfl
   rcases boolEq (r_13.2 == 0) with hb | hb
   ·have hf := he.h0.mP he 13 rfl e2
    replace hf := castB hb hf
    replace hf := hf.more he 14 rfl (onP e3)
    replace hf := castCT hb hf
    refine sp 1 hf rfl fun a hf => ?_
    replace hf := castI (u := undef) hb hf
    exact zD θ he hi hf 15 rfl rfl rfl hc
   ·have hf := he.h0.mP he 13 rfl e2
    replace hf := castB hb hf
    replace hf := hf.more he 14 rfl (onP e3)
    replace hf := castCF hb hf
    refine stS hf rfl rfl rfl fun a hf => ?_
    replace hf := castJ (u := .bool (r_15.2 == 0)) hb hf
    exact zD θ he hi hf 15 rfl rfl rfl hc
  ·intro E θ a w hD hi hp he hc
   have e2 := hp.o 2 rfl
   have e4 := hp.o 4 rfl
   rcases boolEq (r_13.2 == 0) with hb | hb
   ·have hf := he.h0.mP he 13 rfl e2
    replace hf := castB hb hf
    replace hf := hf.more he 15 rfl (onP e4)
    replace hf := castCT hb hf
    refine sp 1 hf rfl fun a hf => ?_
    replace hf := castV (v' := .bool ((r_13.2 == 0) && (r_15.2 == 0))) (congrArg Value.bool (andT hb)) hf
    exact zD θ he hi hf 16 rfl rfl rfl hc
   ·have hf := he.h0.mP he 13 rfl e2
    replace hf := castB hb hf
    replace hf := hf.more he 15 rfl (onP e4)
    replace hf := castCF hb hf
    refine sp 1 hf rfl fun a hf => ?_
    replace hf := castV (v' := .bool ((r_13.2 == 0) && (r_15.2 == 0))) (congrArg Value.bool (andF hb)) hf
    exact zD θ he hi hf 16 rfl rfl rfl hc
  ·intro E θ a w hD hi hp he hc
   have e5 := hp.o 5 rfl
   have hf := he.h0.mP he 16 rfl e5
   refine sp 1 hf rfl fun a hf => zD θ he hi hf 17 rfl rfl rfl hc
  ·intro E θ a w hD hi hp he hc
   have e6 := hp.o 6 rfl
   rcases boolEq ((r_13.2 == 0) && (r_15.2 == 0)) with hb | hb
   ·have hf := (he.h0.mT he 2 rfl).mP he 17 rfl e6
    replace hf := castB hb hf
    refine sp 1 hf rfl fun a hf => ?_
    replace hf := castI (u := undef) hb hf
    exact zD θ he hi hf 18 rfl rfl rfl hc
   ·have hf := (he.h0.mT he 2 rfl).mP he 17 rfl e6
    replace hf := castB hb hf
    refine stS hf rfl rfl rfl fun a hf => ?_
    replace hf := castJ (u := i6 r_17.2.2) hb hf
    exact zD θ he hi hf 18 rfl rfl rfl hc
  ·intro E θ a w hD hi hp he hc
   have e6 := hp.o 6 rfl
   have e7 := hp.o 7 rfl
   rcases boolEq ((r_13.2 == 0) && (r_15.2 == 0)) with hb | hb
   ·have hf := he.h0.mP he 17 rfl e6
    replace hf := castB hb hf
    replace hf := hf.more he 18 rfl (onP e7)
    replace hf := castCT hb hf
    refine sp 1 hf rfl fun a hf => ?_
    replace hf := castI (u := undef) hb hf
    exact zD θ he hi hf 19 rfl rfl rfl hc
   ·have hf := he.h0.mP he 17 rfl e6
    replace hf := castB hb hf
    replace hf := hf.more he 18 rfl (onP e7)
    replace hf := castCF hb hf
    refine stS hf rfl rfl rfl fun a hf => ?_
    replace hf := castJ (u := .bool (r_17.2.2 == 0)) hb hf
    exact zD θ he hi hf 19 rfl rfl rfl hc
  ·intro E θ a w hD hi hp he hc
   have e6 := hp.o 6 rfl
   have e8 := hp.o 8 rfl
   rcases boolEq ((r_13.2 == 0) && (r_15.2 == 0)) with hb | hb
   ·have hf := he.h0.mP he 17 rfl e6
    replace hf := castB hb hf
    replace hf := hf.more he 19 rfl (onP e8)
    replace hf := castCT hb hf
    refine sp 1 hf rfl fun a hf => ?_
    replace hf := castV (v' := .bool (((r_13.2 == 0) && (r_15.2 == 0)) && (r_17.2.2 == 0))) (congrArg Value.bool (andT hb)) hf
    exact zD θ he hi hf 20 rfl rfl rfl hc
   ·have hf := he.h0.mP he 17 rfl e6
    replace hf := castB hb hf
    replace hf := hf.more he 19 rfl (onP e8)
    replace hf := castCF hb hf
    refine sp 1 hf rfl fun a hf => ?_
    replace hf := castV (v' := .bool (((r_13.2 == 0) && (r_15.2 == 0)) && (r_17.2.2 == 0))) (congrArg Value.bool (andF hb)) hf
    exact zD θ he hi hf 20 rfl rfl rfl hc
  ·intro E θ a w hD hi hp he hc
   have e9 := hp.o 9 rfl
   have hf := he.h0.mP he 20 rfl e9
   refine sp 1 hf rfl fun a hf => zD θ he hi hf 21 rfl rfl rfl hc
  ·intro E θ a w hD hi hp he hc
   have e10 := hp.o 10 rfl
   rcases boolEq (((r_13.2 == 0) && (r_15.2 == 0)) && (r_17.2.2 == 0)) with hb | hb
   ·have hf := (he.h0.mT he 3 rfl).mP he 21 rfl e10
    replace hf := castB hb hf
    refine sp 1 hf rfl fun a hf => ?_
    replace hf := castI (u := undef) hb hf
    exact zD θ he hi hf 22 rfl rfl rfl hc
   ·have hf := (he.h0.mT he 3 rfl).mP he 21 rfl e10
    replace hf := castB hb hf
    refine stS hf rfl rfl rfl fun a hf => ?_
    replace hf := castJ (u := i6 r_20.2) hb hf
    exact zD θ he hi hf 22 rfl rfl rfl hc
  ·intro E θ a w hD hi hp he hc
   have e10 := hp.o 10 rfl
   have e11 := hp.o 11 rfl
   rcases boolEq (((r_13.2 == 0) && (r_15.2 == 0)) && (r_17.2.2 == 0)) with hb | hb
   ·have hf := he.h0.mP he 21 rfl e10
    replace hf := castB hb hf
    replace hf := hf.more he 22 rfl (onP e11)
    replace hf := castCT hb hf
    refine sp 1 hf rfl fun a hf => ?_
    replace hf := castI (u := undef) hb hf
    exact zD θ he hi hf 23 rfl rfl rfl hc
   ·have hf := he.h0.mP he 21 rfl e10
    replace hf := castB hb hf
    replace hf := hf.more he 22 rfl (onP e11)
    replace hf := castCF hb hf
    refine stS hf rfl rfl rfl fun a hf => ?_
    replace hf := castJ (u := .bool (r_20.2 == 0)) hb hf
    exact zD θ he hi hf 23 rfl rfl rfl hc
  ·intro E θ a w hD hi hp he hc
   have e10 := hp.o 10 rfl
   have e12 := hp.o 12 rfl
   rcases boolEq (((r_13.2 == 0) && (r_15.2 == 0)) && (r_17.2.2 == 0)) with hb | hb
   ·have hf := he.h0.mP he 21 rfl e10
    replace hf := castB hb hf
    replace hf := hf.more he 23 rfl (onP e12)
    replace hf := castCT hb hf
    refine sp 1 hf rfl fun a hf => ?_
    replace hf := castV (v' := .bool ((((r_13.2 == 0) && (r_15.2 == 0)) && (r_17.2.2 == 0)) && (r_20.2 == 0))) (congrArg Value.bool (andT hb)) hf
    exact zD θ he hi hf 24 rfl rfl rfl hc
   ·have hf := he.h0.mP he 21 rfl e10
    replace hf := castB hb hf
    replace hf := hf.more he 23 rfl (onP e12)
    replace hf := castCF hb hf
    refine sp 1 hf rfl fun a hf => ?_
    replace hf := castV (v' := .bool ((((r_13.2 == 0) && (r_15.2 == 0)) && (r_17.2.2 == 0)) && (r_20.2 == 0))) (congrArg Value.bool (andF hb)) hf
    exact zD θ he hi hf 24 rfl rfl rfl hc
  ·intro E θ a w hD hi hp he hc
   have e13 := hp.o 13 rfl
   have hf := he.h0.mP he 24 rfl e13
   refine sp 1 hf rfl fun a hf => zD θ he hi hf 25 rfl rfl rfl hc
  ·intro E θ a w hD hi hp he hc
   have e14 := hp.o 14 rfl
   rcases boolEq ((((r_13.2 == 0) && (r_15.2 == 0)) && (r_17.2.2 == 0)) && (r_20.2 == 0)) with hb | hb
   ·have hf := (he.h0.mT he 6 rfl).mP he 25 rfl e14
    replace hf := castB hb hf
    refine sp 1 hf rfl fun a hf => ?_
    replace hf := castI (u := undef) hb hf
    exact zD θ he hi hf 26 rfl rfl rfl hc
   ·have hf := (he.h0.mT he 6 rfl).mP he 25 rfl e14
    replace hf := castB hb hf
    refine stS hf rfl rfl rfl fun a hf => ?_
    replace hf := castJ (u := i6 r_21.2) hb hf
    exact zD θ he hi hf 26 rfl rfl rfl hc
  ·intro E θ a w hD hi hp he hc
   have e14 := hp.o 14 rfl
   have e15 := hp.o 15 rfl
   rcases boolEq ((((r_13.2 == 0) && (r_15.2 == 0)) && (r_17.2.2 == 0)) && (r_20.2 == 0)) with hb | hb
   ·have hf := he.h0.mP he 25 rfl e14
    replace hf := castB hb hf
    replace hf := hf.more he 26 rfl (onP e15)
    replace hf := castCT hb hf
    refine sp 1 hf rfl fun a hf => ?_
    replace hf := castI (u := undef) hb hf
    exact zD θ he hi hf 27 rfl rfl rfl hc
   ·have hf := he.h0.mP he 25 rfl e14
    replace hf := castB hb hf
    replace hf := hf.more he 26 rfl (onP e15)
    replace hf := castCF hb hf
    refine stS hf rfl rfl rfl fun a hf => ?_
    replace hf := castJ (u := .bool (r_21.2 == 0)) hb hf
    exact zD θ he hi hf 27 rfl rfl rfl hc
  ·intro E θ a w hD hi hp he hc
   have e14 := hp.o 14 rfl
   have e16 := hp.o 16 rfl
   rcases boolEq ((((r_13.2 == 0) && (r_15.2 == 0)) && (r_17.2.2 == 0)) && (r_20.2 == 0)) with hb | hb
   ·have hf := he.h0.mP he 25 rfl e14
    replace hf := castB hb hf
    replace hf := hf.more he 27 rfl (onP e16)
    replace hf := castCT hb hf
    refine sp 1 hf rfl fun a hf => ?_
    replace hf := castV (v' := .bool (((((r_13.2 == 0) && (r_15.2 == 0)) && (r_17.2.2 == 0)) && (r_20.2 == 0)) && (r_21.2 == 0))) (congrArg Value.bool (andT hb)) hf
    exact zD θ he hi hf 28 rfl rfl rfl hc
   ·have hf := he.h0.mP he 25 rfl e14
    replace hf := castB hb hf
    replace hf := hf.more he 27 rfl (onP e16)
    replace hf := castCF hb hf
    refine sp 1 hf rfl fun a hf => ?_
    replace hf := castV (v' := .bool (((((r_13.2 == 0) && (r_15.2 == 0)) && (r_17.2.2 == 0)) && (r_20.2 == 0)) && (r_21.2 == 0))) (congrArg Value.bool (andF hb)) hf
    exact zD θ he hi hf 28 rfl rfl rfl hc
  ·intro E θ a w hD hi hp he hc
   have e17 := hp.o 17 rfl
   have hf := he.h0.mP he 28 rfl e17
   refine sp 1 hf rfl fun a hf => zD θ he hi hf 29 rfl rfl rfl hc
  ·intro E θ a w hD hi hp he hc
   have e18 := hp.o 18 rfl
   rcases boolEq (((((r_13.2 == 0) && (r_15.2 == 0)) && (r_17.2.2 == 0)) && (r_20.2 == 0)) && (r_21.2 == 0)) with hb | hb
   ·have hf := (he.h0.mT he 7 rfl).mP he 29 rfl e18
    replace hf := castB hb hf
    refine sp 1 hf rfl fun a hf => ?_
    replace hf := castI (u := undef) hb hf
    exact zD θ he hi hf 30 rfl rfl rfl hc
   ·have hf := (he.h0.mT he 7 rfl).mP he 29 rfl e18
    replace hf := castB hb hf
    refine stS hf rfl rfl rfl fun a hf => ?_
    replace hf := castJ (u := i6 r_13.1) hb hf
    exact zD θ he hi hf 30 rfl rfl rfl hc
  ·intro E θ a w hD hi hp he hc
   have e18 := hp.o 18 rfl
   have e19 := hp.o 19 rfl
   rcases boolEq (((((r_13.2 == 0) && (r_15.2 == 0)) && (r_17.2.2 == 0)) && (r_20.2 == 0)) && (r_21.2 == 0)) with hb | hb
   ·have hf := he.h0.mP he 29 rfl e18
    replace hf := castB hb hf
    replace hf := hf.more he 30 rfl (onP e19)
    replace hf := castCT hb hf
    refine sp 1 hf rfl fun a hf => ?_
    replace hf := castI (u := undef) hb hf
    exact zD θ he hi hf 31 rfl rfl rfl hc
   ·have hf := he.h0.mP he 29 rfl e18
    replace hf := castB hb hf
    replace hf := hf.more he 30 rfl (onP e19)
    replace hf := castCF hb hf
    refine stS hf rfl rfl rfl fun a hf => ?_
    replace hf := castJ (u := .bool (r_13.1 == 5)) hb hf
    exact zD θ he hi hf 31 rfl rfl rfl hc
  ·intro E θ a w hD hi hp he hc
   have e18 := hp.o 18 rfl
   have e20 := hp.o 20 rfl
   rcases boolEq (((((r_13.2 == 0) && (r_15.2 == 0)) && (r_17.2.2 == 0)) && (r_20.2 == 0)) && (r_21.2 == 0)) with hb | hb
   ·have hf := he.h0.mP he 29 rfl e18
    replace hf := castB hb hf
    replace hf := hf.more he 31 rfl (onP e20)
    replace hf := castCT hb hf
    refine sp 1 hf rfl fun a hf => ?_
    replace hf := castV (v' := .bool ((((((r_13.2 == 0) && (r_15.2 == 0)) && (r_17.2.2 == 0)) && (r_20.2 == 0)) && (r_21.2 == 0)) && (r_13.1 == 5))) (congrArg Value.bool (andT hb)) hf
    exact zD θ he hi hf 32 rfl rfl rfl hc
   ·have hf := he.h0.mP he 29 rfl e18
    replace hf := castB hb hf
    replace hf := hf.more he 31 rfl (onP e20)
    replace hf := castCF hb hf
    refine sp 1 hf rfl fun a hf => ?_
    replace hf := castV (v' := .bool ((((((r_13.2 == 0) && (r_15.2 == 0)) && (r_17.2.2 == 0)) && (r_20.2 == 0)) && (r_21.2 == 0)) && (r_13.1 == 5))) (congrArg Value.bool (andF hb)) hf
    exact zD θ he hi hf 32 rfl rfl rfl hc
  ·intro E θ a w hD hi hp he hc
   have e21 := hp.o 21 rfl
   have hf := he.h0.mP he 32 rfl e21
   refine sp 1 hf rfl fun a hf => zD θ he hi hf 33 rfl rfl rfl hc
  ·intro E θ a w hD hi hp he hc
   have e22 := hp.o 22 rfl
   rcases boolEq ((((((r_13.2 == 0) && (r_15.2 == 0)) && (r_17.2.2 == 0)) && (r_20.2 == 0)) && (r_21.2 == 0)) && (r_13.1 == 5)) with hb | hb
   ·have hf := (he.h0.mT he 8 rfl).mP he 33 rfl e22
    replace hf := castB hb hf
    refine zN hf hc ag_29 m6 rfl fun a w hf hc => ?_
    replace hf := castI (u := undef) hb hf
    exact zD θ he hi hf 34 rfl rfl rfl hc
   ·have hf := (he.h0.mT he 8 rfl).mP he 33 rfl e22
    replace hf := castB hb hf
    refine stS hf rfl rfl rfl fun a hf => ?_
    replace hf := castJ (u := .agg #[i6 r_15.1.Lo,i6 r_15.1.Hi]) hb hf
    exact zD θ he hi hf 34 rfl rfl rfl hc
  ·intro E θ a w hD hi hp he hc
   have e22 := hp.o 22 rfl
   rcases boolEq ((((((r_13.2 == 0) && (r_15.2 == 0)) && (r_17.2.2 == 0)) && (r_20.2 == 0)) && (r_21.2 == 0)) && (r_13.1 == 5)) with hb | hb
   ·have hf := he.h0.mP he 33 rfl e22
    replace hf := castB hb hf
    refine zQ (v := .agg #[i6 r_22.Lo,i6 r_22.Hi]) hf hc en_51 rfl (fun w hc => law11_span_ok 290 320 hc (condT hb hr_22)) fun a w hf hc => ?_
    replace hf := castI (u := undef) hb hf
    exact zD θ he hi hf 35 rfl rfl rfl hc
   ·have hf := he.h0.mP he 33 rfl e22
    replace hf := castB hb hf
    refine stS hf rfl rfl rfl fun a hf => ?_
    replace hf := castJ (u := .agg #[i6 r_22.Lo,i6 r_22.Hi]) hb hf
    exact zD θ he hi hf 35 rfl rfl rfl hc
  ·intro E θ a w hD hi hp he hc
   have e22 := hp.o 22 rfl
   have e23 := hp.o 23 rfl
   have e24 := hp.o 24 rfl
   rcases boolEq ((((((r_13.2 == 0) && (r_15.2 == 0)) && (r_17.2.2 == 0)) && (r_20.2 == 0)) && (r_21.2 == 0)) && (r_13.1 == 5)) with hb | hb
   ·have hf := he.h0.mP he 33 rfl e22
    replace hf := castB hb hf
    replace hf := hf.more he 34 rfl (onP e23)
    replace hf := castCT hb hf
    replace hf := hf.more he 35 rfl (onP e24)
    replace hf := castCT hb hf
    refine zP hf rfl (pEqA ge_29 rfl rfl (eqs_29 _ _ _ _)) fun a hf => ?_
    replace hf := castI (u := undef) hb hf
    exact zD θ he hi hf 36 rfl rfl rfl hc
   ·have hf := he.h0.mP he 33 rfl e22
    replace hf := castB hb hf
    replace hf := hf.more he 34 rfl (onP e23)
    replace hf := castCF hb hf
    replace hf := hf.more he 35 rfl (onP e24)
    replace hf := castCF hb hf
    refine stS hf rfl rfl rfl fun a hf => ?_
    replace hf := castJ (u := .bool (r_15.1.Lo == r_22.Lo && r_15.1.Hi == r_22.Hi)) hb hf
    exact zD θ he hi hf 36 rfl rfl rfl hc
  ·intro E θ a w hD hi hp he hc
   have e22 := hp.o 22 rfl
   have e25 := hp.o 25 rfl
   rcases boolEq ((((((r_13.2 == 0) && (r_15.2 == 0)) && (r_17.2.2 == 0)) && (r_20.2 == 0)) && (r_21.2 == 0)) && (r_13.1 == 5)) with hb | hb
   ·have hf := he.h0.mP he 33 rfl e22
    replace hf := castB hb hf
    replace hf := hf.more he 36 rfl (onP e25)
    replace hf := castCT hb hf
    refine sp 1 hf rfl fun a hf => ?_
    replace hf := castV (v' := .bool (((((((r_13.2 == 0) && (r_15.2 == 0)) && (r_17.2.2 == 0)) && (r_20.2 == 0)) && (r_21.2 == 0)) && (r_13.1 == 5)) && (r_15.1.Lo == r_22.Lo && r_15.1.Hi == r_22.Hi))) (congrArg Value.bool (andT hb)) hf
    exact zD θ he hi hf 37 rfl rfl rfl hc
   ·have hf := he.h0.mP he 33 rfl e22
    replace hf := castB hb hf
    replace hf := hf.more he 36 rfl (onP e25)
    replace hf := castCF hb hf
    refine sp 1 hf rfl fun a hf => ?_
    replace hf := castV (v' := .bool (((((((r_13.2 == 0) && (r_15.2 == 0)) && (r_17.2.2 == 0)) && (r_20.2 == 0)) && (r_21.2 == 0)) && (r_13.1 == 5)) && (r_15.1.Lo == r_22.Lo && r_15.1.Hi == r_22.Hi))) (congrArg Value.bool (andF hb)) hf
    exact zD θ he hi hf 37 rfl rfl rfl hc
  ·intro E θ a w hD hi hp he hc
   have e26 := hp.o 26 rfl
   have hf := he.h0.mP he 37 rfl e26
   refine sp 1 hf rfl fun a hf => zD θ he hi hf 38 rfl rfl rfl hc
  ·intro E θ a w hD hi hp he hc
   have e27 := hp.o 27 rfl
   rcases boolEq (((((((r_13.2 == 0) && (r_15.2 == 0)) && (r_17.2.2 == 0)) && (r_20.2 == 0)) && (r_21.2 == 0)) && (r_13.1 == 5)) && (r_15.1.Lo == r_22.Lo && r_15.1.Hi == r_22.Hi)) with hb | hb
   ·have hf := (he.h0.mT he 4 rfl).mP he 38 rfl e27
    replace hf := castB hb hf
    refine sp 1 hf rfl fun a hf => ?_
    replace hf := castI (u := undef) hb hf
    exact zD θ he hi hf 39 rfl rfl rfl hc
   ·have hf := (he.h0.mT he 4 rfl).mP he 38 rfl e27
    replace hf := castB hb hf
    refine stS hf rfl rfl rfl fun a hf => ?_
    replace hf := castJ (u := i6 r_17.1) hb hf
    exact zD θ he hi hf 39 rfl rfl rfl hc
  ·intro E θ a w hD hi hp he hc
   have e27 := hp.o 27 rfl
   have e28 := hp.o 28 rfl
   rcases boolEq (((((((r_13.2 == 0) && (r_15.2 == 0)) && (r_17.2.2 == 0)) && (r_20.2 == 0)) && (r_21.2 == 0)) && (r_13.1 == 5)) && (r_15.1.Lo == r_22.Lo && r_15.1.Hi == r_22.Hi)) with hb | hb
   ·have hf := he.h0.mP he 38 rfl e27
    replace hf := castB hb hf
    replace hf := hf.more he 39 rfl (onP e28)
    replace hf := castCT hb hf
    refine sp 1 hf rfl fun a hf => ?_
    replace hf := castI (u := undef) hb hf
    exact zD θ he hi hf 40 rfl rfl rfl hc
   ·have hf := he.h0.mP he 38 rfl e27
    replace hf := castB hb hf
    replace hf := hf.more he 39 rfl (onP e28)
    replace hf := castCF hb hf
    refine stS hf rfl rfl rfl fun a hf => ?_
    replace hf := castJ (u := .bool (r_17.1 == 5)) hb hf
    exact zD θ he hi hf 40 rfl rfl rfl hc
  ·intro E θ a w hD hi hp he hc
   have e27 := hp.o 27 rfl
   have e29 := hp.o 29 rfl
   rcases boolEq (((((((r_13.2 == 0) && (r_15.2 == 0)) && (r_17.2.2 == 0)) && (r_20.2 == 0)) && (r_21.2 == 0)) && (r_13.1 == 5)) && (r_15.1.Lo == r_22.Lo && r_15.1.Hi == r_22.Hi)) with hb | hb
   ·have hf := he.h0.mP he 38 rfl e27
    replace hf := castB hb hf
    replace hf := hf.more he 40 rfl (onP e29)
    replace hf := castCT hb hf
    refine sp 1 hf rfl fun a hf => ?_
    replace hf := castV (v' := .bool ((((((((r_13.2 == 0) && (r_15.2 == 0)) && (r_17.2.2 == 0)) && (r_20.2 == 0)) && (r_21.2 == 0)) && (r_13.1 == 5)) && (r_15.1.Lo == r_22.Lo && r_15.1.Hi == r_22.Hi)) && (r_17.1 == 5))) (congrArg Value.bool (andT hb)) hf
    exact zD θ he hi hf 41 rfl rfl rfl hc
   ·have hf := he.h0.mP he 38 rfl e27
    replace hf := castB hb hf
    replace hf := hf.more he 40 rfl (onP e29)
    replace hf := castCF hb hf
    refine sp 1 hf rfl fun a hf => ?_
    replace hf := castV (v' := .bool ((((((((r_13.2 == 0) && (r_15.2 == 0)) && (r_17.2.2 == 0)) && (r_20.2 == 0)) && (r_21.2 == 0)) && (r_13.1 == 5)) && (r_15.1.Lo == r_22.Lo && r_15.1.Hi == r_22.Hi)) && (r_17.1 == 5))) (congrArg Value.bool (andF hb)) hf
    exact zD θ he hi hf 41 rfl rfl rfl hc
  ·intro E θ a w hD hi hp he hc
   have e30 := hp.o 30 rfl
   have hf := he.h0.mP he 41 rfl e30
   refine sp 1 hf rfl fun a hf => zD θ he hi hf 42 rfl rfl rfl hc
  ·intro E θ a w hD hi hp he hc
   have e31 := hp.o 31 rfl
   rcases boolEq ((((((((r_13.2 == 0) && (r_15.2 == 0)) && (r_17.2.2 == 0)) && (r_20.2 == 0)) && (r_21.2 == 0)) && (r_13.1 == 5)) && (r_15.1.Lo == r_22.Lo && r_15.1.Hi == r_22.Hi)) && (r_17.1 == 5)) with hb | hb
   ·have hf := (he.h0.mT he 5 rfl).mP he 42 rfl e31
    replace hf := castB hb hf
    refine sp 1 hf rfl fun a hf => ?_
    replace hf := castI (u := undef) hb hf
    exact zD θ he hi hf 43 rfl rfl rfl hc
   ·have hf := (he.h0.mT he 5 rfl).mP he 42 rfl e31
    replace hf := castB hb hf
    refine stS hf rfl rfl rfl fun a hf => ?_
    replace hf := castJ (u := i6 r_17.2.1) hb hf
    exact zD θ he hi hf 43 rfl rfl rfl hc
  ·intro E θ a w hD hi hp he hc
   have e31 := hp.o 31 rfl
   have e32 := hp.o 32 rfl
   rcases boolEq ((((((((r_13.2 == 0) && (r_15.2 == 0)) && (r_17.2.2 == 0)) && (r_20.2 == 0)) && (r_21.2 == 0)) && (r_13.1 == 5)) && (r_15.1.Lo == r_22.Lo && r_15.1.Hi == r_22.Hi)) && (r_17.1 == 5)) with hb | hb
   ·have hf := he.h0.mP he 42 rfl e31
    replace hf := castB hb hf
    replace hf := hf.more he 43 rfl (onP e32)
    replace hf := castCT hb hf
    refine sp 1 hf rfl fun a hf => ?_
    replace hf := castI (u := undef) hb hf
    exact zD θ he hi hf 44 rfl rfl rfl hc
   ·have hf := he.h0.mP he 42 rfl e31
    replace hf := castB hb hf
    replace hf := hf.more he 43 rfl (onP e32)
    replace hf := castCF hb hf
    refine stS hf rfl rfl rfl fun a hf => ?_
    replace hf := castJ (u := .bool (r_17.2.1 == (-1))) hb hf
    exact zD θ he hi hf 44 rfl rfl rfl hc
  ·intro E θ a w hD hi hp he hc
   have e31 := hp.o 31 rfl
   have e33 := hp.o 33 rfl
   rcases boolEq ((((((((r_13.2 == 0) && (r_15.2 == 0)) && (r_17.2.2 == 0)) && (r_20.2 == 0)) && (r_21.2 == 0)) && (r_13.1 == 5)) && (r_15.1.Lo == r_22.Lo && r_15.1.Hi == r_22.Hi)) && (r_17.1 == 5)) with hb | hb
   ·have hf := he.h0.mP he 42 rfl e31
    replace hf := castB hb hf
    replace hf := hf.more he 44 rfl (onP e33)
    replace hf := castCT hb hf
    refine sp 1 hf rfl fun a hf => ?_
    replace hf := castV (v' := .bool (((((((((r_13.2 == 0) && (r_15.2 == 0)) && (r_17.2.2 == 0)) && (r_20.2 == 0)) && (r_21.2 == 0)) && (r_13.1 == 5)) && (r_15.1.Lo == r_22.Lo && r_15.1.Hi == r_22.Hi)) && (r_17.1 == 5)) && (r_17.2.1 == (-1)))) (congrArg Value.bool (andT hb)) hf
    exact zD θ he hi hf 45 rfl rfl rfl hc
   ·have hf := he.h0.mP he 42 rfl e31
    replace hf := castB hb hf
    replace hf := hf.more he 44 rfl (onP e33)
    replace hf := castCF hb hf
    refine sp 1 hf rfl fun a hf => ?_
    replace hf := castV (v' := .bool (((((((((r_13.2 == 0) && (r_15.2 == 0)) && (r_17.2.2 == 0)) && (r_20.2 == 0)) && (r_21.2 == 0)) && (r_13.1 == 5)) && (r_15.1.Lo == r_22.Lo && r_15.1.Hi == r_22.Hi)) && (r_17.1 == 5)) && (r_17.2.1 == (-1)))) (congrArg Value.bool (andF hb)) hf
    exact zD θ he hi hf 45 rfl rfl rfl hc
  ·intro E θ a w hD hi hp he hc
   have e34 := hp.o 34 rfl
   have hf := he.h0.mP he 45 rfl e34
   refine sp 1 hf rfl fun a hf => zD θ he hi hf 46 rfl rfl rfl hc
  ·intro E θ a w hD hi hp he hc
   have e35 := hp.o 35 rfl
   rcases boolEq (((((((((r_13.2 == 0) && (r_15.2 == 0)) && (r_17.2.2 == 0)) && (r_20.2 == 0)) && (r_21.2 == 0)) && (r_13.1 == 5)) && (r_15.1.Lo == r_22.Lo && r_15.1.Hi == r_22.Hi)) && (r_17.1 == 5)) && (r_17.2.1 == (-1))) with hb | hb
   ·have hf := (he.h0.mT he 9 rfl).mP he 46 rfl e35
    replace hf := castB hb hf
    refine sp 1 hf rfl fun a hf => ?_
    replace hf := castI (u := undef) hb hf
    exact zD θ he hi hf 47 rfl rfl rfl hc
   ·have hf := (he.h0.mT he 9 rfl).mP he 46 rfl e35
    replace hf := castB hb hf
    refine stS hf rfl rfl rfl fun a hf => ?_
    replace hf := castJ (u := .slice p_17 r_20.1.length c_11) hb hf
    exact zD θ he hi hf 47 rfl rfl rfl hc
  ·intro E θ a w hD hi hp he hc
   have e35 := hp.o 35 rfl
   try dsimp only at hc
   rw [hi] at hc
   rcases boolEq (((((((((r_13.2 == 0) && (r_15.2 == 0)) && (r_17.2.2 == 0)) && (r_20.2 == 0)) && (r_21.2 == 0)) && (r_13.1 == 5)) && (r_15.1.Lo == r_22.Lo && r_15.1.Hi == r_22.Hi)) && (r_17.1 == 5)) && (r_17.2.1 == (-1))) with hb | hb
   ·have hf := he.h0.mP he 46 rfl e35
    replace hf := castB hb hf
    refine stBS (rows := ([0,10,15] : List Int).map encI_i64) (vs := [(0,i6 0),(1,i6 10),(2,i6 15)]) hf hc rfl rfl sl_25 rfl ⟨rfl,rfl,rfl,rfl,rfl,rfl,rfl,rfl,rfl,trivial⟩ rfl rfl fun b_11 a w hf hc => ?_
    replace hf := castI (u := undef) hb hf
    refine cNil ?_
    refine xThenN ?_
    intro ds u hau
    replace hc := hc.drop k1
    refine ⟨(setT θ 296 ⟨b_11,none,0,(fun _ => (none,0))⟩),he.put hi hau hf rfl [] trivial ⟨qq,qq,qq,qq,qq,qq,qq,qq,qq,qq,qq,qq,qq,qq,qq,qq,qq,qq,qq,qq,qq,qq,qq,qq,qq,qq,qq,qq,qq,qq,qq,qq,qq,qq,qq,qq,qq,qq,qq,qq,qq,qq,qq,qq,qq,qq,qq,qq,qq,qq,qq,qq,qq,qq,qq,qq,trivial⟩,?_⟩
    try dsimp only
    rw [updE_self E 37]
    rw [gE_T hb]
    exact hc
   ·have hf := he.h0.mP he 46 rfl e35
    replace hf := castB hb hf
    refine stS hf rfl rfl rfl fun a hf => ?_
    replace hf := castJ (u := .slice (some ⟨(θ 296).b,0,none⟩) 3 3) hb hf
    refine zD θ he hi hf 48 rfl rfl rfl ?_
    try dsimp only
    rw [updE_self E 37]
    rw [gE_F hb]
    exact hc
  ·intro E θ a w hD hi hp he hc
   have e35 := hp.o 35 rfl
   have e36 := hp.o 36 rfl
   have e37 := hp.o 37 rfl
   try dsimp only at hc
   rw [e37] at hc
   rcases boolEq (((((((((r_13.2 == 0) && (r_15.2 == 0)) && (r_17.2.2 == 0)) && (r_20.2 == 0)) && (r_21.2 == 0)) && (r_13.1 == 5)) && (r_15.1.Lo == r_22.Lo && r_15.1.Hi == r_22.Hi)) && (r_17.1 == 5)) && (r_17.2.1 == (-1))) with hb | hb
   ·have hf := he.h0.mP he 46 rfl e35
    replace hf := castB hb hf
    replace hf := hf.more he 47 rfl (onP e36)
    replace hf := castCT hb hf
    replace hf := hf.more he 48 rfl (onP e37)
    replace hf := castCT hb hf
    rw [gE_T hb] at hc
    refine zQ (v := .bool r_23) hf hc en_29 rfl (fun w hc => by obtain ⟨G1,hle1,hrd1,hc,hth1⟩ := lend hc k3; obtain ⟨G2,hle2,hrd2,hc,hth2⟩ := lend hc k0; exact (kit_Same_int_ok r_20.1 ([0,10,15] : List Int) (hrd1.mono hle2) hrd2 hc (condT hb hr_23)).mono fun e w h => ⟨h.1,((hth1 _ _ ((hth2 _ _ h.2).unpick k0)).unpick k3)⟩) fun a w hf hc => ?_
    replace hf := castI (u := undef) hb hf
    refine zD θ he hi hf 49 rfl rfl rfl ?_
    try dsimp only
    rw [updE_tru 38 e37]
    rw [gE_T hb]
    exact hc
   ·have hf := he.h0.mP he 46 rfl e35
    replace hf := castB hb hf
    replace hf := hf.more he 47 rfl (onP e36)
    replace hf := castCF hb hf
    replace hf := hf.more he 48 rfl (onP e37)
    replace hf := castCF hb hf
    rw [gE_F hb] at hc
    refine stS hf rfl rfl rfl fun a hf => ?_
    replace hf := castJ (u := .bool r_23) hb hf
    refine zD θ he hi hf 49 rfl rfl rfl ?_
    try dsimp only
    rw [updE_tru 38 e37]
    rw [gE_F hb]
    exact hc
  ·intro E θ a w hD hi hp he hc
   have e35 := hp.o 35 rfl
   have e38 := hp.o 38 rfl
   rcases boolEq (((((((((r_13.2 == 0) && (r_15.2 == 0)) && (r_17.2.2 == 0)) && (r_20.2 == 0)) && (r_21.2 == 0)) && (r_13.1 == 5)) && (r_15.1.Lo == r_22.Lo && r_15.1.Hi == r_22.Hi)) && (r_17.1 == 5)) && (r_17.2.1 == (-1))) with hb | hb
   ·have hf := he.h0.mP he 46 rfl e35
    replace hf := castB hb hf
    replace hf := hf.more he 49 rfl (onP e38)
    replace hf := castCT hb hf
    refine sp 1 hf rfl fun a hf => ?_
    replace hf := castV (v' := .bool ((((((((((r_13.2 == 0) && (r_15.2 == 0)) && (r_17.2.2 == 0)) && (r_20.2 == 0)) && (r_21.2 == 0)) && (r_13.1 == 5)) && (r_15.1.Lo == r_22.Lo && r_15.1.Hi == r_22.Hi)) && (r_17.1 == 5)) && (r_17.2.1 == (-1))) && r_23)) (congrArg Value.bool (andT hb)) hf
    exact zD θ he hi hf 50 rfl rfl rfl hc
   ·have hf := he.h0.mP he 46 rfl e35
    replace hf := castB hb hf
    replace hf := hf.more he 49 rfl (onP e38)
    replace hf := castCF hb hf
    refine sp 1 hf rfl fun a hf => ?_
    replace hf := castV (v' := .bool ((((((((((r_13.2 == 0) && (r_15.2 == 0)) && (r_17.2.2 == 0)) && (r_20.2 == 0)) && (r_21.2 == 0)) && (r_13.1 == 5)) && (r_15.1.Lo == r_22.Lo && r_15.1.Hi == r_22.Hi)) && (r_17.1 == 5)) && (r_17.2.1 == (-1))) && r_23)) (congrArg Value.bool (andF hb)) hf
    exact zD θ he hi hf 50 rfl rfl rfl hc
  ·intro E θ a w hD hi hp he hc
   have e39 := hp.o 39 rfl
   have hf := he.h0.mP he 50 rfl e39
   refine sp 1 hf rfl fun a hf => zD θ he hi hf 51 rfl rfl rfl hc
  ·intro E θ a w hD hi hp he hc
   have e40 := hp.o 40 rfl
   rcases boolEq ((((((((((r_13.2 == 0) && (r_15.2 == 0)) && (r_17.2.2 == 0)) && (r_20.2 == 0)) && (r_21.2 == 0)) && (r_13.1 == 5)) && (r_15.1.Lo == r_22.Lo && r_15.1.Hi == r_22.Hi)) && (r_17.1 == 5)) && (r_17.2.1 == (-1))) && r_23) with hb | hb
   ·have hf := (he.h0.mT he 10 rfl).mP he 51 rfl e40
    replace hf := castB hb hf
    refine sp 1 hf rfl fun a hf => ?_
    replace hf := castI (u := undef) hb hf
    exact zD θ he hi hf 52 rfl rfl rfl hc
   ·have hf := (he.h0.mT he 10 rfl).mP he 51 rfl e40
    replace hf := castB hb hf
    refine stS hf rfl rfl rfl fun a hf => ?_
    replace hf := castJ (u := i6 r_21.1) hb hf
    exact zD θ he hi hf 52 rfl rfl rfl hc
  ·intro E θ a w hD hi hp he hc
   have e40 := hp.o 40 rfl
   have e41 := hp.o 41 rfl
   rcases boolEq ((((((((((r_13.2 == 0) && (r_15.2 == 0)) && (r_17.2.2 == 0)) && (r_20.2 == 0)) && (r_21.2 == 0)) && (r_13.1 == 5)) && (r_15.1.Lo == r_22.Lo && r_15.1.Hi == r_22.Hi)) && (r_17.1 == 5)) && (r_17.2.1 == (-1))) && r_23) with hb | hb
   ·have hf := he.h0.mP he 51 rfl e40
    replace hf := castB hb hf
    replace hf := hf.more he 52 rfl (onP e41)
    replace hf := castCT hb hf
    refine sp 1 hf rfl fun a hf => ?_
    replace hf := castI (u := undef) hb hf
    exact zD θ he hi hf 53 rfl rfl rfl hc
   ·have hf := he.h0.mP he 51 rfl e40
    replace hf := castB hb hf
    replace hf := hf.more he 52 rfl (onP e41)
    replace hf := castCF hb hf
    refine stS hf rfl rfl rfl fun a hf => ?_
    replace hf := castJ (u := .bool (r_21.1 == 4815)) hb hf
    exact zD θ he hi hf 53 rfl rfl rfl hc
  ·intro E θ a w hD hi hp he hc
   have e40 := hp.o 40 rfl
   have e42 := hp.o 42 rfl
   rcases boolEq ((((((((((r_13.2 == 0) && (r_15.2 == 0)) && (r_17.2.2 == 0)) && (r_20.2 == 0)) && (r_21.2 == 0)) && (r_13.1 == 5)) && (r_15.1.Lo == r_22.Lo && r_15.1.Hi == r_22.Hi)) && (r_17.1 == 5)) && (r_17.2.1 == (-1))) && r_23) with hb | hb
   ·have hf := he.h0.mP he 51 rfl e40
    replace hf := castB hb hf
    replace hf := hf.more he 53 rfl (onP e42)
    replace hf := castCT hb hf
    refine sp 1 hf rfl fun a hf => ?_
    replace hf := castV (v' := .bool (((((((((((r_13.2 == 0) && (r_15.2 == 0)) && (r_17.2.2 == 0)) && (r_20.2 == 0)) && (r_21.2 == 0)) && (r_13.1 == 5)) && (r_15.1.Lo == r_22.Lo && r_15.1.Hi == r_22.Hi)) && (r_17.1 == 5)) && (r_17.2.1 == (-1))) && r_23) && (r_21.1 == 4815))) (congrArg Value.bool (andT hb)) hf
    exact zD θ he hi hf 54 rfl rfl rfl hc
   ·have hf := he.h0.mP he 51 rfl e40
    replace hf := castB hb hf
    replace hf := hf.more he 53 rfl (onP e42)
    replace hf := castCF hb hf
    refine sp 1 hf rfl fun a hf => ?_
    replace hf := castV (v' := .bool (((((((((((r_13.2 == 0) && (r_15.2 == 0)) && (r_17.2.2 == 0)) && (r_20.2 == 0)) && (r_21.2 == 0)) && (r_13.1 == 5)) && (r_15.1.Lo == r_22.Lo && r_15.1.Hi == r_22.Hi)) && (r_17.1 == 5)) && (r_17.2.1 == (-1))) && r_23) && (r_21.1 == 4815))) (congrArg Value.bool (andF hb)) hf
    exact zD θ he hi hf 54 rfl rfl rfl hc
  ·intro E θ a w hD hi hp he hc
   have e43 := hp.o 43 rfl
   have hf := he.h0.mP he 54 rfl e43
   refine sp 1 hf rfl fun a hf => zD θ he hi hf 55 rfl rfl rfl hc
  ·intro E θ a w hall he hc
   have hf := he.h0
   have e37 := hall 37 rfl
   have e44 := hall 44 rfl
   replace hf := hf.more he 55 rfl (onP e44)
   try dsimp only at hc
   rw [e37] at hc
   replace hc := hc.drop k0
   exact ⟨hf.kp rfl,hc⟩
  rintro a w ⟨hf,hc⟩
  refine h17 _ _ ?_
  refine wp_ret ?_
  obtain rfl := sj hF
  replace hc := (((((hc.drop k5).drop k4).drop k3).drop k2).drop k1).drop k0
  exact zO1 Tryz.results15 hf rfl ⟨rfl,hc⟩

def law11_CrewPlanned_b17 (N : Nat) (r_4 : (List api_Span) × Int) (r_5 : (List api_Span) × Int) (x_5 : Int) : Option (Step (Int) (Bool)) :=
 cond (decide (x_5 < ((r_4.1.length : Nat) : Int)))
 (Option.bind (getI r_4.1 x_5) fun e_1 =>
 Option.bind (getI r_5.1 x_5) fun e_2 =>
 Option.bind (cond (decide (e_2.Lo < e_1.Lo)) (some true) (Option.bind (getI r_4.1 x_5) fun e_3 =>
 Option.bind (getI r_5.1 x_5) fun e_4 =>
 some (decide (e_4.Hi < e_3.Hi)))) fun t_2 =>
 cond t_2
 (some (.ret false))
 (some (.cont (W (x_5 + 1)))))
 (some (.brk x_5))
def law11_CrewPlanned_j47 (N : Nat) (k : Int) (mine_2 : List Int) (x_9 : Int) (x_10 : Int) : Option (Step ((List Int) × Int × Int × Int) (Step ((List crew_Visit) × (List crew_Visit) × Int × Int × Int × Int × Int) (Bool))) :=
 some (.cont (mine_2,W (k - 1),x_9,x_10))
def law11_CrewPlanned_b40 (N : Nat) (others : List Int) (r_11 : gauge_Site × Int × Int) (mine_1 : List Int) (k : Int) (x_7 : Int) (x_8 : Int) : Option (Step ((List Int) × Int × Int × Int) (Step ((List crew_Visit) × (List crew_Visit) × Int × Int × Int × Int × Int) (Bool))) :=
 cond (decide (0 ≤ k))
 (Option.bind (kit_Copy_int N mine_1) fun r_16 =>
 Option.bind (slices_Delete_Lint_int N r_16 k (W (k + 1))) fun r_17 =>
 Option.bind (gauge_Cost N (⟨r_11.1.Left,r_11.1.Right,50,100,r_11.1.Points⟩ : gauge_Site) r_17) fun r_18 =>
 Option.bind (cond (r_18.2 == 0) (Option.bind (kit_Stream_Next N (⟨others,x_7,x_8⟩ : kit_Stream) 2) fun r_19 =>
 some ((r_19.1 == 0),r_19.2.1,r_19.2.2)) (some (false,x_7,x_8))) fun t_3 =>
 cond t_3.1
 (law11_CrewPlanned_j47 N k r_17 t_3.2.1 t_3.2.2)
 (law11_CrewPlanned_j47 N k mine_1 t_3.2.1 t_3.2.2))
 (some (.brk (mine_1,k,x_7,x_8)))
def law11_CrewPlanned_b37 (N : Nat) (r_11 : gauge_Site × Int × Int) (mine : List Int) (x_6 : Int) : Option (Step ((List Int) × Int) (Step ((List crew_Visit) × (List crew_Visit) × Int × Int × Int × Int × Int) (Bool))) :=
 cond (decide (x_6 < ((r_11.1.Points.length : Nat) : Int)))
 (Option.bind (room ((mine ++ [W (x_6 + 1)])).length) fun un =>
 some (.cont ((mine ++ [W (x_6 + 1)]),W (x_6 + 1))))
 (some (.brk (mine,x_6)))
def law11_CrewPlanned_b7 (N : Nat) (numbers : List Int) (others : List Int) (r_2 : (List crew_Visit) × Int × Int) (tour : List crew_Visit) (slow : List crew_Visit) (x : Int) (x_1 : Int) (x_2 : Int) (x_3 : Int) (x_4 : Int) : Option (Step ((List crew_Visit) × (List crew_Visit) × Int × Int × Int × Int × Int) (Bool)) :=
 cond (decide (x < ((r_2.1.length : Nat) : Int)))
 (Option.bind (law03_Sited N (⟨numbers,x_1,x_2⟩ : kit_Stream) 8) fun r_11 =>
 Option.bind (gauge_Plan N (⟨r_11.1.Left,r_11.1.Right,50,100,r_11.1.Points⟩ : gauge_Site)) fun r_12 =>
 Option.bind (loopO (fun s37 => law11_CrewPlanned_b37 N r_11 s37.1 s37.2) N (([] : List Int),0)) fun x37 =>
 exK x37 (fun s37 => Option.bind (loopO (fun s40 => law11_CrewPlanned_b40 N others r_11 s40.1 s40.2.1 s40.2.2.1 s40.2.2.2) N (s37.1,W (((s37.1.length : Nat) : Int) - 1),x_3,x_4)) fun x40 =>
 exK x40 (fun s40 => Option.bind (gauge_Cost N (⟨r_11.1.Left,r_11.1.Right,50,100,r_11.1.Points⟩ : gauge_Site) s40.1) fun r_13 =>
 cond ((((r_12.2.2 != 0) || (r_13.2 != 0)) || (decide (r_13.1 < r_12.2.1))) || (decide (r_12.2.1 < 0)))
 (some (.ret false))
 (Option.bind (law11_span N r_12.2.1 r_12.2.1) fun r_14 =>
 Option.bind (law11_span N r_13.1 r_13.1) fun r_15 =>
 Option.bind (getI tour x) fun e_5 =>
 Option.bind (getI slow x) fun e_6 =>
 some (.cont ((tour.set x.toNat (⟨e_5.Way,r_14,e_5.Open,e_5.Close⟩ : crew_Visit)),(slow.set x.toNat (⟨e_6.Way,r_15,e_6.Open,e_6.Close⟩ : crew_Visit)),W (x + 1),r_11.2.1,r_11.2.2,s40.2.2.1,s40.2.2.2)))) some) some)
 (some (.brk (tour,slow,x,x_1,x_2,x_3,x_4)))
def law11_CrewPlanned (N : Nat) (numbers : List Int) (others : List Int) (at_ : Int) : Option (Bool) :=
 Option.bind (kit_New N numbers) fun r =>
 Option.bind (kit_New N others) fun r_1 =>
 Option.bind (law11_Toured N (⟨numbers,r.1,r.2⟩ : kit_Stream) 5) fun r_2 =>
 Option.bind (kit_Copy_crew_Visit N r_2.1) fun r_3 =>
 Option.bind (loopO (fun s7 => law11_CrewPlanned_b7 N numbers others r_2 s7.1 s7.2.1 s7.2.2.1 s7.2.2.2.1 s7.2.2.2.2.1 s7.2.2.2.2.2.1 s7.2.2.2.2.2.2) N (r_2.1,r_3,0,r_2.2.1,r_2.2.2,r_1.1,r_1.2)) fun x7 =>
 exK x7 (fun s7 => Option.bind (crew_Hours N (W (at_)) s7.1) fun r_4 =>
 Option.bind (crew_Hours N (W (at_)) s7.2.1) fun r_5 =>
 Option.bind (crew_Late N (W (at_)) s7.1) fun r_6 =>
 Option.bind (crew_Late N (W (at_)) s7.2.1) fun r_7 =>
 cond ((((((r_4.2 != 0) || (r_5.2 != 0)) || (r_6.2.2 != 0)) || (r_7.2.2 != 0)) || (((r_4.1.length : Nat) : Int) != ((r_5.1.length : Nat) : Int))) || ((r_7.1 == (-1)) && (r_6.1 != (-1))))
 (some false)
 (Option.bind (loopO (fun s17 => law11_CrewPlanned_b17 N r_4 r_5 s17) N 0) fun x17 =>
 exK x17 (fun s17 => Option.bind (crew_Latest N s7.1) fun r_8 =>
 Option.bind (crew_Latest N s7.2.1) fun r_9 =>
 Option.bind (cond ((((r_9.2 != 0) || ((r_8.2 == 0) && (decide (r_9.1 ≤ r_8.1)))) && ((r_8.2 == 0) || (r_8.2 == 5))) && ((r_9.2 == 0) || (r_9.2 == 5))) (Option.bind (law11_awake N) fun r_10 =>
 some r_10) (some false)) fun t_1 =>
 some t_1) some)) some
theorem law11_CrewPlanned_ok {N : Nat} {G : Pers} {Lf : List Ent} {w : World} (numbers : List Int) (others : List Int) (at_ : Int) {numbers_p : Option Addr} {numbers_c : Nat} {others_p : Option Addr} {others_c : Nat} (h_numbers : Rd G 1 numbers_p numbers_c (numbers.map encI_u8)) (h_others : Rd G 1 others_p others_c (others.map encI_u8)) (hc : Ctx G (Lf) w) {res : Bool} (hF : law11_CrewPlanned N numbers others at_ = some res) : Calls Tryz.prog 14 #[.slice numbers_p numbers.length numbers_c,.slice others_p others.length others_c,.int .u8 at_] w (fun e w => e = .returned (.bool res) ∧ Ctx G (Lf) w) := by
 unfold law11_CrewPlanned at hF
 refine fnIn Tryz.func14 rfl Tryz.ntmps14 rfl fun a hf => zS fun K h => sp 1 hf rfl fun a hf => zT h ?_
 refine zS fun K h => sp 1 hf rfl fun a hf => ?_
 obtain ⟨r,hr,hF⟩ := bnd_some hF
 refine zC hf en_42 rfl (kit_New_ok numbers h_numbers hc hr) ?_
 rintro _ w ⟨b_1,rfl,hc⟩
 refine ⟨_,rfl,fun a hf => ?_⟩
 refine sp 1 hf rfl fun a hf => ?_
 obtain ⟨r_1,hr_1,hF⟩ := bnd_some hF
 refine zC hf en_42 rfl (kit_New_ok others h_others hc hr_1) ?_
 rintro _ w ⟨b_2,rfl,hc⟩
 refine ⟨_,rfl,fun a hf => ?_⟩
 refine sp 2 hf rfl fun a hf => zT h ?_
 refine zS fun K h => sp 1 hf rfl fun a hf => ?_
 obtain ⟨r_2,hr_2,hF⟩ := bnd_some hF
 refine zC hf en_49 rfl (law11_Toured_ok (⟨numbers,r.1,r.2⟩ : kit_Stream) 5 h_numbers (hc.pick k1) hr_2) ?_
 rintro _ w ⟨p_1,c_1,rfl,hc⟩
 refine ⟨_,rfl,fun a hf => ?_⟩
 refine sp 1 hf rfl fun a hf => zT h ?_
 refine zS fun K h => sp 1 hf rfl fun a hf => ?_
 obtain ⟨r_3,hr_3,hF⟩ := bnd_some hF
 obtain ⟨G1,hle1,hrd1,hc,hth1⟩ := lend hc k0
 refine zC hf en_16 rfl (kit_Copy_crew_Visit_ok r_2.1 hrd1 hc hr_3) ?_
 rintro _ w ⟨p_2,c_2,rfl,hc⟩
 refine ⟨_,rfl,fun a hf => ?_⟩
 replace hc := hth1 _ _ hc
 refine sp 1 hf rfl fun a hf => zT h ?_
 refine wp_seq_k fun K5 h5 => zS fun K h => sp 1 hf rfl fun a hf => zP hf rfl (pLenS Tryz.underlying22 rfl) fun a hf => sp 1 hf rfl fun a hf => zT h ?_
 refine wp_block ?_
 obtain ⟨x7,hx7,hF⟩ := bnd_some hF
 let S7 : ((List crew_Visit) × (List crew_Visit) × Int × Int × Int × Int × Int) → Act → World → Prop := (fun (zz : (List crew_Visit) × (List crew_Visit) × Int × Int × Int × Int × Int) a w => ∃ (p_3 : Option Addr) (c_3 : Nat) (p_4 : Option Addr) (c_4 : Nat),Has 264 a [(2,.int .u8 at_),(7,pq b_1),(8,pq b_2),(9,.slice p_3 zz.1.length c_3),(10,.slice p_4 zz.2.1.length c_4),(46,i6 ((r_2.1.length : Nat) : Int)),(47,i6 zz.2.2.1)] ∧ Ctx G (.row p_3 c_3 (zz.1.map enc_crew_Visit) 31 6::.row p_4 c_4 (zz.2.1.map enc_crew_Visit) 31 6::.box b_1 [.slice numbers_p numbers.length numbers_c,i6 zz.2.2.2.1,i6 zz.2.2.2.2.1] 165::.box b_2 [.slice others_p others.length others_c,i6 zz.2.2.2.2.2.1,i6 zz.2.2.2.2.2.2] 165::Lf) w)
 have hr7 : ∀ (zz : (List crew_Visit) × (List crew_Visit) × Int × Int × Int × Int × Int) a w,x7 = .go zz → S7 zz a w → K5 a w := by
  rintro ⟨tour,slow,x,x_1,x_2,x_3,x_4⟩ a w rfl ⟨p_3,c_3,p_4,c_4,hf,hc⟩
  replace hF := exK_go hF
  refine h5 _ _ ?_
  refine zS fun K h => sp 1 hf rfl fun a hf => zP hf rfl (pCv Tryz.underlying5 Tryz.underlying3 rfl) fun a hf => sp 1 hf rfl fun a hf => ?_
  obtain ⟨r_4,hr_4,hF⟩ := bnd_some hF
  obtain ⟨G1,hle1,hrd1,hc,hth1⟩ := lend hc k0
  refine zC hf en_18 rfl (crew_Hours_ok (W (at_)) tour hrd1 hc hr_4) ?_
  rintro _ w ⟨p_5,c_5,rfl,hc⟩
  refine ⟨_,rfl,fun a hf => ?_⟩
  replace hc := hth1 _ _ hc
  refine sp 5 hf rfl fun a hf => zT h ?_
  refine zS fun K h => sp 1 hf rfl fun a hf => zP hf rfl (pCv Tryz.underlying5 Tryz.underlying3 rfl) fun a hf => sp 1 hf rfl fun a hf => ?_
  obtain ⟨r_5,hr_5,hF⟩ := bnd_some hF
  obtain ⟨G1,hle1,hrd1,hc,hth1⟩ := lend hc k2
  refine zC hf en_18 rfl (crew_Hours_ok (W (at_)) slow hrd1 hc hr_5) ?_
  rintro _ w ⟨p_6,c_6,rfl,hc⟩
  refine ⟨_,rfl,fun a hf => ?_⟩
  replace hc := hth1 _ _ hc
  refine sp 5 hf rfl fun a hf => zT h ?_
  refine zS fun K h => sp 1 hf rfl fun a hf => zP hf rfl (pCv Tryz.underlying5 Tryz.underlying3 rfl) fun a hf => sp 1 hf rfl fun a hf => ?_
  obtain ⟨r_6,hr_6,hF⟩ := bnd_some hF
  refine zQ (v := .tuple #[i6 r_6.1,i6 r_6.2.1,i6 r_6.2.2]) hf hc en_22 rfl (fun w hc => by obtain ⟨G1,hle1,hrd1,hc,hth1⟩ := lend hc k2; exact (crew_Late_ok (W (at_)) tour hrd1 hc hr_6).mono fun e w h => ⟨h.1,((hth1 _ _ h.2).unpick k2)⟩) fun a w hf hc => sp 7 hf rfl fun a hf => zT h ?_
  refine zS fun K h => sp 1 hf rfl fun a hf => zP hf rfl (pCv Tryz.underlying5 Tryz.underlying3 rfl) fun a hf => sp 1 hf rfl fun a hf => ?_
  obtain ⟨r_7,hr_7,hF⟩ := bnd_some hF
  refine zQ (v := .tuple #[i6 r_7.1,i6 r_7.2.1,i6 r_7.2.2]) hf hc en_22 rfl (fun w hc => by obtain ⟨G1,hle1,hrd1,hc,hth1⟩ := lend hc k0; exact (crew_Late_ok (W (at_)) slow hrd1 hc hr_7).mono fun e w h => ⟨h.1,((hth1 _ _ h.2).unpick k0)⟩) fun a w hf hc => sp 7 hf rfl fun a hf => zT h ?_
  refine wp_seq_k fun K12 h12 => zS fun K h => sp 3 hf rfl fun a hf => stCc 3 (fun a => Has 264 a [(9,.slice p_3 tour.length c_3),(10,.slice p_4 slow.length c_4),(24,.slice p_5 r_4.1.length c_5),(25,i6 r_4.2),(26,.slice p_6 r_5.1.length c_6),(27,i6 r_5.2),(28,i6 r_6.1),(30,i6 r_6.2.2),(31,i6 r_7.1),(33,i6 r_7.2.2),(165,i6 r_4.2),(166,.bool (r_4.2 != 0)),(167,.bool (r_4.2 != 0)),(170,.bool ((r_4.2 != 0) || (r_5.2 != 0)))]) hc ?_ ?_
  ·cases hb : (r_4.2 != 0)
   ·rw [hb] at hf
    refine sp 3 hf rfl fun a hf => cNil ⟨hf.kp rfl,hc⟩
   ·rw [hb] at hf
    refine stS hf rfl rfl rfl fun a hf => stS hf rfl rfl rfl fun a hf => sp 1 hf rfl fun a hf => cNil ⟨hf.kp rfl,hc⟩
  intro a w ⟨hf,hc⟩
  refine sp 1 hf rfl fun a hf => stCc 3 (fun a => Has 264 a [(9,.slice p_3 tour.length c_3),(10,.slice p_4 slow.length c_4),(24,.slice p_5 r_4.1.length c_5),(25,i6 r_4.2),(26,.slice p_6 r_5.1.length c_6),(27,i6 r_5.2),(28,i6 r_6.1),(30,i6 r_6.2.2),(31,i6 r_7.1),(33,i6 r_7.2.2),(165,i6 r_4.2),(166,.bool (r_4.2 != 0)),(167,.bool (r_4.2 != 0)),(170,.bool ((r_4.2 != 0) || (r_5.2 != 0))),(171,.bool ((r_4.2 != 0) || (r_5.2 != 0))),(174,.bool (((r_4.2 != 0) || (r_5.2 != 0)) || (r_6.2.2 != 0)))]) hc ?_ ?_
  ·cases hb : ((r_4.2 != 0) || (r_5.2 != 0))
   ·rw [hb] at hf
    refine sp 3 hf rfl fun a hf => cNil ⟨hf.kp rfl,hc⟩
   ·rw [hb] at hf
    refine stS hf rfl rfl rfl fun a hf => stS hf rfl rfl rfl fun a hf => sp 1 hf rfl fun a hf => cNil ⟨hf.kp rfl,hc⟩
  intro a w ⟨hf,hc⟩
  refine sp 1 hf rfl fun a hf => stCc 3 (fun a => Has 264 a [(9,.slice p_3 tour.length c_3),(10,.slice p_4 slow.length c_4),(24,.slice p_5 r_4.1.length c_5),(25,i6 r_4.2),(26,.slice p_6 r_5.1.length c_6),(27,i6 r_5.2),(28,i6 r_6.1),(30,i6 r_6.2.2),(31,i6 r_7.1),(33,i6 r_7.2.2),(165,i6 r_4.2),(166,.bool (r_4.2 != 0)),(167,.bool (r_4.2 != 0)),(170,.bool ((r_4.2 != 0) || (r_5.2 != 0))),(171,.bool ((r_4.2 != 0) || (r_5.2 != 0))),(174,.bool (((r_4.2 != 0) || (r_5.2 != 0)) || (r_6.2.2 != 0))),(175,.bool (((r_4.2 != 0) || (r_5.2 != 0)) || (r_6.2.2 != 0))),(178,.bool ((((r_4.2 != 0) || (r_5.2 != 0)) || (r_6.2.2 != 0)) || (r_7.2.2 != 0)))]) hc ?_ ?_
  ·cases hb : (((r_4.2 != 0) || (r_5.2 != 0)) || (r_6.2.2 != 0))
   ·rw [hb] at hf
    refine sp 3 hf rfl fun a hf => cNil ⟨hf.kp rfl,hc⟩
   ·rw [hb] at hf
    refine stS hf rfl rfl rfl fun a hf => stS hf rfl rfl rfl fun a hf => sp 1 hf rfl fun a hf => cNil ⟨hf.kp rfl,hc⟩
  intro a w ⟨hf,hc⟩
  refine sp 1 hf rfl fun a hf => stCc 6 (fun a => Has 264 a [(9,.slice p_3 tour.length c_3),(10,.slice p_4 slow.length c_4),(24,.slice p_5 r_4.1.length c_5),(25,i6 r_4.2),(26,.slice p_6 r_5.1.length c_6),(27,i6 r_5.2),(28,i6 r_6.1),(30,i6 r_6.2.2),(31,i6 r_7.1),(33,i6 r_7.2.2),(165,i6 r_4.2),(166,.bool (r_4.2 != 0)),(167,.bool (r_4.2 != 0)),(170,.bool ((r_4.2 != 0) || (r_5.2 != 0))),(171,.bool ((r_4.2 != 0) || (r_5.2 != 0))),(174,.bool (((r_4.2 != 0) || (r_5.2 != 0)) || (r_6.2.2 != 0))),(175,.bool (((r_4.2 != 0) || (r_5.2 != 0)) || (r_6.2.2 != 0))),(178,.bool ((((r_4.2 != 0) || (r_5.2 != 0)) || (r_6.2.2 != 0)) || (r_7.2.2 != 0))),(179,.bool ((((r_4.2 != 0) || (r_5.2 != 0)) || (r_6.2.2 != 0)) || (r_7.2.2 != 0))),(185,.bool (((((r_4.2 != 0) || (r_5.2 != 0)) || (r_6.2.2 != 0)) || (r_7.2.2 != 0)) || (((r_4.1.length : Nat) : Int) != ((r_5.1.length : Nat) : Int))))]) hc ?_ ?_
  ·cases hb : ((((r_4.2 != 0) || (r_5.2 != 0)) || (r_6.2.2 != 0)) || (r_7.2.2 != 0))
   ·rw [hb] at hf
    refine sp 1 hf rfl fun a hf => zP hf rfl (pLenS Tryz.underlying33 rfl) fun a hf => sp 1 hf rfl fun a hf => zP hf rfl (pLenS Tryz.underlying33 rfl) fun a hf => sp 2 hf rfl fun a hf => cNil ⟨hf.kp rfl,hc⟩
   ·rw [hb] at hf
    refine stS hf rfl rfl rfl fun a hf => stS hf rfl rfl rfl fun a hf => stS hf rfl rfl rfl fun a hf => stS hf rfl rfl rfl fun a hf => stS hf rfl rfl rfl fun a hf => sp 1 hf rfl fun a hf => cNil ⟨hf.kp rfl,hc⟩
  intro a w ⟨hf,hc⟩
  refine sp 1 hf rfl fun a hf => stCc 7 (fun a => Has 264 a [(9,.slice p_3 tour.length c_3),(10,.slice p_4 slow.length c_4),(24,.slice p_5 r_4.1.length c_5),(25,i6 r_4.2),(26,.slice p_6 r_5.1.length c_6),(27,i6 r_5.2),(28,i6 r_6.1),(30,i6 r_6.2.2),(31,i6 r_7.1),(33,i6 r_7.2.2),(165,i6 r_4.2),(166,.bool (r_4.2 != 0)),(167,.bool (r_4.2 != 0)),(170,.bool ((r_4.2 != 0) || (r_5.2 != 0))),(171,.bool ((r_4.2 != 0) || (r_5.2 != 0))),(174,.bool (((r_4.2 != 0) || (r_5.2 != 0)) || (r_6.2.2 != 0))),(175,.bool (((r_4.2 != 0) || (r_5.2 != 0)) || (r_6.2.2 != 0))),(178,.bool ((((r_4.2 != 0) || (r_5.2 != 0)) || (r_6.2.2 != 0)) || (r_7.2.2 != 0))),(179,.bool ((((r_4.2 != 0) || (r_5.2 != 0)) || (r_6.2.2 != 0)) || (r_7.2.2 != 0))),(185,.bool (((((r_4.2 != 0) || (r_5.2 != 0)) || (r_6.2.2 != 0)) || (r_7.2.2 != 0)) || (((r_4.1.length : Nat) : Int) != ((r_5.1.length : Nat) : Int)))),(186,.bool (((((r_4.2 != 0) || (r_5.2 != 0)) || (r_6.2.2 != 0)) || (r_7.2.2 != 0)) || (((r_4.1.length : Nat) : Int) != ((r_5.1.length : Nat) : Int)))),(193,.bool ((((((r_4.2 != 0) || (r_5.2 != 0)) || (r_6.2.2 != 0)) || (r_7.2.2 != 0)) || (((r_4.1.length : Nat) : Int) != ((r_5.1.length : Nat) : Int))) || ((r_7.1 == (-1)) && (r_6.1 != (-1)))))]) hc ?_ ?_
  ·cases hb : (((((r_4.2 != 0) || (r_5.2 != 0)) || (r_6.2.2 != 0)) || (r_7.2.2 != 0)) || (((r_4.1.length : Nat) : Int) != ((r_5.1.length : Nat) : Int)))
   ·rw [hb] at hf
    refine sp 3 hf rfl fun a hf => stCc 3 (fun a => Has 264 a [(9,.slice p_3 tour.length c_3),(10,.slice p_4 slow.length c_4),(24,.slice p_5 r_4.1.length c_5),(25,i6 r_4.2),(26,.slice p_6 r_5.1.length c_6),(27,i6 r_5.2),(28,i6 r_6.1),(30,i6 r_6.2.2),(31,i6 r_7.1),(33,i6 r_7.2.2),(165,i6 r_4.2),(166,.bool (r_4.2 != 0)),(167,.bool (r_4.2 != 0)),(170,.bool ((r_4.2 != 0) || (r_5.2 != 0))),(171,.bool ((r_4.2 != 0) || (r_5.2 != 0))),(174,.bool (((r_4.2 != 0) || (r_5.2 != 0)) || (r_6.2.2 != 0))),(175,.bool (((r_4.2 != 0) || (r_5.2 != 0)) || (r_6.2.2 != 0))),(178,.bool ((((r_4.2 != 0) || (r_5.2 != 0)) || (r_6.2.2 != 0)) || (r_7.2.2 != 0))),(179,.bool ((((r_4.2 != 0) || (r_5.2 != 0)) || (r_6.2.2 != 0)) || (r_7.2.2 != 0))),(185,.bool false),(186,.bool false),(187,i6 r_7.1),(188,.bool (r_7.1 == (-1))),(189,.bool (r_7.1 == (-1))),(192,.bool ((r_7.1 == (-1)) && (r_6.1 != (-1))))]) hc ?_ ?_
    ·cases hb : (r_7.1 == (-1))
     ·rw [hb] at hf
      refine stS hf rfl rfl rfl fun a hf => stS hf rfl rfl rfl fun a hf => sp 1 hf rfl fun a hf => cNil ⟨hf.kp rfl,hc⟩
     ·rw [hb] at hf
      refine sp 3 hf rfl fun a hf => cNil ⟨hf.kp rfl,hc⟩
    intro a w ⟨hf,hc⟩
    refine sp 1 hf rfl fun a hf => cNil ⟨hf.kp rfl,hc⟩
   ·rw [hb] at hf
    refine stS hf rfl rfl rfl fun a hf => stS hf rfl rfl rfl fun a hf => stS hf rfl rfl rfl fun a hf => stS hf rfl rfl rfl fun a hf => stS hf rfl rfl rfl fun a hf => stS hf rfl rfl rfl fun a hf => sp 1 hf rfl fun a hf => cNil ⟨hf.kp rfl,hc⟩
  intro a w ⟨hf,hc⟩
  refine zT h ?_
  refine zI hf rfl hF ?_ ?_ <;> clear hF <;> intro hF
  ·refine zS fun K h => sp 1 hf rfl fun a hf => zT h ?_
   refine wp_ret ?_
   refine xThenR ?_
   obtain rfl := sj hF
   replace hc := (((((hc.drop k5).drop k4).drop k3).drop k2).drop k1).drop k0
   exact zO1 Tryz.results14 hf rfl ⟨rfl,hc⟩
  ·refine wp_skip ?_
   refine h12 _ _ ?_
   refine wp_seq_k fun K15 h15 => zS fun K h => sp 1 hf rfl fun a hf => zP hf rfl (pLenS Tryz.underlying33 rfl) fun a hf => sp 1 hf rfl fun a hf => zT h ?_
   refine wp_block ?_
   obtain ⟨x17,hx17,hF⟩ := bnd_some hF
   let S17 : Int → Act → World → Prop := (fun (zz : Int) a w => ∃ (p_7 : Option Addr) (c_7 : Nat) (p_8 : Option Addr) (c_8 : Nat),Has 264 a [(9,.slice p_3 tour.length c_3),(10,.slice p_4 slow.length c_4),(24,.slice p_7 r_4.1.length c_7),(26,.slice p_8 r_5.1.length c_8),(195,i6 ((r_4.1.length : Nat) : Int)),(196,i6 zz)] ∧ Ctx G (.row p_4 c_4 (slow.map enc_crew_Visit) 31 6::.row p_8 c_8 (r_5.1.map enc_api_Span) 29 2::.row p_3 c_3 (tour.map enc_crew_Visit) 31 6::.row p_7 c_7 (r_4.1.map enc_api_Span) 29 2::Lf) w)
   have hr17 : ∀ (zz : Int) a w,x17 = .go zz → S17 zz a w → K15 a w := by
    rintro x_5 a w rfl ⟨p_7,c_7,p_8,c_8,hf,hc⟩
    replace hF := exK_go hF
    refine h15 _ _ ?_
    refine zS fun K h => sp 1 hf rfl fun a hf => ?_
    obtain ⟨r_8,hr_8,hF⟩ := bnd_some hF
    refine zQ (v := .tuple #[i6 r_8.1,i6 r_8.2]) hf hc en_24 rfl (fun w hc => by obtain ⟨G1,hle1,hrd1,hc,hth1⟩ := lend hc k2; exact (crew_Latest_ok tour hrd1 hc hr_8).mono fun e w h => ⟨h.1,((hth1 _ _ h.2).unpick k2)⟩) fun a w hf hc => sp 5 hf rfl fun a hf => zT h ?_
    refine zS fun K h => sp 1 hf rfl fun a hf => ?_
    obtain ⟨r_9,hr_9,hF⟩ := bnd_some hF
    refine zQ (v := .tuple #[i6 r_9.1,i6 r_9.2]) hf hc en_24 rfl (fun w hc => by obtain ⟨G1,hle1,hrd1,hc,hth1⟩ := lend hc k0; exact (crew_Latest_ok slow hrd1 hc hr_9).mono fun e w h => ⟨h.1,((hth1 _ _ h.2).unpick k0)⟩) fun a w hf hc => sp 5 hf rfl fun a hf => zT h ?_
    refine zS fun K h => sp 3 hf rfl fun a hf => stCc 8 (fun a => Has 264 a [(35,i6 r_8.1),(25,i6 r_8.2),(36,i6 r_9.1),(27,i6 r_9.2),(234,i6 r_9.2),(235,.bool (r_9.2 != 0)),(236,.bool (r_9.2 != 0)),(244,.bool ((r_9.2 != 0) || ((r_8.2 == 0) && (decide (r_9.1 ≤ r_8.1)))))]) hc ?_ ?_
    ·cases hb : (r_9.2 != 0)
     ·rw [hb] at hf
      refine sp 3 hf rfl fun a hf => stCc 4 (fun a => Has 264 a [(35,i6 r_8.1),(25,i6 r_8.2),(36,i6 r_9.1),(27,i6 r_9.2),(234,i6 r_9.2),(235,.bool false),(236,.bool false),(237,i6 r_8.2),(238,.bool (r_8.2 == 0)),(239,.bool (r_8.2 == 0)),(243,.bool ((r_8.2 == 0) && (decide (r_9.1 ≤ r_8.1))))]) hc ?_ ?_
      ·cases hb : (r_8.2 == 0)
       ·rw [hb] at hf
        refine stS hf rfl rfl rfl fun a hf => stS hf rfl rfl rfl fun a hf => stS hf rfl rfl rfl fun a hf => sp 1 hf rfl fun a hf => cNil ⟨hf.kp rfl,hc⟩
       ·rw [hb] at hf
        refine sp 4 hf rfl fun a hf => cNil ⟨hf.kp rfl,hc⟩
      intro a w ⟨hf,hc⟩
      refine sp 1 hf rfl fun a hf => cNil ⟨hf.kp rfl,hc⟩
     ·rw [hb] at hf
      refine stS hf rfl rfl rfl fun a hf => stS hf rfl rfl rfl fun a hf => stS hf rfl rfl rfl fun a hf => stS hf rfl rfl rfl fun a hf => stS hf rfl rfl rfl fun a hf => stS hf rfl rfl rfl fun a hf => stS hf rfl rfl rfl fun a hf => sp 1 hf rfl fun a hf => cNil ⟨hf.kp rfl,hc⟩
    intro a w ⟨hf,hc⟩
    refine sp 1 hf rfl fun a hf => stCc 7 (fun a => Has 264 a [(35,i6 r_8.1),(25,i6 r_8.2),(36,i6 r_9.1),(27,i6 r_9.2),(234,i6 r_9.2),(235,.bool (r_9.2 != 0)),(236,.bool (r_9.2 != 0)),(244,.bool ((r_9.2 != 0) || ((r_8.2 == 0) && (decide (r_9.1 ≤ r_8.1))))),(245,.bool ((r_9.2 != 0) || ((r_8.2 == 0) && (decide (r_9.1 ≤ r_8.1))))),(252,.bool (((r_9.2 != 0) || ((r_8.2 == 0) && (decide (r_9.1 ≤ r_8.1)))) && ((r_8.2 == 0) || (r_8.2 == 5))))]) hc ?_ ?_
    ·cases hb : ((r_9.2 != 0) || ((r_8.2 == 0) && (decide (r_9.1 ≤ r_8.1))))
     ·rw [hb] at hf
      refine stS hf rfl rfl rfl fun a hf => stS hf rfl rfl rfl fun a hf => stS hf rfl rfl rfl fun a hf => stS hf rfl rfl rfl fun a hf => stS hf rfl rfl rfl fun a hf => stS hf rfl rfl rfl fun a hf => sp 1 hf rfl fun a hf => cNil ⟨hf.kp rfl,hc⟩
     ·rw [hb] at hf
      refine sp 3 hf rfl fun a hf => stCc 3 (fun a => Has 264 a [(35,i6 r_8.1),(25,i6 r_8.2),(36,i6 r_9.1),(27,i6 r_9.2),(234,i6 r_9.2),(235,.bool (r_9.2 != 0)),(236,.bool (r_9.2 != 0)),(244,.bool true),(245,.bool true),(246,i6 r_8.2),(247,.bool (r_8.2 == 0)),(248,.bool (r_8.2 == 0)),(251,.bool ((r_8.2 == 0) || (r_8.2 == 5)))]) hc ?_ ?_
      ·cases hb : (r_8.2 == 0)
       ·rw [hb] at hf
        refine sp 3 hf rfl fun a hf => cNil ⟨hf.kp rfl,hc⟩
       ·rw [hb] at hf
        refine stS hf rfl rfl rfl fun a hf => stS hf rfl rfl rfl fun a hf => sp 1 hf rfl fun a hf => cNil ⟨hf.kp rfl,hc⟩
      intro a w ⟨hf,hc⟩
      refine sp 1 hf rfl fun a hf => cNil ⟨hf.kp rfl,hc⟩
    intro a w ⟨hf,hc⟩
    refine sp 1 hf rfl fun a hf => stCc 7 (fun a => Has 264 a [(35,i6 r_8.1),(25,i6 r_8.2),(36,i6 r_9.1),(27,i6 r_9.2),(234,i6 r_9.2),(235,.bool (r_9.2 != 0)),(236,.bool (r_9.2 != 0)),(244,.bool ((r_9.2 != 0) || ((r_8.2 == 0) && (decide (r_9.1 ≤ r_8.1))))),(245,.bool ((r_9.2 != 0) || ((r_8.2 == 0) && (decide (r_9.1 ≤ r_8.1))))),(252,.bool (((r_9.2 != 0) || ((r_8.2 == 0) && (decide (r_9.1 ≤ r_8.1)))) && ((r_8.2 == 0) || (r_8.2 == 5)))),(253,.bool (((r_9.2 != 0) || ((r_8.2 == 0) && (decide (r_9.1 ≤ r_8.1)))) && ((r_8.2 == 0) || (r_8.2 == 5)))),(260,.bool ((((r_9.2 != 0) || ((r_8.2 == 0) && (decide (r_9.1 ≤ r_8.1)))) && ((r_8.2 == 0) || (r_8.2 == 5))) && ((r_9.2 == 0) || (r_9.2 == 5))))]) hc ?_ ?_
    ·cases hb : (((r_9.2 != 0) || ((r_8.2 == 0) && (decide (r_9.1 ≤ r_8.1)))) && ((r_8.2 == 0) || (r_8.2 == 5)))
     ·rw [hb] at hf
      refine stS hf rfl rfl rfl fun a hf => stS hf rfl rfl rfl fun a hf => stS hf rfl rfl rfl fun a hf => stS hf rfl rfl rfl fun a hf => stS hf rfl rfl rfl fun a hf => stS hf rfl rfl rfl fun a hf => sp 1 hf rfl fun a hf => cNil ⟨hf.kp rfl,hc⟩
     ·rw [hb] at hf
      refine sp 3 hf rfl fun a hf => stCc 3 (fun a => Has 264 a [(35,i6 r_8.1),(25,i6 r_8.2),(36,i6 r_9.1),(27,i6 r_9.2),(234,i6 r_9.2),(235,.bool (r_9.2 != 0)),(236,.bool (r_9.2 != 0)),(244,.bool ((r_9.2 != 0) || ((r_8.2 == 0) && (decide (r_9.1 ≤ r_8.1))))),(245,.bool ((r_9.2 != 0) || ((r_8.2 == 0) && (decide (r_9.1 ≤ r_8.1))))),(252,.bool true),(253,.bool true),(254,i6 r_9.2),(255,.bool (r_9.2 == 0)),(256,.bool (r_9.2 == 0)),(259,.bool ((r_9.2 == 0) || (r_9.2 == 5)))]) hc ?_ ?_
      ·cases hb : (r_9.2 == 0)
       ·rw [hb] at hf
        refine sp 3 hf rfl fun a hf => cNil ⟨hf.kp rfl,hc⟩
       ·rw [hb] at hf
        refine stS hf rfl rfl rfl fun a hf => stS hf rfl rfl rfl fun a hf => sp 1 hf rfl fun a hf => cNil ⟨hf.kp rfl,hc⟩
      intro a w ⟨hf,hc⟩
      refine sp 1 hf rfl fun a hf => cNil ⟨hf.kp rfl,hc⟩
    intro a w ⟨hf,hc⟩
    refine sp 1 hf rfl fun a hf => ?_
    obtain ⟨t_1,ht_1,hF⟩ := bnd_some hF
    refine stCc 2 (fun a => Has 264 a [(35,i6 r_8.1),(25,i6 r_8.2),(36,i6 r_9.1),(27,i6 r_9.2),(234,i6 r_9.2),(235,.bool (r_9.2 != 0)),(236,.bool (r_9.2 != 0)),(244,.bool ((r_9.2 != 0) || ((r_8.2 == 0) && (decide (r_9.1 ≤ r_8.1))))),(245,.bool ((r_9.2 != 0) || ((r_8.2 == 0) && (decide (r_9.1 ≤ r_8.1))))),(252,.bool (((r_9.2 != 0) || ((r_8.2 == 0) && (decide (r_9.1 ≤ r_8.1)))) && ((r_8.2 == 0) || (r_8.2 == 5)))),(253,.bool (((r_9.2 != 0) || ((r_8.2 == 0) && (decide (r_9.1 ≤ r_8.1)))) && ((r_8.2 == 0) || (r_8.2 == 5)))),(260,.bool ((((r_9.2 != 0) || ((r_8.2 == 0) && (decide (r_9.1 ≤ r_8.1)))) && ((r_8.2 == 0) || (r_8.2 == 5))) && ((r_9.2 == 0) || (r_9.2 == 5)))),(261,.bool ((((r_9.2 != 0) || ((r_8.2 == 0) && (decide (r_9.1 ≤ r_8.1)))) && ((r_8.2 == 0) || (r_8.2 == 5))) && ((r_9.2 == 0) || (r_9.2 == 5)))),(263,.bool t_1)]) hc ?_ ?_
    ·cases hb : ((((r_9.2 != 0) || ((r_8.2 == 0) && (decide (r_9.1 ≤ r_8.1)))) && ((r_8.2 == 0) || (r_8.2 == 5))) && ((r_9.2 == 0) || (r_9.2 == 5)))
     ·rw [hb] at hf
      have hF := condF hb ht_1
      obtain rfl := sj hF
      refine stS hf rfl rfl rfl fun a hf => sp 1 hf rfl fun a hf => cNil ⟨hf.kp rfl,hc⟩
     ·rw [hb] at hf
      have hF := condT hb ht_1
      obtain ⟨r_10,hr_10,hF⟩ := bnd_some hF
      refine zQ (v := .bool r_10) hf hc en_15 rfl (fun w hc => law11_awake_ok hc hr_10) fun a w hf hc => sp 1 hf rfl fun a hf => ?_
      obtain rfl := sj hF
      exact cNil ⟨hf.kp rfl,hc⟩
    intro a w ⟨hf,hc⟩
    refine sp 1 hf rfl fun a hf => zT h ?_
    refine wp_ret ?_
    obtain rfl := sj hF
    replace hc := (((hc.drop k3).drop k2).drop k1).drop k0
    exact zO1 Tryz.results14 hf rfl ⟨rfl,hc⟩
   have ho17 : ∀ r,x17 = .out r → r = res := by
    rintro r rfl
    exact sj hF
   replace hc := (hc.drop k5).drop k4
   refine cLoop N (loopW (S := S17) (x := x17) ?_ N 0 _ _ ⟨p_5,c_5,p_6,c_6,hf.kp rfl,hc⟩ hx17)
   clear hF hf hc
   rintro x_5 st17 a w KB17 ⟨p_7,c_7,p_8,c_8,hf,hc⟩ hF hfin17 hK17
   unfold law11_CrewPlanned_b17 at hF
   refine zS fun K h => sp 1 hf rfl fun a hf => zT h ?_
   refine wp_seq_k fun K22 h22 => zI hf rfl hF ?_ ?_ <;> clear hF <;> intro hF
   ·refine wp_skip ?_
    refine h22 _ _ ?_
    refine wp_seq_k fun K23 h23 => wp_block ?_
    refine zS fun K h => sp 2 hf rfl fun a hf => zT h ?_
    refine wp_seq_k fun K25 h25 => ?_
    obtain ⟨e_1,he_1,hF⟩ := bnd_some hF
    obtain ⟨g,rfl,qa,qr⟩ := row_atm hc m3 he_1
    obtain ⟨e_2,he_2,hF⟩ := bnd_some hF
    obtain ⟨g_1,rfl,qa_1,qr_1⟩ := row_atm hc m1 he_2
    obtain ⟨t_2,ht_2,hF⟩ := bnd_some hF
    refine cQ hc follows_mx (by kernel_rfl) ?_
    refine qE hf rfl rfl rfl (Pu.ev (pM rfl)) fun a hf => qE hf rfl rfl rfl (Pu.ev (pM rfl)) fun a hf => qE hf rfl rfl rfl (Pu.ev (pIA Tryz.underlying33 sz_29 rfl rfl qa)) fun a hf => qE hf rfl rfl rfl (Pu.ev (pFA fa_29_0 rfl)) fun a hf => qE hf rfl rfl rfl (eLd1 sc_3 rfl (cell_row (sz := 2) (i := x_5.toNat) (j := 0) m3 qr rfl)) fun a hf => qE hf rfl rfl rfl (Pu.ev (pM rfl)) fun a hf => qE hf rfl rfl rfl (Pu.ev (pM rfl)) fun a hf => qE hf rfl rfl rfl (Pu.ev (pIA Tryz.underlying33 sz_29 rfl rfl qa_1)) fun a hf => qE hf rfl rfl rfl (Pu.ev (pFA fa_29_0 rfl)) fun a hf => qE hf rfl rfl rfl (eLd1 sc_3 rfl (cell_row (sz := 2) (i := x_5.toNat) (j := 0) m1 qr_1 rfl)) fun a hf => qE hf rfl rfl rfl (Pu.ev (pGt rfl rfl)) fun a hf => qE hf rfl rfl rfl (Pu.ev (pM rfl)) fun a hf => qCut 12 (fun a => Has 264 a [(9,.slice p_3 tour.length c_3),(10,.slice p_4 slow.length c_4),(24,.slice (some ⟨g,0,none⟩) r_4.1.length c_7),(26,.slice (some ⟨g_1,0,none⟩) r_5.1.length c_8),(195,i6 ((r_4.1.length : Nat) : Int)),(196,i6 x_5),(34,i6 x_5),(199,.slice (some ⟨g,0,none⟩) r_4.1.length c_7),(200,i6 x_5),(201,.pointer (some ⟨g,x_5.toNat * 2,none⟩)),(202,.pointer (some ⟨g,x_5.toNat * 2 + 0,none⟩)),(203,i6 e_1.Lo),(204,.slice (some ⟨g_1,0,none⟩) r_5.1.length c_8),(205,i6 x_5),(206,.pointer (some ⟨g_1,x_5.toNat * 2,none⟩)),(207,.pointer (some ⟨g_1,x_5.toNat * 2 + 0,none⟩)),(208,i6 e_2.Lo),(209,.bool (decide (e_2.Lo < e_1.Lo))),(210,.bool (decide (e_2.Lo < e_1.Lo))),(222,.bool t_2)]) ?_ ?_
    ·cases hb : (decide (e_2.Lo < e_1.Lo))
     ·rw [hb] at hf
      have hF := condF hb ht_2
      obtain ⟨e_3,he_3,hF⟩ := bnd_some hF
      obtain ⟨qa_2,qr_2⟩ := row_atk hc m3 he_3
      obtain ⟨e_4,he_4,hF⟩ := bnd_some hF
      obtain ⟨qa_3,qr_3⟩ := row_atk hc m1 he_4
      refine qE hf rfl rfl rfl (Pu.ev (pM rfl)) fun a hf => qE hf rfl rfl rfl (Pu.ev (pM rfl)) fun a hf => qE hf rfl rfl rfl (Pu.ev (pIA Tryz.underlying33 sz_29 rfl rfl qa_2)) fun a hf => qE hf rfl rfl rfl (Pu.ev (pFA fa_29_1 rfl)) fun a hf => qE hf rfl rfl rfl (eLd1 sc_3 rfl (cell_row (sz := 2) (i := x_5.toNat) (j := 1) m3 qr_2 rfl)) fun a hf => qE hf rfl rfl rfl (Pu.ev (pM rfl)) fun a hf => qE hf rfl rfl rfl (Pu.ev (pM rfl)) fun a hf => qE hf rfl rfl rfl (Pu.ev (pIA Tryz.underlying33 sz_29 rfl rfl qa_3)) fun a hf => qE hf rfl rfl rfl (Pu.ev (pFA fa_29_1 rfl)) fun a hf => qE hf rfl rfl rfl (eLd1 sc_3 rfl (cell_row (sz := 2) (i := x_5.toNat) (j := 1) m1 qr_3 rfl)) fun a hf => qE hf rfl rfl rfl (Pu.ev (pGt rfl rfl)) fun a hf => qE hf rfl rfl rfl (Pu.ev (pPf rfl rfl)) fun a hf => ?_
      obtain rfl := sj hF
      exact qNil (hf.kp rfl)
     ·rw [hb] at hf
      have hF := condT hb ht_2
      obtain rfl := sj hF
      refine qS hf rfl rfl rfl fun a hf => qS hf rfl rfl rfl fun a hf => qS hf rfl rfl rfl fun a hf => qS hf rfl rfl rfl fun a hf => qS hf rfl rfl rfl fun a hf => qS hf rfl rfl rfl fun a hf => qS hf rfl rfl rfl fun a hf => qS hf rfl rfl rfl fun a hf => qS hf rfl rfl rfl fun a hf => qS hf rfl rfl rfl fun a hf => qS hf rfl rfl rfl fun a hf => qE hf rfl rfl rfl (Pu.ev (pPt rfl rfl)) fun a hf => qNil (hf.kp rfl)
    intro a hf
    intro w hc
    refine h25 _ _ ?_
    refine zI hf rfl hF ?_ ?_ <;> clear hF <;> intro hF
    ·refine zS fun K h => sp 1 hf rfl fun a hf => zT h ?_
     refine wp_ret ?_
     refine xBlkR ?_
     refine xThenR ?_
     refine xThenR ?_
     have he := sj hF
     rw [← he] at hfin17
     replace hF := ho17 _ hfin17
     refine xBlkR ?_
     refine xThenR ?_
     obtain rfl := hF
     replace hc := (((hc.drop k3).drop k2).drop k1).drop k0
     exact zO1 Tryz.results14 hf rfl ⟨rfl,hc⟩
    ·refine wp_skip ?_
     refine h23 _ _ ?_
     refine cReg ?_
     refine sp 2 hf rfl fun a hf => cNil ?_
     exact hK17 (W (x_5 + 1)) _ _ (sj hF).symm ⟨(some ⟨g,0,none⟩),c_7,(some ⟨g_1,0,none⟩),c_8,hf.kp rfl,hc⟩
   ·refine wp_exit ?_
    refine xThen ?_
    refine xThen ?_
    have he := sj hF
    rw [← he] at hfin17
    refine cHit ?_
    exact hr17 _ _ _ hfin17 ⟨p_7,c_7,p_8,c_8,hf.kp rfl,hc⟩
 have ho7 : ∀ r,x7 = .out r → r = res := by
  rintro r rfl
  exact sj hF
 refine cLoop N (loopW (S := S7) (x := x7) ?_ N (r_2.1,r_3,0,r_2.2.1,r_2.2.2,r_1.1,r_1.2) _ _ ⟨p_1,c_1,p_2,c_2,hf.kp rfl,hc⟩ hx7)
 clear hF hf hc
 rintro ⟨tour,slow,x,x_1,x_2,x_3,x_4⟩ st7 a w KB7 ⟨p_3,c_3,p_4,c_4,hf,hc⟩ hF hfin7 hK7
 unfold law11_CrewPlanned_b7 at hF
 refine zS fun K h => sp 1 hf rfl fun a hf => zT h ?_
 refine wp_seq_k fun K28 h28 => zI hf rfl hF ?_ ?_ <;> clear hF <;> intro hF
 ·refine wp_skip ?_
  refine h28 _ _ ?_
  refine wp_seq_k fun K29 h29 => wp_block ?_
  refine zS fun K h => sp 2 hf rfl fun a hf => zT h ?_
  refine zS fun K h => sp 1 hf rfl fun a hf => ?_
  obtain ⟨r_11,hr_11,hF⟩ := bnd_some hF
  refine zC hf en_75 rfl (law03_Sited_ok (⟨numbers,x_1,x_2⟩ : kit_Stream) 8 h_numbers (hc.pick k2) hr_11) ?_
  rintro _ w ⟨p_9,c_9,rfl,hc⟩
  refine ⟨_,rfl,fun a hf => ?_⟩
  refine zA hf hc zr_136 rfl fun b_3 a w hf hc => zW hf hc sz_136 u0 rfl fun w hc => zT h ?_
  refine zS fun K h => zP hf rfl (pFA fa_136_2 rfl) fun a hf => zW hf hc sz_3 u0 rfl fun w hc => zP hf rfl (pFA fa_136_3 rfl) fun a hf => zW hf hc sz_3 u0 rfl fun w hc => zT h ?_
  refine zS fun K h => zN hf hc ag_136 m0 rfl fun a w hf hc => ?_
  obtain ⟨r_12,hr_12,hF⟩ := bnd_some hF
  obtain ⟨G1,hle1,hrd1,hc,hth1⟩ := lend hc k1
  refine zC hf en_76 rfl (gauge_Plan_ok (⟨r_11.1.Left,r_11.1.Right,50,100,r_11.1.Points⟩ : gauge_Site) hrd1 hc hr_12) ?_
  rintro _ w ⟨p_10,c_10,rfl,hc⟩
  refine ⟨_,rfl,fun a hf => ?_⟩
  replace hc := hth1 _ _ hc
  refine sp 7 hf rfl fun a hf => zT h ?_
  refine zS fun K h => sp 1 hf rfl fun a hf => zT h ?_
  refine wp_seq_k fun K35 h35 => zS fun K h => zP hf rfl (pFA fa_136_4 rfl) fun a hf => zL hf hc sc_134 m2 rfl fun a w hf hc => zP hf rfl (pLenS Tryz.underlying134 rfl) fun a hf => sp 1 hf rfl fun a hf => zT h ?_
  refine wp_block ?_
  obtain ⟨x37,hx37,hF⟩ := bnd_some hF
  let S37 : ((List Int) × Int) → Act → World → Prop := (fun (zz : (List Int) × Int) a w => ∃ (p_11 : Option Addr) (c_11 : Nat),Has 264 a [(2,.int .u8 at_),(7,pq b_1),(8,pq b_2),(9,.slice p_3 tour.length c_3),(10,.slice p_4 slow.length c_4),(11,i6 x),(12,pq b_3),(14,i6 r_12.2.1),(15,i6 r_12.2.2),(16,.slice p_11 zz.1.length c_11),(46,i6 ((r_2.1.length : Nat) : Int)),(47,i6 x),(62,i6 ((r_11.1.Points.length : Nat) : Int)),(63,i6 zz.2)] ∧ Ctx G (.row p_11 c_11 (zz.1.map encI_i64) 3 1::.row p_9 c_9 (r_11.1.Points.map enc_gauge_Point) 202 3::.box b_3 [i6 r_11.1.Left,i6 r_11.1.Right,i6 50,i6 100,.slice p_9 r_11.1.Points.length c_9] 136::.box b_1 [.slice numbers_p numbers.length numbers_c,i6 r_11.2.1,i6 r_11.2.2] 165::.row p_3 c_3 (tour.map enc_crew_Visit) 31 6::.row p_4 c_4 (slow.map enc_crew_Visit) 31 6::.box b_2 [.slice others_p others.length others_c,i6 x_3,i6 x_4] 165::Lf) w)
  have hr37 : ∀ (zz : (List Int) × Int) a w,x37 = .go zz → S37 zz a w → K35 a w := by
   rintro ⟨mine,x_6⟩ a w rfl ⟨p_11,c_11,hf,hc⟩
   replace hF := exK_go hF
   refine h35 _ _ ?_
   refine wp_seq_k fun K38 h38 => zS fun K h => sp 1 hf rfl fun a hf => zP hf rfl (pLenS Tryz.underlying25 rfl) fun a hf => sp 2 hf rfl fun a hf => zT h ?_
   refine wp_block ?_
   obtain ⟨x40,hx40,hF⟩ := bnd_some hF
   let S40 : ((List Int) × Int × Int × Int) → Act → World → Prop := (fun (zz : (List Int) × Int × Int × Int) a w => ∃ (p_12 : Option Addr) (c_12 : Nat),Has 264 a [(2,.int .u8 at_),(7,pq b_1),(8,pq b_2),(9,.slice p_3 tour.length c_3),(10,.slice p_4 slow.length c_4),(11,i6 x),(12,pq b_3),(14,i6 r_12.2.1),(15,i6 r_12.2.2),(16,.slice p_12 zz.1.length c_12),(18,i6 zz.2.1),(46,i6 ((r_2.1.length : Nat) : Int)),(47,i6 x)] ∧ Ctx G (.row p_12 c_12 (zz.1.map encI_i64) 3 1::.row p_9 c_9 (r_11.1.Points.map enc_gauge_Point) 202 3::.box b_3 [i6 r_11.1.Left,i6 r_11.1.Right,i6 50,i6 100,.slice p_9 r_11.1.Points.length c_9] 136::.box b_1 [.slice numbers_p numbers.length numbers_c,i6 r_11.2.1,i6 r_11.2.2] 165::.row p_3 c_3 (tour.map enc_crew_Visit) 31 6::.row p_4 c_4 (slow.map enc_crew_Visit) 31 6::.box b_2 [.slice others_p others.length others_c,i6 zz.2.2.1,i6 zz.2.2.2] 165::Lf) w)
   have hr40 : ∀ (zz : (List Int) × Int × Int × Int) a w,x40 = .go zz → S40 zz a w → K38 a w := by
    rintro ⟨mine_1,k,x_7,x_8⟩ a w rfl ⟨p_12,c_12,hf,hc⟩
    replace hF := exK_go hF
    refine h38 _ _ ?_
    refine zS fun K h => zN hf hc ag_136 m2 rfl fun a w hf hc => sp 1 hf rfl fun a hf => ?_
    obtain ⟨r_13,hr_13,hF⟩ := bnd_some hF
    refine zQ (v := .tuple #[i6 r_13.1,i6 r_13.2]) hf hc en_78 rfl (fun w hc => by obtain ⟨G1,hle1,hrd1,hc,hth1⟩ := lend hc k1; obtain ⟨G2,hle2,hrd2,hc,hth2⟩ := lend hc k0; exact (gauge_Cost_ok (⟨r_11.1.Left,r_11.1.Right,50,100,r_11.1.Points⟩ : gauge_Site) mine_1 (hrd1.mono hle2) hrd2 hc hr_13).mono fun e w h => ⟨h.1,((hth1 _ _ ((hth2 _ _ h.2).unpick k0)).unpick k1)⟩) fun a w hf hc => sp 5 hf rfl fun a hf => zT h ?_
    refine wp_seq_k fun K42 h42 => zS fun K h => sp 3 hf rfl fun a hf => stCc 3 (fun a => Has 264 a [(2,.int .u8 at_),(7,pq b_1),(8,pq b_2),(9,.slice p_3 tour.length c_3),(10,.slice p_4 slow.length c_4),(11,i6 x),(14,i6 r_12.2.1),(15,i6 r_12.2.2),(46,i6 ((r_2.1.length : Nat) : Int)),(47,i6 x),(22,i6 r_13.1),(23,i6 r_13.2),(105,i6 r_12.2.2),(106,.bool (r_12.2.2 != 0)),(107,.bool (r_12.2.2 != 0)),(110,.bool ((r_12.2.2 != 0) || (r_13.2 != 0)))]) hc ?_ ?_
    ·cases hb : (r_12.2.2 != 0)
     ·rw [hb] at hf
      refine sp 3 hf rfl fun a hf => cNil ⟨hf.kp rfl,hc⟩
     ·rw [hb] at hf
      refine stS hf rfl rfl rfl fun a hf => stS hf rfl rfl rfl fun a hf => sp 1 hf rfl fun a hf => cNil ⟨hf.kp rfl,hc⟩
    intro a w ⟨hf,hc⟩
    refine sp 1 hf rfl fun a hf => stCc 4 (fun a => Has 264 a [(2,.int .u8 at_),(7,pq b_1),(8,pq b_2),(9,.slice p_3 tour.length c_3),(10,.slice p_4 slow.length c_4),(11,i6 x),(14,i6 r_12.2.1),(15,i6 r_12.2.2),(46,i6 ((r_2.1.length : Nat) : Int)),(47,i6 x),(22,i6 r_13.1),(23,i6 r_13.2),(105,i6 r_12.2.2),(106,.bool (r_12.2.2 != 0)),(107,.bool (r_12.2.2 != 0)),(110,.bool ((r_12.2.2 != 0) || (r_13.2 != 0))),(111,.bool ((r_12.2.2 != 0) || (r_13.2 != 0))),(115,.bool (((r_12.2.2 != 0) || (r_13.2 != 0)) || (decide (r_13.1 < r_12.2.1))))]) hc ?_ ?_
    ·cases hb : ((r_12.2.2 != 0) || (r_13.2 != 0))
     ·rw [hb] at hf
      refine sp 4 hf rfl fun a hf => cNil ⟨hf.kp rfl,hc⟩
     ·rw [hb] at hf
      refine stS hf rfl rfl rfl fun a hf => stS hf rfl rfl rfl fun a hf => stS hf rfl rfl rfl fun a hf => sp 1 hf rfl fun a hf => cNil ⟨hf.kp rfl,hc⟩
    intro a w ⟨hf,hc⟩
    refine sp 1 hf rfl fun a hf => stCc 3 (fun a => Has 264 a [(2,.int .u8 at_),(7,pq b_1),(8,pq b_2),(9,.slice p_3 tour.length c_3),(10,.slice p_4 slow.length c_4),(11,i6 x),(14,i6 r_12.2.1),(15,i6 r_12.2.2),(46,i6 ((r_2.1.length : Nat) : Int)),(47,i6 x),(22,i6 r_13.1),(23,i6 r_13.2),(105,i6 r_12.2.2),(106,.bool (r_12.2.2 != 0)),(107,.bool (r_12.2.2 != 0)),(110,.bool ((r_12.2.2 != 0) || (r_13.2 != 0))),(111,.bool ((r_12.2.2 != 0) || (r_13.2 != 0))),(115,.bool (((r_12.2.2 != 0) || (r_13.2 != 0)) || (decide (r_13.1 < r_12.2.1)))),(116,.bool (((r_12.2.2 != 0) || (r_13.2 != 0)) || (decide (r_13.1 < r_12.2.1)))),(119,.bool ((((r_12.2.2 != 0) || (r_13.2 != 0)) || (decide (r_13.1 < r_12.2.1))) || (decide (r_12.2.1 < 0))))]) hc ?_ ?_
    ·cases hb : (((r_12.2.2 != 0) || (r_13.2 != 0)) || (decide (r_13.1 < r_12.2.1)))
     ·rw [hb] at hf
      refine sp 3 hf rfl fun a hf => cNil ⟨hf.kp rfl,hc⟩
     ·rw [hb] at hf
      refine stS hf rfl rfl rfl fun a hf => stS hf rfl rfl rfl fun a hf => sp 1 hf rfl fun a hf => cNil ⟨hf.kp rfl,hc⟩
    intro a w ⟨hf,hc⟩
    refine zT h ?_
    refine zI hf rfl hF ?_ ?_ <;> clear hF <;> intro hF
    ·refine zS fun K h => sp 1 hf rfl fun a hf => zT h ?_
     refine wp_ret ?_
     refine xThenR ?_
     refine xBlkR ?_
     refine xThenR ?_
     refine xThenR ?_
     have he := sj hF
     rw [← he] at hfin7
     replace hF := ho7 _ hfin7
     refine xBlkR ?_
     refine xThenR ?_
     obtain rfl := hF
     replace hc := ((((((hc.drop k6).drop k5).drop k4).drop k3).drop k2).drop k1).drop k0
     exact zO1 Tryz.results14 hf rfl ⟨rfl,hc⟩
    ·refine wp_skip ?_
     refine h42 _ _ ?_
     refine cReg ?_
     refine sp 6 hf rfl fun a hf => ?_
     obtain ⟨r_14,hr_14,hF⟩ := bnd_some hF
     refine zQ (v := .agg #[i6 r_14.Lo,i6 r_14.Hi]) hf hc en_51 rfl (fun w hc => law11_span_ok r_12.2.1 r_12.2.1 hc hr_14) fun a w hf hc => sp 2 hf rfl fun a hf => ?_
     obtain ⟨r_15,hr_15,hF⟩ := bnd_some hF
     refine zQ (v := .agg #[i6 r_15.Lo,i6 r_15.Hi]) hf hc en_51 rfl (fun w hc => law11_span_ok r_13.1 r_13.1 hc hr_15) fun a w hf hc => ?_
     obtain ⟨e_5,he_5,hF⟩ := bnd_some hF
     obtain ⟨g_2,rfl,qa_4,qr_4⟩ := row_atm hc m4 he_5
     refine zP hf rfl (pIA Tryz.underlying22 sz_31 rfl rfl qa_4) fun a hf => zP hf rfl (pFA fa_31_1 rfl) fun a hf => stRw (vs := [i6 r_14.Lo,i6 r_14.Hi]) (o' := 2) (z := (⟨e_5.Way,r_14,e_5.Open,e_5.Close⟩ : crew_Visit)) (xs := tour) hf hc rfl rfl rfl rfl sz_29 rfl (fun x => (one_enc_crew_Visit x).1) (getI_lt he_5) (fun e' he' => by cases (he'.symm.trans (getI_spec he_5).2); rfl) rfl u4 fun w hc => ?_
     obtain ⟨e_6,he_6,hF⟩ := bnd_some hF
     obtain ⟨g_3,rfl,qa_5,qr_5⟩ := row_atm hc m5 he_6
     refine zP hf rfl (pIA Tryz.underlying22 sz_31 rfl rfl qa_5) fun a hf => zP hf rfl (pFA fa_31_1 rfl) fun a hf => stRw (vs := [i6 r_15.Lo,i6 r_15.Hi]) (o' := 2) (z := (⟨e_6.Way,r_15,e_6.Open,e_6.Close⟩ : crew_Visit)) (xs := slow) hf hc rfl rfl rfl rfl sz_29 rfl (fun x => (one_enc_crew_Visit x).1) (getI_lt he_6) (fun e' he' => by cases (he'.symm.trans (getI_spec he_6).2); rfl) rfl u5 fun w hc => cNil ?_
     refine h29 _ _ ?_
     refine cReg ?_
     refine sp 2 hf rfl fun a hf => cNil ?_
     replace hf := hf.castAt 9 (v' := .slice (some ⟨g_2,0,none⟩) ((tour.set x.toNat (⟨e_5.Way,r_14,e_5.Open,e_5.Close⟩ : crew_Visit)).length) c_3) rfl (congrArg (fun k => Value.slice (some ⟨g_2,0,none⟩) k c_3) (by simp))
     replace hf := hf.castAt 10 (v' := .slice (some ⟨g_3,0,none⟩) ((slow.set x.toNat (⟨e_6.Way,r_15,e_6.Open,e_6.Close⟩ : crew_Visit)).length) c_4) rfl (congrArg (fun k => Value.slice (some ⟨g_3,0,none⟩) k c_4) (by simp))
     replace hc := (((((hc.drop k2).drop k1).drop k0).pick k0).pick k2).pick k2
     exact hK7 ((tour.set x.toNat (⟨e_5.Way,r_14,e_5.Open,e_5.Close⟩ : crew_Visit)),(slow.set x.toNat (⟨e_6.Way,r_15,e_6.Open,e_6.Close⟩ : crew_Visit)),W (x + 1),r_11.2.1,r_11.2.2,x_7,x_8) _ _ (sj hF).symm ⟨(some ⟨g_2,0,none⟩),c_3,(some ⟨g_3,0,none⟩),c_4,hf.kp rfl,hc⟩
   have ho40 : ∀ r,x40 = .out r → r = st7 := by
    rintro r rfl
    exact sj hF
   refine cLoop N (loopW (S := S40) (x := x40) ?_ N (mine,W (((mine.length : Nat) : Int) - 1),x_3,x_4) _ _ ⟨p_11,c_11,hf.kp rfl,hc⟩ hx40)
   clear hF hf hc
   rintro ⟨mine_1,k,x_7,x_8⟩ st40 a w KB40 ⟨p_12,c_12,hf,hc⟩ hF hfin40 hK40
   unfold law11_CrewPlanned_b40 at hF
   refine wp_seq_k fun K45 h45 => zS fun K h => sp 2 hf rfl fun a hf => zT h ?_
   refine zI hf rfl hF ?_ ?_ <;> clear hF <;> intro hF
   ·refine wp_skip ?_
    refine h45 _ _ ?_
    refine wp_seq_k fun K47 h47 => ?_
    have hj47 : ∀ (mine_2 : List Int) (x_9 : Int) (x_10 : Int) (p_13 : Option Addr) (c_13 : Nat) a w,Has 264 a [(2,.int .u8 at_),(7,pq b_1),(8,pq b_2),(9,.slice p_3 tour.length c_3),(10,.slice p_4 slow.length c_4),(11,i6 x),(12,pq b_3),(14,i6 r_12.2.1),(15,i6 r_12.2.2),(16,.slice p_13 mine_2.length c_13),(18,i6 k),(46,i6 ((r_2.1.length : Nat) : Int)),(47,i6 x)] → Ctx G (.row p_13 c_13 (mine_2.map encI_i64) 3 1::.row p_9 c_9 (r_11.1.Points.map enc_gauge_Point) 202 3::.box b_3 [i6 r_11.1.Left,i6 r_11.1.Right,i6 50,i6 100,.slice p_9 r_11.1.Points.length c_9] 136::.box b_1 [.slice numbers_p numbers.length numbers_c,i6 r_11.2.1,i6 r_11.2.2] 165::.row p_3 c_3 (tour.map enc_crew_Visit) 31 6::.row p_4 c_4 (slow.map enc_crew_Visit) 31 6::.box b_2 [.slice others_p others.length others_c,i6 x_9,i6 x_10] 165::Lf) w → law11_CrewPlanned_j47 N k mine_2 x_9 x_10 = some st40 → K47 a w := by
     repeat (clear hF)
     repeat (clear hc)
     repeat (clear hf)
     intro mine_2 x_9 x_10 p_13 c_13 a w hf hc hF
     unfold law11_CrewPlanned_j47 at hF
     refine h47 _ _ ?_
     refine cReg ?_
     refine sp 3 hf rfl fun a hf => cNil ?_
     exact hK40 (mine_2,W (k - 1),x_9,x_10) _ _ (sj hF).symm ⟨p_13,c_13,hf.kp rfl,hc⟩
    refine wp_block ?_
    refine zS fun K h => sp 1 hf rfl fun a hf => ?_
    obtain ⟨r_16,hr_16,hF⟩ := bnd_some hF
    obtain ⟨G1,hle1,hrd1,hc,hth1⟩ := lend hc k0
    refine zC hf en_17 rfl (kit_Copy_int_ok mine_1 hrd1 hc hr_16) ?_
    rintro _ w ⟨p_14,c_14,rfl,hc⟩
    refine ⟨_,rfl,fun a hf => ?_⟩
    replace hc := hth1 _ _ hc
    refine sp 3 hf rfl fun a hf => ?_
    obtain ⟨r_17,hr_17,hF⟩ := bnd_some hF
    refine zC hf en_77 rfl (slices_Delete_Lint_int_ok r_16 k (W (k + 1)) (hc.pick k1) hr_17) ?_
    rintro _ w ⟨p_15,c_15,rfl,hc⟩
    refine ⟨_,rfl,fun a hf => ?_⟩
    refine sp 1 hf rfl fun a hf => zT h ?_
    refine zS fun K h => zN hf hc ag_136 m3 rfl fun a w hf hc => sp 1 hf rfl fun a hf => ?_
    obtain ⟨r_18,hr_18,hF⟩ := bnd_some hF
    refine zQ (v := .tuple #[i6 r_18.1,i6 r_18.2]) hf hc en_78 rfl (fun w hc => by obtain ⟨G1,hle1,hrd1,hc,hth1⟩ := lend hc k2; obtain ⟨G2,hle2,hrd2,hc,hth2⟩ := lend hc k0; exact (gauge_Cost_ok (⟨r_11.1.Left,r_11.1.Right,50,100,r_11.1.Points⟩ : gauge_Site) r_17 (hrd1.mono hle2) hrd2 hc hr_18).mono fun e w h => ⟨h.1,((hth1 _ _ ((hth2 _ _ h.2).unpick k0)).unpick k2)⟩) fun a w hf hc => sp 5 hf rfl fun a hf => zT h ?_
    refine zS fun K h => sp 3 hf rfl fun a hf => ?_
    obtain ⟨t_3,ht_3,hF⟩ := bnd_some hF
    refine (stCut 4 (fun a w => Has 264 a [(2,.int .u8 at_),(7,pq b_1),(8,pq b_2),(9,.slice p_3 tour.length c_3),(10,.slice p_4 slow.length c_4),(11,i6 x),(12,pq b_3),(14,i6 r_12.2.1),(15,i6 r_12.2.2),(16,.slice p_12 mine_1.length c_12),(18,i6 k),(46,i6 ((r_2.1.length : Nat) : Int)),(47,i6 x),(19,.slice p_15 r_17.length c_15),(21,i6 r_18.2),(91,i6 r_18.2),(92,.bool (r_18.2 == 0)),(93,.bool (r_18.2 == 0)),(97,.bool t_3.1)] ∧ Ctx G (.row p_15 c_15 (r_17.map encI_i64) 3 1::.row p_12 c_12 (mine_1.map encI_i64) 3 1::.row p_9 c_9 (r_11.1.Points.map enc_gauge_Point) 202 3::.box b_3 [i6 r_11.1.Left,i6 r_11.1.Right,i6 50,i6 100,.slice p_9 r_11.1.Points.length c_9] 136::.box b_1 [.slice numbers_p numbers.length numbers_c,i6 r_11.2.1,i6 r_11.2.2] 165::.row p_3 c_3 (tour.map enc_crew_Visit) 31 6::.row p_4 c_4 (slow.map enc_crew_Visit) 31 6::.box b_2 [.slice others_p others.length others_c,i6 t_3.2.1,i6 t_3.2.2] 165::Lf) w) ?_ ?_)
    ·cases hb : (r_18.2 == 0)
     ·rw [hb] at hf
      have hF := condF hb ht_3
      obtain rfl := sj hF
      refine stS hf rfl rfl rfl fun a hf => stS hf rfl rfl rfl fun a hf => stS hf rfl rfl rfl fun a hf => sp 1 hf rfl fun a hf => cNil ⟨hf.kp rfl,hc⟩
     ·rw [hb] at hf
      have hF := condT hb ht_3
      refine sp 1 hf rfl fun a hf => ?_
      obtain ⟨r_19,hr_19,hF⟩ := bnd_some hF
      refine zC hf en_45 rfl (kit_Stream_Next_ok (⟨others,x_7,x_8⟩ : kit_Stream) 2 h_others (hc.pick k7) hr_19) ?_
      rintro _ w ⟨rfl,hc⟩
      refine ⟨_,rfl,fun a hf => ?_⟩
      refine sp 2 hf rfl fun a hf => ?_
      replace hc := (((((((hc.pick k0).pick k7).pick k7).pick k7).pick k7).pick k7).pick k7).pick k7
      obtain rfl := sj hF
      exact cNil ⟨hf.kp rfl,hc⟩
    intro a w ⟨hf,hc⟩
    refine zT h ?_
    refine zI hf rfl hF ?_ ?_ <;> clear hF <;> intro hF
    ·refine cReg ?_
     refine sp 2 hf rfl fun a hf => cNil ?_
     replace hc := hc.drop k1
     exact hj47 r_17 t_3.2.1 t_3.2.2 p_15 c_15 _ _  (hf.kp rfl) hc hF
    ·refine wp_skip ?_
     replace hc := hc.drop k0
     exact hj47 mine_1 t_3.2.1 t_3.2.2 p_12 c_12 _ _  (hf.kp rfl) hc hF
   ·refine wp_exit ?_
    refine xThen ?_
    refine xThen ?_
    have he := sj hF
    rw [← he] at hfin40
    refine cHit ?_
    exact hr40 _ _ _ hfin40 ⟨p_12,c_12,hf.kp rfl,hc⟩
  have ho37 : ∀ r,x37 = .out r → r = st7 := by
   rintro r rfl
   exact sj hF
  replace hc := hc.nilRow 3 1
  replace hc := hc.drop k2
  refine cLoop N (loopW (S := S37) (x := x37) ?_ N (([] : List Int),0) _ _ ⟨none,0,hf.kp rfl,hc⟩ hx37)
  clear hF hf hc
  rintro ⟨mine,x_6⟩ st37 a w KB37 ⟨p_11,c_11,hf,hc⟩ hF hfin37 hK37
  unfold law11_CrewPlanned_b37 at hF
  refine zS fun K h => sp 1 hf rfl fun a hf => zT h ?_
  refine wp_seq_k fun K52 h52 => zI hf rfl hF ?_ ?_ <;> clear hF <;> intro hF
  ·refine wp_skip ?_
   refine h52 _ _ ?_
   refine wp_seq_k fun K53 h53 => wp_block ?_
   refine zS fun K h => sp 2 hf rfl fun a hf => zT h ?_
   refine cReg ?_
   refine sp 3 hf rfl fun a hf => stBS (rows := ([W (x_6 + 1)] : List Int).map encI_i64) (vs := [(0,i6 (W (x_6 + 1)))]) hf hc rfl rfl sl_25 rfl ⟨rfl,rfl,rfl,trivial⟩ rfl rfl fun b_4 a w hf hc => ?_
   obtain ⟨un,hun,hF⟩ := bnd_some hF
   refine stApm (xs := mine) (ys := ([W (x_6 + 1)] : List Int)) hf hc rfl rfl sl_25 rfl rfl rfl rfl rfl one_encI_i64 (src_row hc m0) (fun _ _ => u1) (by simpa using room_spec hun) fun p_16 c_16 a w hf hc => sp 1 hf rfl fun a hf => cNil ?_
   refine h53 _ _ ?_
   refine cReg ?_
   refine sp 2 hf rfl fun a hf => cNil ?_
   replace hc := hc.drop k0
   exact hK37 ((mine ++ [W (x_6 + 1)]),W (x_6 + 1)) _ _ (sj hF).symm ⟨p_16,c_16,hf.kp rfl,hc⟩
  ·refine wp_exit ?_
   refine xThen ?_
   refine xThen ?_
   have he := sj hF
   rw [← he] at hfin37
   refine cHit ?_
   exact hr37 _ _ _ hfin37 ⟨p_11,c_11,hf.kp rfl,hc⟩
 ·refine wp_exit ?_
  refine xThen ?_
  refine xThen ?_
  have he := sj hF
  rw [← he] at hfin7
  refine cHit ?_
  exact hr7 _ _ _ hfin7 ⟨p_3,c_3,p_4,c_4,hf.kp rfl,hc⟩

end Go.Nilo
