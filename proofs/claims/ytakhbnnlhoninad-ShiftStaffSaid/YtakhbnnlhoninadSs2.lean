/-
 What functions of the Go text compute, as plain functions, and that they do, part 2 of 3. Conditions: what each theorem names.
-/
import Derived.Test.YtakhbnnlhoninadSs1
import Derived.Test.YtakhbnnlhoninadProg
set_option linter.unusedVariables false
set_option linter.unusedSimpArgs false
set_option maxRecDepth 100000
set_option maxHeartbeats 4000000
namespace Go.Nilo
open Go.Proofs


def shift_asked (N : Nat) (l : List shift_Mark) (at_ : Int) (shift : Int) : Option (Int) :=
 Option.bind (shift_rated N l) fun r =>
 cond (r != 0)
 (some r)
 (Option.bind (shift_rises N l) fun r_1 =>
 cond (!r_1)
 (some 9)
 (cond ((!(shift_stage at_)) || (!(shift_in shift (-300) 300)))
 (some 4)
 (some 0)))
theorem shift_asked_ok {N : Nat} {G : Pers} {Lf : List Ent} {w : World} (l : List shift_Mark) (at_ : Int) (shift : Int) {l_p : Option Addr} {l_c : Nat} (h_l : Rd G 2 l_p l_c (l.map enc_shift_Mark)) (hc : Ctx G (Lf) w) {res : Int} (hF : shift_asked N l at_ shift = some res) : Calls Try.prog 16 #[.slice l_p l.length l_c,i6 at_,i6 shift] w (fun e w => e = .returned (i6 res) ∧ Ctx G (Lf) w) := by
 unfold shift_asked at hF
 refine fnIn Try.func16 rfl Try.ntmps16 rfl fun a hf => zS fun K h => sp 1 hf rfl fun a hf => zT h ?_
 refine zS fun K h => sp 1 hf rfl fun a hf => ?_
 obtain ⟨r,hr,hF⟩ := bnd_some hF
 refine zQ (v := i6 r) hf hc en_33 rfl (fun w hc => shift_rated_ok l h_l hc hr) fun a w hf hc => sp 1 hf rfl fun a hf => zT h ?_
 refine wp_seq_k fun K3 h3 => wp_block ?_
 refine zS fun K h => sp 3 hf rfl fun a hf => zT h ?_
 refine zI hf rfl hF ?_ ?_ <;> clear hF <;> intro hF
 ·refine zS fun K h => sp 2 hf rfl fun a hf => zT h ?_
  refine wp_ret ?_
  refine xBlkR ?_
  refine xThenR ?_
  obtain rfl := sj hF
  exact zO1 Try.results16 hf rfl ⟨rfl,hc⟩
 ·refine zS fun K h => sp 1 hf rfl fun a hf => ?_
  obtain ⟨r_1,hr_1,hF⟩ := bnd_some hF
  refine zQ (v := .bool r_1) hf hc en_34 rfl (fun w hc => shift_rises_ok l h_l hc hr_1) fun a w hf hc => sp 2 hf rfl fun a hf => zT h ?_
  refine zI hf rfl hF ?_ ?_ <;> clear hF <;> intro hF
  ·refine zS fun K h => sp 1 hf rfl fun a hf => zT h ?_
   refine wp_ret ?_
   refine xBlkR ?_
   refine xThenR ?_
   obtain rfl := sj hF
   exact zO1 Try.results16 hf rfl ⟨rfl,hc⟩
  ·refine zS fun K h => sp 1 hf rfl fun a hf => zQ (v := .bool (shift_stage at_)) hf hc en_35 rfl (fun w hc => shift_stage_ok at_ hc rfl) fun a w hf hc => sp 2 hf rfl fun a hf => stCc 4 (fun a => Has 27 a [(1,i6 at_),(2,i6 shift),(19,i6 at_),(20,.bool (shift_stage at_)),(21,.bool (!(shift_stage at_))),(22,.bool (!(shift_stage at_))),(26,.bool ((!(shift_stage at_)) || (!(shift_in shift (-300) 300))))]) hc ?_ ?_
   ·cases hb : (!(shift_stage at_))
    ·rw [hb] at hf
     refine sp 1 hf rfl fun a hf => zQ (v := .bool (shift_in shift (-300) 300)) hf hc en_36 rfl (fun w hc => shift_in_ok shift (-300) 300 hc rfl) fun a w hf hc => sp 2 hf rfl fun a hf => cNil ⟨hf.kp rfl,hc⟩
    ·rw [hb] at hf
     refine stS hf rfl rfl rfl fun a hf => stS hf rfl rfl rfl fun a hf => stS hf rfl rfl rfl fun a hf => sp 1 hf rfl fun a hf => cNil ⟨hf.kp rfl,hc⟩
   intro a w ⟨hf,hc⟩
   refine sp 1 hf rfl fun a hf => zT h ?_
   refine zI hf rfl hF ?_ ?_ <;> clear hF <;> intro hF
   ·refine zS fun K h => sp 1 hf rfl fun a hf => zT h ?_
    refine wp_ret ?_
    refine xBlkR ?_
    refine xThenR ?_
    obtain rfl := sj hF
    exact zO1 Try.results16 hf rfl ⟨rfl,hc⟩
   ·refine wp_skip ?_
    refine h3 _ _ ?_
    refine zS fun K h => sp 1 hf rfl fun a hf => zT h ?_
    refine wp_ret ?_
    obtain rfl := sj hF
    exact zO1 Try.results16 hf rfl ⟨rfl,hc⟩

def shift_means_2 (m : shift_Mark) (x : Int) : Bool :=
 (decide (x < m.Stage))
theorem shift_means_2_ok {G : Pers} {Lf : List Ent} {w : World} (m : shift_Mark) (x : Int) {b_ : Nat}  (hc : Ctx G (.box b_ [i6 x] 3::Lf) w) {res : Bool} (hF : shift_means_2 m x = res) : Calls Try.prog 40 #[.agg #[i6 m.Stage,i6 m.Flow],pq b_] w (fun e w => e = .returned (.bool res) ∧ Ctx G (.box b_ [i6 x] 3::Lf) w) := by
 unfold shift_means_2 at hF
 refine fnIn Try.func40 rfl Try.ntmps40 rfl fun a hf => zS fun K h => zB hf hc rfl fun b_1 a w hf hc => sp 1 hf rfl fun a hf => zT h ?_
 refine zS fun K h => zP hf rfl (pFA fa_61_0 rfl) fun a hf => zL hf hc sc_3 m0 rfl fun a w hf hc => zL hf hc sc_3 m1 rfl fun a w hf hc => sp 2 hf rfl fun a hf => zT h ?_
 refine wp_ret ?_
 obtain rfl := hF
 replace hc := hc.drop k0
 exact zO1 Try.results40 hf rfl ⟨rfl,hc⟩

def slices_IndexFunc_Lshift_Mark_shift_Mark_s2_b4 (N : Nat) (s_ : List shift_Mark) (f_ : Int) (x : Int) : Option (Step (Int) (Int)) :=
 cond (decide (x < ((s_.length : Nat) : Int)))
 (Option.bind (getI s_ x) fun e_1 =>
 cond (shift_means_2 e_1 f_)
 (some (.ret x))
 (some (.cont (W (x + 1)))))
 (some (.brk x))
def slices_IndexFunc_Lshift_Mark_shift_Mark_s2 (N : Nat) (s_ : List shift_Mark) (f_ : Int) : Option (Int) :=
 Option.bind (loopO (fun s4 => slices_IndexFunc_Lshift_Mark_shift_Mark_s2_b4 N s_ f_ s4) N 0) fun x4 =>
 exK x4 (fun s4 => some (-1)) some
theorem slices_IndexFunc_Lshift_Mark_shift_Mark_s2_ok {N : Nat} {G : Pers} {Lf : List Ent} {w : World} (s_ : List shift_Mark) (f_ : Int) {s__p : Option Addr} {s__c : Nat} {b_ : Nat} (h_s_ : Rd G 2 s__p s__c (s_.map enc_shift_Mark)) (hc : Ctx G (.box b_ [i6 f_] 3::Lf) w) {res : Int} (hF : slices_IndexFunc_Lshift_Mark_shift_Mark_s2 N s_ f_ = some res) : Calls Try.prog 39 #[.slice s__p s_.length s__c,.func (.func 40) #[] #[pq b_]] w (fun e w => e = .returned (i6 res) ∧ Ctx G (.box b_ [i6 f_] 3::Lf) w) := by
 unfold slices_IndexFunc_Lshift_Mark_shift_Mark_s2 at hF
 refine fnIn Try.func39 rfl Try.ntmps39 rfl fun a hf => zS fun K h => sp 1 hf rfl fun a hf => zT h ?_
 refine wp_seq_k fun K2 h2 => zS fun K h => sp 1 hf rfl fun a hf => zP hf rfl (pLenS Try.underlying25 rfl) fun a hf => sp 1 hf rfl fun a hf => zT h ?_
 refine wp_block ?_
 obtain ⟨x4,hx4,hF⟩ := bnd_some hF
 let S4 : Int → Act → World → Prop := (fun (zz : Int) a w => Has 19 a [(0,.slice s__p s_.length s__c),(1,.func (.func 40) #[] #[pq b_]),(7,i6 ((s_.length : Nat) : Int)),(8,i6 zz)] ∧ Ctx G (.box b_ [i6 f_] 3::Lf) w)
 have hr4 : ∀ (zz : Int) a w,x4 = .go zz → S4 zz a w → K2 a w := by
  rintro x a w rfl ⟨hf,hc⟩
  replace hF := exK_go hF
  refine h2 _ _ ?_
  refine zS fun K h => sp 1 hf rfl fun a hf => zT h ?_
  refine wp_ret ?_
  obtain rfl := sj hF
  exact zO1 Try.results39 hf rfl ⟨rfl,hc⟩
 have ho4 : ∀ r,x4 = .out r → r = res := by
  rintro r rfl
  exact sj hF
 refine cLoop N (loopW (S := S4) (x := x4) ?_ N 0 _ _ ⟨hf.kp rfl,hc⟩ hx4)
 clear hF hf hc
 rintro x st4 a w KB4 ⟨hf,hc⟩ hF hfin4 hK4
 unfold slices_IndexFunc_Lshift_Mark_shift_Mark_s2_b4 at hF
 refine zS fun K h => sp 1 hf rfl fun a hf => zT h ?_
 refine wp_seq_k fun K7 h7 => zI hf rfl hF ?_ ?_ <;> clear hF <;> intro hF
 ·refine wp_skip ?_
  refine h7 _ _ ?_
  refine wp_seq_k fun K8 h8 => wp_block ?_
  refine zS fun K h => sp 2 hf rfl fun a hf => zT h ?_
  refine zS fun K h => sp 3 hf rfl fun a hf => ?_
  obtain ⟨e_1,he_1,hF⟩ := bnd_some hF
  obtain ⟨b_1,o,qa,qp⟩ := h_s_.atm he_1
  refine zP hf rfl (pIA Try.underlying25 sz_61 rfl rfl qa) fun a hf => zE hf hc rfl (eLdN (vs := [i6 e_1.Stage,i6 e_1.Flow]) ag_61 rfl rfl (cells_pc qp (n := 2) (o' := 0) rfl)) fun a w hf hc => zQ (v := .bool (shift_means_2 e_1 f_)) hf hc en_40 rfl (fun w hc => (shift_means_2_ok e_1 f_ (hc.pick k0) rfl).mono fun e w h => ⟨h.1,(h.2.unpick k0)⟩) fun a w hf hc => zT h ?_
  refine zI hf rfl hF ?_ ?_ <;> clear hF <;> intro hF
  ·refine zS fun K h => sp 2 hf rfl fun a hf => zT h ?_
   refine wp_ret ?_
   refine xBlkR ?_
   refine xThenR ?_
   refine xThenR ?_
   have he := sj hF
   rw [← he] at hfin4
   replace hF := ho4 _ hfin4
   refine xBlkR ?_
   refine xThenR ?_
   obtain rfl := hF
   exact zO1 Try.results39 hf rfl ⟨rfl,hc⟩
  ·refine wp_skip ?_
   refine h8 _ _ ?_
   refine cReg ?_
   refine sp 2 hf rfl fun a hf => cNil ?_
   exact hK4 (W (x + 1)) _ _ (sj hF).symm ⟨hf.kp rfl,hc⟩
 ·refine wp_exit ?_
  refine xThen ?_
  refine xThen ?_
  have he := sj hF
  rw [← he] at hfin4
  refine cHit ?_
  exact hr4 _ _ _ hfin4 ⟨hf.kp rfl,hc⟩

def shift_ratio_b4 (N : Nat) (a_1 : Int) (b_2 : Int) : Option (Step (Int × Int) (api_Ratio)) :=
 cond (b_2 != 0)
 (Option.bind (nz b_2) fun un_2 =>
 some (.cont (b_2,a_1.tmod b_2)))
 (some (.brk (a_1,b_2)))
def shift_ratio (N : Nat) (n : Int) (d : Int) : Option (api_Ratio) :=
 Option.bind (loopO (fun s4 => shift_ratio_b4 N s4.1 s4.2) N (max n (W (0 - n)),d)) fun x4 =>
 exK x4 (fun s4 => Option.bind (nz s4.1) fun un =>
 Option.bind (nz s4.1) fun un_1 =>
 some (⟨W (n.tdiv s4.1),W (d.tdiv s4.1)⟩ : api_Ratio)) some
theorem shift_ratio_ok {N : Nat} {G : Pers} {Lf : List Ent} {w : World} (n : Int) (d : Int)   (hc : Ctx G (Lf) w) {res : api_Ratio} (hF : shift_ratio N n d = some res) : Calls Try.prog 38 #[i6 n,i6 d] w (fun e w => e = .returned (.agg #[i6 res.N,i6 res.D]) ∧ Ctx G (Lf) w) := by
 unfold shift_ratio at hF
 refine fnIn Try.func38 rfl Try.ntmps38 rfl fun a hf => zS fun K h => zA hf hc zr_45 rfl fun b_1 a w hf hc => zT h ?_
 refine zS fun K h => sp 3 hf rfl fun a hf => zP hf rfl (pMax2 rfl rfl) fun a hf => sp 3 hf rfl fun a hf => zT h ?_
 refine wp_seq_k fun K3 h3 => wp_block ?_
 obtain ⟨x4,hx4,hF⟩ := bnd_some hF
 let S4 : (Int × Int) → Act → World → Prop := (fun (zz : Int × Int) a w => Has 25 a [(0,i6 n),(1,i6 d),(4,pq b_1),(5,i6 zz.1),(6,i6 zz.2)] ∧ Ctx G (.box b_1 [i6 0,i6 0] 45::Lf) w)
 have hr4 : ∀ (zz : Int × Int) a w,x4 = .go zz → S4 zz a w → K3 a w := by
  rintro ⟨a_1,b_2⟩ a w rfl ⟨hf,hc⟩
  replace hF := exK_go hF
  refine h3 _ _ ?_
  refine wp_seq_k fun K5 h5 => ?_
  obtain ⟨un,hun,hF⟩ := bnd_some hF
  obtain ⟨un_1,hun_1,hF⟩ := bnd_some hF
  refine regionE (fun θ => [⟨none,none,0,i6 n⟩,⟨none,none,1,i6 d⟩,⟨none,none,4,pq b_1⟩,⟨none,none,5,i6 a_1⟩,⟨some 0,none,18,i6 n⟩,⟨some 1,none,19,i6 a_1⟩,⟨some 2,none,20,i6 (W (n.tdiv a_1))⟩,⟨some 3,none,21,i6 d⟩,⟨some 4,none,22,i6 a_1⟩,⟨some 5,none,23,i6 (W (d.tdiv a_1))⟩,⟨some 6,none,24,.agg #[i6 (W (n.tdiv a_1)),i6 (W (d.tdiv a_1))]⟩]) (fun E θ => (bif E 7 then .box b_1 [i6 (W (n.tdiv a_1)),i6 (W (d.tdiv a_1))] 45 else .box b_1 [i6 0,i6 0] 45)::Lf) [] (fun a w => Has 25 a [(4,pq b_1)] ∧ Ctx G (.box b_1 [i6 (W (n.tdiv a_1)),i6 (W (d.tdiv a_1))] 45::Lf) w) follows_mx (by kernel_rfl) (by kernel_rfl) (HasE.of hf ⟨rfl,rfl,rfl,rfl,trivial,trivial,trivial,trivial,trivial,trivial,trivial,trivial⟩) hc ⟨?_,?_,?_,?_,?_,?_,?_,?_,trivial⟩ ?_ ?_
  ·intro E θ a w hD hi hp he hc
   have hf := he.h0.mT he 0 rfl
   refine sp 1 hf rfl fun a hf => zD θ he hi hf 4 rfl rfl rfl hc
  ·intro E θ a w hD hi hp he hc
   have hf := he.h0.mT he 3 rfl
   refine sp 1 hf rfl fun a hf => zD θ he hi hf 5 rfl rfl rfl hc
  ·intro E θ a w hD hi hp he hc
   have e0 := hp.o 0 rfl
   have e1 := hp.o 1 rfl
   have hf := (he.h0.mP he 4 rfl e0).mP he 5 rfl e1
   refine zP hf rfl (pQuo rfl rfl (nz_spec hun)) fun a hf => zD θ he hi hf 6 rfl rfl rfl hc
  ·intro E θ a w hD hi hp he hc
   have hf := he.h0.mT he 1 rfl
   refine sp 1 hf rfl fun a hf => zD θ he hi hf 7 rfl rfl rfl hc
  ·intro E θ a w hD hi hp he hc
   have hf := he.h0.mT he 3 rfl
   refine sp 1 hf rfl fun a hf => zD θ he hi hf 8 rfl rfl rfl hc
  ·intro E θ a w hD hi hp he hc
   have e3 := hp.o 3 rfl
   have e4 := hp.o 4 rfl
   have hf := (he.h0.mP he 7 rfl e3).mP he 8 rfl e4
   refine zP hf rfl (pQuo rfl rfl (nz_spec hun_1)) fun a hf => zD θ he hi hf 9 rfl rfl rfl hc
  ·intro E θ a w hD hi hp he hc
   have e2 := hp.o 2 rfl
   have e5 := hp.o 5 rfl
   have hf := (he.h0.mP he 6 rfl e2).mP he 9 rfl e5
   refine zP hf rfl (pBuildS (cells := [i6 (W (n.tdiv a_1)),i6 (W (d.tdiv a_1))]) bt_45 rfl rfl) fun a hf => zD θ he hi hf 10 rfl rfl rfl hc
  ·intro E θ a w hD hi hp he hc
   have e6 := hp.o 6 rfl
   try dsimp only at hc
   rw [hi] at hc
   have hf := (he.h0.mT he 2 rfl).mP he 10 rfl e6
   refine zW hf hc sz_45 u0 rfl fun w hc => zG θ he hi hf rfl ?_
   try dsimp only
   rw [updE_self E 7]
   exact hc
  ·intro E θ a w hall he hc
   have hf := he.h0
   have e7 := hall 7 rfl
   replace hf := hf.more he 2 rfl (onT)
   try dsimp only at hc
   rw [e7] at hc
   exact ⟨hf.kp rfl,hc⟩
  rintro a w ⟨hf,hc⟩
  refine h5 _ _ ?_
  refine wp_ret ?_
  obtain rfl := sj hF
  exact fnOut1 (by simp) rfl Try.results38 hf hc (rv_cellN (vs := [i6 (W (n.tdiv a_1)),i6 (W (d.tdiv a_1))]) ag_45 rfl rfl (cells_box (n := 2) m0 rfl)) ⟨rfl,(hc.drop k0)⟩
 have ho4 : ∀ r,x4 = .out r → r = res := by
  rintro r rfl
  exact sj hF
 refine cLoop N (loopW (S := S4) (x := x4) ?_ N (max n (W (0 - n)),d) _ _ ⟨hf.kp rfl,hc⟩ hx4)
 clear hF hf hc
 rintro ⟨a_1,b_2⟩ st4 a w KB4 ⟨hf,hc⟩ hF hfin4 hK4
 unfold shift_ratio_b4 at hF
 refine wp_seq_k fun K6 h6 => zS fun K h => sp 2 hf rfl fun a hf => zT h ?_
 refine zI hf rfl hF ?_ ?_ <;> clear hF <;> intro hF
 ·refine wp_skip ?_
  refine h6 _ _ ?_
  refine wp_thenK fun K8 h8 => wp_block ?_
  obtain ⟨un_2,hun_2,hF⟩ := bnd_some hF
  refine cQ hc follows_mx (by kernel_rfl) ?_
  refine qE hf rfl rfl rfl (Pu.ev (pM rfl)) fun a hf => qE hf rfl rfl rfl (Pu.ev (pM rfl)) fun a hf => qE hf rfl rfl rfl (Pu.ev (pM rfl)) fun a hf => qE hf rfl rfl rfl (Pu.ev (pRem rfl rfl (nz_spec hun_2))) fun a hf => qE hf rfl rfl rfl (Pu.ev (pA rfl)) fun a hf => qE hf rfl rfl rfl (Pu.ev (pA rfl)) fun a hf => ?_
  intro w hc
  refine h8 _ _ ?_
  exact hK4 (b_2,a_1.tmod b_2) _ _ (sj hF).symm ⟨hf.kp rfl,hc⟩
 ·refine wp_exit ?_
  refine xThen ?_
  refine xThen ?_
  have he := sj hF
  rw [← he] at hfin4
  refine cHit ?_
  exact hr4 _ _ _ hfin4 ⟨hf.kp rfl,hc⟩

def shift_means_1 (N : Nat) (a_ : shift_Mark) (b_ : shift_Mark) (x : Int) : Option (api_Ratio) :=
 Option.bind (shift_ratio N (W ((W (a_.Flow * (W (b_.Stage - a_.Stage)))) + (W ((W (b_.Flow - a_.Flow)) * (W (x - a_.Stage)))))) (W (b_.Stage - a_.Stage))) fun r =>
 some r
theorem shift_means_1_ok {N : Nat} {G : Pers} {Lf : List Ent} {w : World} (a_ : shift_Mark) (b_ : shift_Mark) (x : Int) {b__1 : Nat}  (hc : Ctx G (.box b__1 [i6 x] 3::Lf) w) {res : api_Ratio} (hF : shift_means_1 N a_ b_ x = some res) : Calls Try.prog 37 #[.agg #[i6 a_.Stage,i6 a_.Flow],.agg #[i6 b_.Stage,i6 b_.Flow],pq b__1] w (fun e w => e = .returned (.agg #[i6 res.N,i6 res.D]) ∧ Ctx G (.box b__1 [i6 x] 3::Lf) w) := by
 unfold shift_means_1 at hF
 refine fnIn Try.func37 rfl Try.ntmps37 rfl fun a hf => zS fun K h => zB hf hc rfl fun b_1 a w hf hc => zB hf hc rfl fun b_2 a w hf hc => zA hf hc zr_45 rfl fun b_3 a w hf hc => zT h ?_
 refine zS fun K h => zP hf rfl (pFA fa_61_0 rfl) fun a hf => zL hf hc sc_3 m1 rfl fun a w hf hc => zP hf rfl (pFA fa_61_0 rfl) fun a hf => zL hf hc sc_3 m2 rfl fun a w hf hc => sp 2 hf rfl fun a hf => zT h ?_
 refine zS fun K h => zP hf rfl (pFA fa_61_1 rfl) fun a hf => zL hf hc sc_3 m2 rfl fun a w hf hc => sp 2 hf rfl fun a hf => zP hf rfl (pFA fa_61_1 rfl) fun a hf => zL hf hc sc_3 m1 rfl fun a w hf hc => zP hf rfl (pFA fa_61_1 rfl) fun a hf => zL hf hc sc_3 m2 rfl fun a w hf hc => sp 1 hf rfl fun a hf => zL hf hc sc_3 m3 rfl fun a w hf hc => zP hf rfl (pFA fa_61_0 rfl) fun a hf => zL hf hc sc_3 m2 rfl fun a w hf hc => sp 4 hf rfl fun a hf => ?_
 obtain ⟨r,hr,hF⟩ := bnd_some hF
 refine zQ (v := .agg #[i6 r.N,i6 r.D]) hf hc en_38 rfl (fun w hc => shift_ratio_ok (W ((W (a_.Flow * (W (b_.Stage - a_.Stage)))) + (W ((W (b_.Flow - a_.Flow)) * (W (x - a_.Stage)))))) (W (b_.Stage - a_.Stage)) hc hr) fun a w hf hc => zW hf hc sz_45 u0 rfl fun w hc => zT h ?_
 refine wp_ret ?_
 obtain rfl := sj hF
 replace hc := (((hc.drop k2).drop k1).pick k0).pick k1
 exact fnOut1 (by simp) rfl Try.results37 hf hc (rv_cellN (vs := [i6 r.N,i6 r.D]) ag_45 rfl rfl (cells_box (n := 2) m1 rfl)) ⟨rfl,(hc.drop k1)⟩

def shift_means (N : Nat) (l : List shift_Mark) (at_ : Int) : Option (api_Ratio) :=
 Option.bind (getI l (W (((l.length : Nat) : Int) - 1))) fun e_1 =>
 Option.bind (getI l 0) fun e_2 =>
 cond (decide (at_ ≤ e_2.Stage))
 (Option.bind (getI l 0) fun e_3 =>
 some (⟨e_3.Flow,1⟩ : api_Ratio))
 (cond (decide (e_1.Stage ≤ at_))
 (some (⟨e_1.Flow,1⟩ : api_Ratio))
 (Option.bind (slices_IndexFunc_Lshift_Mark_shift_Mark_s2 N l at_) fun r =>
 Option.bind (getI l (W (r - 1))) fun e_4 =>
 Option.bind (getI l r) fun e_5 =>
 Option.bind (shift_means_1 N e_4 e_5 at_) fun r_1 =>
 some r_1))
theorem shift_means_ok {N : Nat} {G : Pers} {Lf : List Ent} {w : World} (l : List shift_Mark) (at_ : Int) {l_p : Option Addr} {l_c : Nat} (h_l : Rd G 2 l_p l_c (l.map enc_shift_Mark)) (hc : Ctx G (Lf) w) {res : api_Ratio} (hF : shift_means N l at_ = some res) : Calls Try.prog 17 #[.slice l_p l.length l_c,i6 at_] w (fun e w => e = .returned (.agg #[i6 res.N,i6 res.D]) ∧ Ctx G (Lf) w) := by
 unfold shift_means at hF
 refine fnIn Try.func17 rfl Try.ntmps17 rfl fun a hf => zS fun K h => zB hf hc rfl fun b_1 a w hf hc => zA hf hc zr_45 rfl fun b_2 a w hf hc => zT h ?_
 refine zS fun K h => sp 2 hf rfl fun a hf => zP hf rfl (pLenS Try.underlying25 rfl) fun a hf => sp 1 hf rfl fun a hf => ?_
 obtain ⟨e_1,he_1,hF⟩ := bnd_some hF
 obtain ⟨b_3,o,qa,qp⟩ := h_l.atm he_1
 refine zP hf rfl (pIA Try.underlying25 sz_61 rfl rfl qa) fun a hf => zE hf hc rfl (eLdN (vs := [i6 e_1.Stage,i6 e_1.Flow]) ag_61 rfl rfl (cells_pc qp (n := 2) (o' := 0) rfl)) fun a w hf hc => zA hf hc zr_61 rfl fun b_4 a w hf hc => zW hf hc sz_61 u0 rfl fun w hc => zT h ?_
 refine wp_seq_k fun K3 h3 => wp_block ?_
 refine wp_seq_k fun K4 h4 => ?_
 obtain ⟨e_2,he_2,hF⟩ := bnd_some hF
 obtain ⟨b_5,o_1,qa_1,qp_1⟩ := h_l.atm he_2
 refine cQ hc follows_mx (by kernel_rfl) ?_
 refine qE hf rfl rfl rfl (eLd1 sc_3 rfl (cell_box m2 rfl)) fun a hf => qE hf rfl rfl rfl (Pu.ev (pM rfl)) fun a hf => qE hf rfl rfl rfl (Pu.ev (pIA Try.underlying25 sz_61 rfl rfl qa_1)) fun a hf => qE hf rfl rfl rfl (Pu.ev (pFA fa_61_0 rfl)) fun a hf => qE hf rfl rfl rfl (eLd1 sc_3 rfl (cell_pc (j := 0) qp_1 rfl)) fun a hf => qE hf rfl rfl rfl (Pu.ev (pLe rfl rfl)) fun a hf => qE hf rfl rfl rfl (Pu.ev (pA rfl)) fun a hf => ?_
 intro w hc
 refine h4 _ _ ?_
 refine zI hf rfl hF ?_ ?_ <;> clear hF <;> intro hF
 ·refine zS fun K h => sp 1 hf rfl fun a hf => ?_
  obtain ⟨e_3,he_3,hF⟩ := bnd_some hF
  obtain ⟨b_6,o_2,qa_2,qp_2⟩ := h_l.atm he_3
  refine zP hf rfl (pIA Try.underlying25 sz_61 rfl rfl qa_2) fun a hf => zP hf rfl (pFA fa_61_1 rfl) fun a hf => zE hf hc rfl (eLd1 sc_3 rfl (cell_pc (j := 1) qp_2 rfl)) fun a w hf hc => zP hf rfl (pBuildS (cells := [i6 e_3.Flow,i6 1]) bt_45 rfl rfl) fun a hf => zW hf hc sz_45 u1 rfl fun w hc => zT h ?_
  refine wp_ret ?_
  refine xBlkR ?_
  refine xThenR ?_
  obtain rfl := sj hF
  replace hc := (hc.drop k2).drop k0
  exact fnOut1 (by simp) rfl Try.results17 hf hc (rv_cellN (vs := [i6 e_3.Flow,i6 1]) ag_45 rfl rfl (cells_box (n := 2) m0 rfl)) ⟨rfl,(hc.drop k0)⟩
 ·refine zS fun K h => zL hf hc sc_3 m2 rfl fun a w hf hc => zP hf rfl (pFA fa_61_0 rfl) fun a hf => zL hf hc sc_3 m0 rfl fun a w hf hc => sp 2 hf rfl fun a hf => zT h ?_
  refine zI hf rfl hF ?_ ?_ <;> clear hF <;> intro hF
  ·refine zS fun K h => zP hf rfl (pFA fa_61_1 rfl) fun a hf => zL hf hc sc_3 m0 rfl fun a w hf hc => zP hf rfl (pBuildS (cells := [i6 e_1.Flow,i6 1]) bt_45 rfl rfl) fun a hf => zW hf hc sz_45 u1 rfl fun w hc => zT h ?_
   refine wp_ret ?_
   refine xBlkR ?_
   refine xThenR ?_
   obtain rfl := sj hF
   replace hc := (hc.drop k2).drop k0
   exact fnOut1 (by simp) rfl Try.results17 hf hc (rv_cellN (vs := [i6 e_1.Flow,i6 1]) ag_45 rfl rfl (cells_box (n := 2) m0 rfl)) ⟨rfl,(hc.drop k0)⟩
  ·refine wp_skip ?_
   refine h3 _ _ ?_
   refine zS fun K h => zP hf rfl (pMF (us := [pq b_1]) rfl rfl) fun a hf => sp 1 hf rfl fun a hf => zT h ?_
   refine zS fun K h => sp 1 hf rfl fun a hf => zP hf rfl (pMF (us := [pq b_1]) rfl rfl) fun a hf => ?_
   obtain ⟨r,hr,hF⟩ := bnd_some hF
   refine zQ (v := i6 r) hf hc en_39 rfl (fun w hc => (slices_IndexFunc_Lshift_Mark_shift_Mark_s2_ok l at_ h_l (hc.pick k2) hr).mono fun e w h => ⟨h.1,(h.2.unpick k2)⟩) fun a w hf hc => sp 1 hf rfl fun a hf => zT h ?_
   refine wp_seq_k fun K10 h10 => ?_
   obtain ⟨e_4,he_4,hF⟩ := bnd_some hF
   obtain ⟨b_7,o_3,qa_3,qp_3⟩ := h_l.atm he_4
   obtain ⟨e_5,he_5,hF⟩ := bnd_some hF
   obtain ⟨b_8,o_4,qa_4,qp_4⟩ := h_l.atm he_5
   obtain ⟨r_1,hr_1,hF⟩ := bnd_some hF
   refine regionE (fun θ => [⟨none,none,0,.slice l_p l.length l_c⟩,⟨none,none,4,pq b_2⟩,⟨none,none,6,.func (.func 37) #[] #[pq b_1]⟩,⟨none,none,7,i6 r⟩,⟨some 0,none,38,.func (.func 37) #[] #[pq b_1]⟩,⟨some 1,none,39,.slice l_p l.length l_c⟩,⟨some 2,none,40,i6 r⟩,⟨some 3,none,41,i6 (W (r - 1))⟩,⟨some 4,none,42,.pointer (some ⟨b_7,o_3,none⟩)⟩,⟨some 5,none,43,.agg #[i6 e_4.Stage,i6 e_4.Flow]⟩,⟨some 6,none,44,.slice l_p l.length l_c⟩,⟨some 7,none,45,i6 r⟩,⟨some 8,none,46,.pointer (some ⟨b_8,o_4,none⟩)⟩,⟨some 9,none,47,.agg #[i6 e_5.Stage,i6 e_5.Flow]⟩,⟨some 10,none,48,.agg #[i6 r_1.N,i6 r_1.D]⟩]) (fun E θ => .box b_4 [i6 e_1.Stage,i6 e_1.Flow] 61::(bif E 11 then .box b_2 [i6 r_1.N,i6 r_1.D] 45 else .box b_2 [i6 0,i6 0] 45)::.box b_1 [i6 at_] 3::Lf) [] (fun a w => Has 49 a [(4,pq b_2)] ∧ Ctx G (.box b_4 [i6 e_1.Stage,i6 e_1.Flow] 61::.box b_2 [i6 r_1.N,i6 r_1.D] 45::.box b_1 [i6 at_] 3::Lf) w) follows_mx (by kernel_rfl) (by kernel_rfl) (HasE.of hf ⟨rfl,rfl,rfl,rfl,trivial,trivial,trivial,trivial,trivial,trivial,trivial,trivial,trivial,trivial,trivial,trivial⟩) hc ⟨?_,?_,?_,?_,?_,?_,?_,?_,?_,?_,?_,?_,trivial⟩ ?_ ?_
   ·intro E θ a w hD hi hp he hc
    have hf := he.h0.mT he 2 rfl
    refine sp 1 hf rfl fun a hf => zD θ he hi hf 4 rfl rfl rfl hc
   ·intro E θ a w hD hi hp he hc
    have hf := he.h0.mT he 0 rfl
    refine sp 1 hf rfl fun a hf => zD θ he hi hf 5 rfl rfl rfl hc
   ·intro E θ a w hD hi hp he hc
    have hf := he.h0.mT he 3 rfl
    refine sp 1 hf rfl fun a hf => zD θ he hi hf 6 rfl rfl rfl hc
   ·intro E θ a w hD hi hp he hc
    have e2 := hp.o 2 rfl
    have hf := he.h0.mP he 6 rfl e2
    refine sp 1 hf rfl fun a hf => zD θ he hi hf 7 rfl rfl rfl hc
   ·intro E θ a w hD hi hp he hc
    have e1 := hp.o 1 rfl
    have e3 := hp.o 3 rfl
    have hf := (he.h0.mP he 5 rfl e1).mP he 7 rfl e3
    refine zP hf rfl (pIA Try.underlying25 sz_61 rfl rfl qa_3) fun a hf => zD θ he hi hf 8 rfl rfl rfl hc
   ·intro E θ a w hD hi hp he hc
    have e4 := hp.o 4 rfl
    have hf := he.h0.mP he 8 rfl e4
    refine zE hf hc rfl (eLdN (vs := [i6 e_4.Stage,i6 e_4.Flow]) ag_61 rfl rfl (cells_pc qp_3 (n := 2) (o' := 0) rfl)) fun a w hf hc => zD θ he hi hf 9 rfl rfl rfl hc
   ·intro E θ a w hD hi hp he hc
    have hf := he.h0.mT he 0 rfl
    refine sp 1 hf rfl fun a hf => zD θ he hi hf 10 rfl rfl rfl hc
   ·intro E θ a w hD hi hp he hc
    have hf := he.h0.mT he 3 rfl
    refine sp 1 hf rfl fun a hf => zD θ he hi hf 11 rfl rfl rfl hc
   ·intro E θ a w hD hi hp he hc
    have e6 := hp.o 6 rfl
    have e7 := hp.o 7 rfl
    have hf := (he.h0.mP he 10 rfl e6).mP he 11 rfl e7
    refine zP hf rfl (pIA Try.underlying25 sz_61 rfl rfl qa_4) fun a hf => zD θ he hi hf 12 rfl rfl rfl hc
   ·intro E θ a w hD hi hp he hc
    have e8 := hp.o 8 rfl
    have hf := he.h0.mP he 12 rfl e8
    refine zE hf hc rfl (eLdN (vs := [i6 e_5.Stage,i6 e_5.Flow]) ag_61 rfl rfl (cells_pc qp_4 (n := 2) (o' := 0) rfl)) fun a w hf hc => zD θ he hi hf 13 rfl rfl rfl hc
   ·intro E θ a w hD hi hp he hc
    have e0 := hp.o 0 rfl
    have e5 := hp.o 5 rfl
    have e9 := hp.o 9 rfl
    have hf := ((he.h0.mP he 4 rfl e0).mP he 9 rfl e5).mP he 13 rfl e9
    refine zQ (v := .agg #[i6 r_1.N,i6 r_1.D]) hf hc en_37 rfl (fun w hc => (shift_means_1_ok e_4 e_5 at_ (hc.pick k2) hr_1).mono fun e w h => ⟨h.1,(h.2.unpick k2)⟩) fun a w hf hc => zD θ he hi hf 14 rfl rfl rfl hc
   ·intro E θ a w hD hi hp he hc
    have e10 := hp.o 10 rfl
    try dsimp only at hc
    rw [hi] at hc
    have hf := (he.h0.mT he 1 rfl).mP he 14 rfl e10
    refine zW hf hc sz_45 u1 rfl fun w hc => zG θ he hi hf rfl ?_
    try dsimp only
    rw [updE_self E 11]
    exact hc
   ·intro E θ a w hall he hc
    have hf := he.h0
    have e11 := hall 11 rfl
    replace hf := hf.more he 1 rfl (onT)
    try dsimp only at hc
    rw [e11] at hc
    exact ⟨hf.kp rfl,hc⟩
   rintro a w ⟨hf,hc⟩
   refine h10 _ _ ?_
   refine wp_ret ?_
   obtain rfl := sj hF
   replace hc := (hc.drop k2).drop k0
   exact fnOut1 (by simp) rfl Try.results17 hf hc (rv_cellN (vs := [i6 r_1.N,i6 r_1.D]) ag_45 rfl rfl (cells_box (n := 2) m0 rfl)) ⟨rfl,(hc.drop k0)⟩

def shift_Means (N : Nat) (rating : List shift_Mark) (stage : Int) (shift : Int) : Option (api_Ratio × Int) :=
 Option.bind (shift_asked N rating stage shift) fun r =>
 cond (r != 0)
 (some ((⟨0,0⟩ : api_Ratio),r))
 (Option.bind (shift_means N rating (W (stage - shift))) fun r_1 =>
 some (r_1,0))
theorem shift_Means_ok {N : Nat} {G : Pers} {Lf : List Ent} {w : World} (rating : List shift_Mark) (stage : Int) (shift : Int) {rating_p : Option Addr} {rating_c : Nat} (h_rating : Rd G 2 rating_p rating_c (rating.map enc_shift_Mark)) (hc : Ctx G (Lf) w) {res : api_Ratio × Int} (hF : shift_Means N rating stage shift = some res) : Calls Try.prog 10 #[.slice rating_p rating.length rating_c,i6 stage,i6 shift] w (fun e w => e = .returned (.tuple #[.agg #[i6 res.1.N,i6 res.1.D],i6 res.2]) ∧ Ctx G (Lf) w) := by
 unfold shift_Means at hF
 refine fnIn Try.func10 rfl Try.ntmps10 rfl fun a hf => zS fun K h => zA hf hc zr_45 rfl fun b_1 a w hf hc => sp 1 hf rfl fun a hf => zT h ?_
 refine wp_seq_k fun K2 h2 => zS fun K h => sp 3 hf rfl fun a hf => ?_
 obtain ⟨r,hr,hF⟩ := bnd_some hF
 refine zQ (v := i6 r) hf hc en_16 rfl (fun w hc => shift_asked_ok rating stage shift h_rating hc hr) fun a w hf hc => sp 1 hf rfl fun a hf => zT h ?_
 refine zS fun K h => sp 2 hf rfl fun a hf => zT h ?_
 refine zI hf rfl hF ?_ ?_ <;> clear hF <;> intro hF
 ·refine zS fun K h => zP hf rfl (pBuildS (cells := [i6 0,i6 0]) bt_45 rfl rfl) fun a hf => sp 1 hf rfl fun a hf => zW hf hc sz_45 u0 rfl fun w hc => sp 1 hf rfl fun a hf => zT h ?_
  refine wp_ret ?_
  refine xThenR ?_
  obtain rfl := sj hF
  exact fnOut2 (by simp) rfl Try.results10 hf hc (rv_cellN (vs := [i6 0,i6 0]) ag_45 rfl rfl (cells_box (n := 2) m0 rfl)) (show look _ 7 = _ from rfl) ⟨rfl,(hc.drop k0)⟩
 ·refine wp_skip ?_
  refine h2 _ _ ?_
  refine zS fun K h => sp 4 hf rfl fun a hf => ?_
  obtain ⟨r_1,hr_1,hF⟩ := bnd_some hF
  refine zQ (v := .agg #[i6 r_1.N,i6 r_1.D]) hf hc en_17 rfl (fun w hc => shift_means_ok rating (W (stage - shift)) h_rating hc hr_1) fun a w hf hc => zW hf hc sz_45 u0 rfl fun w hc => sp 1 hf rfl fun a hf => zT h ?_
  refine wp_ret ?_
  obtain rfl := sj hF
  exact fnOut2 (by simp) rfl Try.results10 hf hc (rv_cellN (vs := [i6 r_1.N,i6 r_1.D]) ag_45 rfl rfl (cells_box (n := 2) m0 rfl)) (show look _ 7 = _ from rfl) ⟨rfl,(hc.drop k0)⟩

def law05_span (N : Nat) (lo : Int) (hi_ : Int) : Option (api_Span) :=
 some (⟨lo,hi_⟩ : api_Span)
theorem law05_span_ok {N : Nat} {G : Pers} {Lf : List Ent} {w : World} (lo : Int) (hi_ : Int)   (hc : Ctx G (Lf) w) {res : api_Span} (hF : law05_span N lo hi_ = some res) : Calls Try.prog 11 #[i6 lo,i6 hi_] w (fun e w => e = .returned (.agg #[i6 res.Lo,i6 res.Hi]) ∧ Ctx G (Lf) w) := by
 unfold law05_span at hF
 refine fnIn Try.func11 rfl Try.ntmps11 rfl fun a hf => zS fun K h => zA hf hc zr_38 rfl fun b_1 a w hf hc => zT h ?_
 refine zS fun K h => sp 2 hf rfl fun a hf => zP hf rfl (pBuildS (cells := [i6 lo,i6 hi_]) bt_38 rfl rfl) fun a hf => zW hf hc sz_38 u0 rfl fun w hc => zT h ?_
 refine wp_ret ?_
 obtain rfl := sj hF
 exact fnOut1 (by simp) rfl Try.results11 hf hc (rv_cellN (vs := [i6 lo,i6 hi_]) ag_38 rfl rfl (cells_box (n := 2) m0 rfl)) ⟨rfl,(hc.drop k0)⟩

def shift_Check_1 (g : shift_Gauging) : Bool :=
 ((((shift_in g.Day 0 40000) && (shift_stage g.Stage)) && (shift_in g.Flow.Lo 0 g.Flow.Hi)) && (shift_flow g.Flow.Hi))
theorem shift_Check_1_ok {G : Pers} {Lf : List Ent} {w : World} (g : shift_Gauging)   (hc : Ctx G (Lf) w) {res : Bool} (hF : shift_Check_1 g = res) : Calls Try.prog 63 #[.agg #[i6 g.Day,i6 g.Stage,i6 g.Flow.Lo,i6 g.Flow.Hi]] w (fun e w => e = .returned (.bool res) ∧ Ctx G (Lf) w) := by
 unfold shift_Check_1 at hF
 refine fnIn Try.func63 rfl Try.ntmps63 rfl fun a hf => zS fun K h => zB hf hc rfl fun b_1 a w hf hc => sp 1 hf rfl fun a hf => zT h ?_
 refine zS fun K h => zP hf rfl (pFA fa_50_0 rfl) fun a hf => zL hf hc sc_3 m0 rfl fun a w hf hc => zQ (v := .bool (shift_in g.Day 0 40000)) hf hc en_36 rfl (fun w hc => shift_in_ok g.Day 0 40000 hc rfl) fun a w hf hc => sp 1 hf rfl fun a hf => stCc 4 (fun a => Has 26 a [(1,pq b_1),(2,.bool false),(3,pq b_1),(4,i6 g.Day),(5,.bool (shift_in g.Day 0 40000)),(6,.bool (shift_in g.Day 0 40000)),(10,.bool ((shift_in g.Day 0 40000) && (shift_stage g.Stage)))]) hc ?_ ?_
 ·cases hb : (shift_in g.Day 0 40000)
  ·rw [hb] at hf
   refine stS hf rfl rfl rfl fun a hf => stS hf rfl rfl rfl fun a hf => stS hf rfl rfl rfl fun a hf => sp 1 hf rfl fun a hf => cNil ⟨hf.kp rfl,hc⟩
  ·rw [hb] at hf
   refine zP hf rfl (pFA fa_50_1 rfl) fun a hf => zL hf hc sc_3 m0 rfl fun a w hf hc => zQ (v := .bool (shift_stage g.Stage)) hf hc en_35 rfl (fun w hc => shift_stage_ok g.Stage hc rfl) fun a w hf hc => sp 1 hf rfl fun a hf => cNil ⟨hf.kp rfl,hc⟩
 intro a w ⟨hf,hc⟩
 refine sp 1 hf rfl fun a hf => stCc 8 (fun a => Has 26 a [(1,pq b_1),(2,.bool false),(3,pq b_1),(4,i6 g.Day),(5,.bool (shift_in g.Day 0 40000)),(6,.bool (shift_in g.Day 0 40000)),(10,.bool ((shift_in g.Day 0 40000) && (shift_stage g.Stage))),(11,.bool ((shift_in g.Day 0 40000) && (shift_stage g.Stage))),(19,.bool (((shift_in g.Day 0 40000) && (shift_stage g.Stage)) && (shift_in g.Flow.Lo 0 g.Flow.Hi)))]) hc ?_ ?_
 ·cases hb : ((shift_in g.Day 0 40000) && (shift_stage g.Stage))
  ·rw [hb] at hf
   refine stS hf rfl rfl rfl fun a hf => stS hf rfl rfl rfl fun a hf => stS hf rfl rfl rfl fun a hf => stS hf rfl rfl rfl fun a hf => stS hf rfl rfl rfl fun a hf => stS hf rfl rfl rfl fun a hf => stS hf rfl rfl rfl fun a hf => sp 1 hf rfl fun a hf => cNil ⟨hf.kp rfl,hc⟩
  ·rw [hb] at hf
   refine zP hf rfl (pFA fa_50_2 rfl) fun a hf => zP hf rfl (pFA fa_38_0 rfl) fun a hf => zL hf hc sc_3 m0 rfl fun a w hf hc => zP hf rfl (pFA fa_50_2 rfl) fun a hf => zP hf rfl (pFA fa_38_1 rfl) fun a hf => zL hf hc sc_3 m0 rfl fun a w hf hc => zQ (v := .bool (shift_in g.Flow.Lo 0 g.Flow.Hi)) hf hc en_36 rfl (fun w hc => shift_in_ok g.Flow.Lo 0 g.Flow.Hi hc rfl) fun a w hf hc => sp 1 hf rfl fun a hf => cNil ⟨hf.kp rfl,hc⟩
 intro a w ⟨hf,hc⟩
 refine sp 1 hf rfl fun a hf => stCc 5 (fun a => Has 26 a [(1,pq b_1),(2,.bool false),(3,pq b_1),(4,i6 g.Day),(5,.bool (shift_in g.Day 0 40000)),(6,.bool (shift_in g.Day 0 40000)),(10,.bool ((shift_in g.Day 0 40000) && (shift_stage g.Stage))),(11,.bool ((shift_in g.Day 0 40000) && (shift_stage g.Stage))),(19,.bool (((shift_in g.Day 0 40000) && (shift_stage g.Stage)) && (shift_in g.Flow.Lo 0 g.Flow.Hi))),(20,.bool (((shift_in g.Day 0 40000) && (shift_stage g.Stage)) && (shift_in g.Flow.Lo 0 g.Flow.Hi))),(25,.bool ((((shift_in g.Day 0 40000) && (shift_stage g.Stage)) && (shift_in g.Flow.Lo 0 g.Flow.Hi)) && (shift_flow g.Flow.Hi)))]) hc ?_ ?_
 ·cases hb : (((shift_in g.Day 0 40000) && (shift_stage g.Stage)) && (shift_in g.Flow.Lo 0 g.Flow.Hi))
  ·rw [hb] at hf
   refine stS hf rfl rfl rfl fun a hf => stS hf rfl rfl rfl fun a hf => stS hf rfl rfl rfl fun a hf => stS hf rfl rfl rfl fun a hf => sp 1 hf rfl fun a hf => cNil ⟨hf.kp rfl,hc⟩
  ·rw [hb] at hf
   refine zP hf rfl (pFA fa_50_2 rfl) fun a hf => zP hf rfl (pFA fa_38_1 rfl) fun a hf => zL hf hc sc_3 m0 rfl fun a w hf hc => zQ (v := .bool (shift_flow g.Flow.Hi)) hf hc en_61 rfl (fun w hc => shift_flow_ok g.Flow.Hi hc rfl) fun a w hf hc => sp 1 hf rfl fun a hf => cNil ⟨hf.kp rfl,hc⟩
 intro a w ⟨hf,hc⟩
 refine sp 1 hf rfl fun a hf => zT h ?_
 refine wp_ret ?_
 obtain rfl := hF
 replace hc := hc.drop k0
 exact zO1 Try.results63 hf rfl ⟨rfl,hc⟩

def shift_every_shift_Gauging_1 (x : shift_Gauging) : Bool :=
 (!(shift_Check_1 (⟨x.Day,x.Stage,x.Flow⟩ : shift_Gauging)))
theorem shift_every_shift_Gauging_1_ok {G : Pers} {Lf : List Ent} {w : World} (x : shift_Gauging) {b_ : Nat}  (hc : Ctx G (.box b_ [.func (.func 63) #[] #[]] 132::Lf) w) {res : Bool} (hF : shift_every_shift_Gauging_1 x = res) : Calls Try.prog 81 #[.agg #[i6 x.Day,i6 x.Stage,i6 x.Flow.Lo,i6 x.Flow.Hi],pq b_] w (fun e w => e = .returned (.bool res) ∧ Ctx G (.box b_ [.func (.func 63) #[] #[]] 132::Lf) w) := by
 unfold shift_every_shift_Gauging_1 at hF
 refine fnIn Try.func81 rfl Try.ntmps81 rfl fun a hf => zS fun K h => zB hf hc rfl fun b_1 a w hf hc => sp 1 hf rfl fun a hf => zT h ?_
 refine zS fun K h => zL hf hc sc_132 m1 rfl fun a w hf hc => zN hf hc ag_50 m0 rfl fun a w hf hc => zQ (v := .bool (shift_Check_1 (⟨x.Day,x.Stage,x.Flow⟩ : shift_Gauging))) hf hc en_63 rfl (fun w hc => shift_Check_1_ok (⟨x.Day,x.Stage,x.Flow⟩ : shift_Gauging) hc rfl) fun a w hf hc => sp 2 hf rfl fun a hf => zT h ?_
 refine wp_ret ?_
 obtain rfl := hF
 replace hc := hc.drop k0
 exact zO1 Try.results81 hf rfl ⟨rfl,hc⟩

def slices_IndexFunc_Lshift_Gauging_shift_Gauging_b4 (N : Nat) (s_ : List shift_Gauging) (x : Int) : Option (Step (Int) (Int)) :=
 cond (decide (x < ((s_.length : Nat) : Int)))
 (Option.bind (getI s_ x) fun e_1 =>
 cond (shift_every_shift_Gauging_1 e_1)
 (some (.ret x))
 (some (.cont (W (x + 1)))))
 (some (.brk x))
def slices_IndexFunc_Lshift_Gauging_shift_Gauging (N : Nat) (s_ : List shift_Gauging) : Option (Int) :=
 Option.bind (loopO (fun s4 => slices_IndexFunc_Lshift_Gauging_shift_Gauging_b4 N s_ s4) N 0) fun x4 =>
 exK x4 (fun s4 => some (-1)) some
theorem slices_IndexFunc_Lshift_Gauging_shift_Gauging_ok {N : Nat} {G : Pers} {Lf : List Ent} {w : World} (s_ : List shift_Gauging) {s__p : Option Addr} {s__c : Nat} {b_ : Nat} (h_s_ : Rd G 4 s__p s__c (s_.map enc_shift_Gauging)) (hc : Ctx G (.box b_ [.func (.func 63) #[] #[]] 132::Lf) w) {res : Int} (hF : slices_IndexFunc_Lshift_Gauging_shift_Gauging N s_ = some res) : Calls Try.prog 89 #[.slice s__p s_.length s__c,.func (.func 81) #[] #[pq b_]] w (fun e w => e = .returned (i6 res) ∧ Ctx G (.box b_ [.func (.func 63) #[] #[]] 132::Lf) w) := by
 unfold slices_IndexFunc_Lshift_Gauging_shift_Gauging at hF
 refine fnIn Try.func89 rfl Try.ntmps89 rfl fun a hf => zS fun K h => sp 1 hf rfl fun a hf => zT h ?_
 refine wp_seq_k fun K2 h2 => zS fun K h => sp 1 hf rfl fun a hf => zP hf rfl (pLenS Try.underlying27 rfl) fun a hf => sp 1 hf rfl fun a hf => zT h ?_
 refine wp_block ?_
 obtain ⟨x4,hx4,hF⟩ := bnd_some hF
 let S4 : Int → Act → World → Prop := (fun (zz : Int) a w => Has 19 a [(0,.slice s__p s_.length s__c),(1,.func (.func 81) #[] #[pq b_]),(7,i6 ((s_.length : Nat) : Int)),(8,i6 zz)] ∧ Ctx G (.box b_ [.func (.func 63) #[] #[]] 132::Lf) w)
 have hr4 : ∀ (zz : Int) a w,x4 = .go zz → S4 zz a w → K2 a w := by
  rintro x a w rfl ⟨hf,hc⟩
  replace hF := exK_go hF
  refine h2 _ _ ?_
  refine zS fun K h => sp 1 hf rfl fun a hf => zT h ?_
  refine wp_ret ?_
  obtain rfl := sj hF
  exact zO1 Try.results89 hf rfl ⟨rfl,hc⟩
 have ho4 : ∀ r,x4 = .out r → r = res := by
  rintro r rfl
  exact sj hF
 refine cLoop N (loopW (S := S4) (x := x4) ?_ N 0 _ _ ⟨hf.kp rfl,hc⟩ hx4)
 clear hF hf hc
 rintro x st4 a w KB4 ⟨hf,hc⟩ hF hfin4 hK4
 unfold slices_IndexFunc_Lshift_Gauging_shift_Gauging_b4 at hF
 refine zS fun K h => sp 1 hf rfl fun a hf => zT h ?_
 refine wp_seq_k fun K7 h7 => zI hf rfl hF ?_ ?_ <;> clear hF <;> intro hF
 ·refine wp_skip ?_
  refine h7 _ _ ?_
  refine wp_seq_k fun K8 h8 => wp_block ?_
  refine zS fun K h => sp 2 hf rfl fun a hf => zT h ?_
  refine zS fun K h => sp 3 hf rfl fun a hf => ?_
  obtain ⟨e_1,he_1,hF⟩ := bnd_some hF
  obtain ⟨b_1,o,qa,qp⟩ := h_s_.atm he_1
  refine zP hf rfl (pIA Try.underlying27 sz_50 rfl rfl qa) fun a hf => zE hf hc rfl (eLdN (vs := [i6 e_1.Day,i6 e_1.Stage,i6 e_1.Flow.Lo,i6 e_1.Flow.Hi]) ag_50 rfl rfl (cells_pc qp (n := 4) (o' := 0) rfl)) fun a w hf hc => zQ (v := .bool (shift_every_shift_Gauging_1 e_1)) hf hc en_81 rfl (fun w hc => (shift_every_shift_Gauging_1_ok e_1 (hc.pick k0) rfl).mono fun e w h => ⟨h.1,(h.2.unpick k0)⟩) fun a w hf hc => zT h ?_
  refine zI hf rfl hF ?_ ?_ <;> clear hF <;> intro hF
  ·refine zS fun K h => sp 2 hf rfl fun a hf => zT h ?_
   refine wp_ret ?_
   refine xBlkR ?_
   refine xThenR ?_
   refine xThenR ?_
   have he := sj hF
   rw [← he] at hfin4
   replace hF := ho4 _ hfin4
   refine xBlkR ?_
   refine xThenR ?_
   obtain rfl := hF
   exact zO1 Try.results89 hf rfl ⟨rfl,hc⟩
  ·refine wp_skip ?_
   refine h8 _ _ ?_
   refine cReg ?_
   refine sp 2 hf rfl fun a hf => cNil ?_
   exact hK4 (W (x + 1)) _ _ (sj hF).symm ⟨hf.kp rfl,hc⟩
 ·refine wp_exit ?_
  refine xThen ?_
  refine xThen ?_
  have he := sj hF
  rw [← he] at hfin4
  refine cHit ?_
  exact hr4 _ _ _ hfin4 ⟨hf.kp rfl,hc⟩

def slices_ContainsFunc_Lshift_Gauging_shift_Gauging (N : Nat) (s_ : List shift_Gauging) : Option (Bool) :=
 Option.bind (slices_IndexFunc_Lshift_Gauging_shift_Gauging N s_) fun r =>
 some (decide (0 ≤ r))
theorem slices_ContainsFunc_Lshift_Gauging_shift_Gauging_ok {N : Nat} {G : Pers} {Lf : List Ent} {w : World} (s_ : List shift_Gauging) {s__p : Option Addr} {s__c : Nat} {b_ : Nat} (h_s_ : Rd G 4 s__p s__c (s_.map enc_shift_Gauging)) (hc : Ctx G (.box b_ [.func (.func 63) #[] #[]] 132::Lf) w) {res : Bool} (hF : slices_ContainsFunc_Lshift_Gauging_shift_Gauging N s_ = some res) : Calls Try.prog 80 #[.slice s__p s_.length s__c,.func (.func 81) #[] #[pq b_]] w (fun e w => e = .returned (.bool res) ∧ Ctx G (.box b_ [.func (.func 63) #[] #[]] 132::Lf) w) := by
 unfold slices_ContainsFunc_Lshift_Gauging_shift_Gauging at hF
 refine fnIn Try.func80 rfl Try.ntmps80 rfl fun a hf => zS fun K h => sp 1 hf rfl fun a hf => zT h ?_
 refine zS fun K h => sp 2 hf rfl fun a hf => ?_
 obtain ⟨r,hr,hF⟩ := bnd_some hF
 refine zQ (v := i6 r) hf hc en_89 rfl (fun w hc => (slices_IndexFunc_Lshift_Gauging_shift_Gauging_ok s_ h_s_ (hc.pick k0) hr).mono fun e w h => ⟨h.1,(h.2.unpick k0)⟩) fun a w hf hc => sp 2 hf rfl fun a hf => zT h ?_
 refine wp_ret ?_
 obtain rfl := sj hF
 exact zO1 Try.results80 hf rfl ⟨rfl,hc⟩

def shift_every_shift_Gauging (N : Nat) (l : List shift_Gauging) : Option (Bool) :=
 Option.bind (slices_ContainsFunc_Lshift_Gauging_shift_Gauging N l) fun r =>
 some (!r)
theorem shift_every_shift_Gauging_ok {N : Nat} {G : Pers} {Lf : List Ent} {w : World} (l : List shift_Gauging) {l_p : Option Addr} {l_c : Nat} (h_l : Rd G 4 l_p l_c (l.map enc_shift_Gauging)) (hc : Ctx G (Lf) w) {res : Bool} (hF : shift_every_shift_Gauging N l = some res) : Calls Try.prog 62 #[.slice l_p l.length l_c,.func (.func 63) #[] #[]] w (fun e w => e = .returned (.bool res) ∧ Ctx G (Lf) w) := by
 unfold shift_every_shift_Gauging at hF
 refine fnIn Try.func62 rfl Try.ntmps62 rfl fun a hf => zS fun K h => zB hf hc rfl fun b_1 a w hf hc => sp 1 hf rfl fun a hf => zT h ?_
 refine zS fun K h => sp 1 hf rfl fun a hf => zP hf rfl (pMF (us := [pq b_1]) rfl rfl) fun a hf => ?_
 obtain ⟨r,hr,hF⟩ := bnd_some hF
 refine zQ (v := .bool r) hf hc en_80 rfl (fun w hc => (slices_ContainsFunc_Lshift_Gauging_shift_Gauging_ok l h_l (hc.pick k0) hr).mono fun e w h => ⟨h.1,(h.2.unpick k0)⟩) fun a w hf hc => sp 2 hf rfl fun a hf => zT h ?_
 refine wp_ret ?_
 obtain rfl := sj hF
 replace hc := hc.drop k0
 exact zO1 Try.results62 hf rfl ⟨rfl,hc⟩

def shift_Check_b14 (N : Nat) (r : shift_Record) (x : Int) : Option (Step (Int) (Int)) :=
 cond (decide (x < ((r.Gaugings.length : Nat) : Int)))
 (Option.bind (getI r.Gaugings x) fun e_1 =>
 Option.bind (cond (decide (0 < x)) (Option.bind (getI r.Gaugings (W (x - 1))) fun e_2 =>
 some (decide (e_1.Day ≤ e_2.Day))) (some false)) fun t_1 =>
 cond t_1
 (some (.ret 9))
 (some (.cont (W (x + 1)))))
 (some (.brk x))
def shift_Check (N : Nat) (r : shift_Record) : Option (Int) :=
 Option.bind (shift_rated N r.Rating) fun r_0 =>
 cond ((r_0 == 3) || (!(shift_in ((r.Gaugings.length : Nat) : Int) 1 30)))
 (some 3)
 (cond (r_0 != 0)
 (some r_0)
 (Option.bind (shift_every_shift_Gauging N r.Gaugings) fun r_1 =>
 cond (!r_1)
 (some 60)
 (Option.bind (shift_rises N r.Rating) fun r_2 =>
 cond (!r_2)
 (some 9)
 (Option.bind (loopO (fun s14 => shift_Check_b14 N r s14) N 0) fun x14 =>
 exK x14 (fun s14 => some 0) some))))
theorem shift_Check_ok {N : Nat} {G : Pers} {Lf : List Ent} {w : World} (r : shift_Record) {r_Rating_p : Option Addr} {r_Rating_c : Nat} {r_Gaugings_p : Option Addr} {r_Gaugings_c : Nat} (h_r_Rating : Rd G 2 r_Rating_p r_Rating_c (r.Rating.map enc_shift_Mark)) (h_r_Gaugings : Rd G 4 r_Gaugings_p r_Gaugings_c (r.Gaugings.map enc_shift_Gauging)) (hc : Ctx G (Lf) w) {res : Int} (hF : shift_Check N r = some res) : Calls Try.prog 41 #[.agg #[.slice r_Rating_p r.Rating.length r_Rating_c,.slice r_Gaugings_p r.Gaugings.length r_Gaugings_c]] w (fun e w => e = .returned (i6 res) ∧ Ctx G (Lf) w) := by
 unfold shift_Check at hF
 refine fnIn Try.func41 rfl Try.ntmps41 rfl fun a hf => zS fun K h => zB hf hc rfl fun b_1 a w hf hc => sp 1 hf rfl fun a hf => zT h ?_
 refine zS fun K h => zP hf rfl (pFA fa_29_0 rfl) fun a hf => zL hf hc sc_25 m0 rfl fun a w hf hc => ?_
 obtain ⟨r_0,hr_0,hF⟩ := bnd_some hF
 refine zQ (v := i6 r_0) hf hc en_33 rfl (fun w hc => shift_rated_ok r.Rating h_r_Rating hc hr_0) fun a w hf hc => sp 1 hf rfl fun a hf => zT h ?_
 refine wp_seq_k fun K3 h3 => wp_block ?_
 refine zS fun K h => sp 3 hf rfl fun a hf => stCc 6 (fun a => Has 56 a [(1,pq b_1),(3,i6 r_0),(10,i6 r_0),(11,.bool (r_0 == 3)),(12,.bool (r_0 == 3)),(18,.bool ((r_0 == 3) || (!(shift_in ((r.Gaugings.length : Nat) : Int) 1 30))))]) hc ?_ ?_
 ·cases hb : (r_0 == 3)
  ·rw [hb] at hf
   refine zP hf rfl (pFA fa_29_1 rfl) fun a hf => zL hf hc sc_27 m0 rfl fun a w hf hc => zP hf rfl (pLenS Try.underlying27 rfl) fun a hf => zQ (v := .bool (shift_in ((r.Gaugings.length : Nat) : Int) 1 30)) hf hc en_36 rfl (fun w hc => shift_in_ok ((r.Gaugings.length : Nat) : Int) 1 30 hc rfl) fun a w hf hc => sp 2 hf rfl fun a hf => cNil ⟨hf.kp rfl,hc⟩
  ·rw [hb] at hf
   refine stS hf rfl rfl rfl fun a hf => stS hf rfl rfl rfl fun a hf => stS hf rfl rfl rfl fun a hf => stS hf rfl rfl rfl fun a hf => stS hf rfl rfl rfl fun a hf => sp 1 hf rfl fun a hf => cNil ⟨hf.kp rfl,hc⟩
 intro a w ⟨hf,hc⟩
 refine sp 1 hf rfl fun a hf => zT h ?_
 refine zI hf rfl hF ?_ ?_ <;> clear hF <;> intro hF
 ·refine zS fun K h => sp 1 hf rfl fun a hf => zT h ?_
  refine wp_ret ?_
  refine xBlkR ?_
  refine xThenR ?_
  obtain rfl := sj hF
  replace hc := hc.drop k0
  exact zO1 Try.results41 hf rfl ⟨rfl,hc⟩
 ·refine zS fun K h => sp 3 hf rfl fun a hf => zT h ?_
  refine zI hf rfl hF ?_ ?_ <;> clear hF <;> intro hF
  ·refine zS fun K h => sp 2 hf rfl fun a hf => zT h ?_
   refine wp_ret ?_
   refine xBlkR ?_
   refine xThenR ?_
   obtain rfl := sj hF
   replace hc := hc.drop k0
   exact zO1 Try.results41 hf rfl ⟨rfl,hc⟩
  ·refine zS fun K h => zP hf rfl (pFA fa_29_1 rfl) fun a hf => zL hf hc sc_27 m0 rfl fun a w hf hc => ?_
   obtain ⟨r_1,hr_1,hF⟩ := bnd_some hF
   refine zQ (v := .bool r_1) hf hc en_62 rfl (fun w hc => shift_every_shift_Gauging_ok r.Gaugings h_r_Gaugings hc hr_1) fun a w hf hc => sp 2 hf rfl fun a hf => zT h ?_
   refine zI hf rfl hF ?_ ?_ <;> clear hF <;> intro hF
   ·refine zS fun K h => sp 1 hf rfl fun a hf => zT h ?_
    refine wp_ret ?_
    refine xBlkR ?_
    refine xThenR ?_
    obtain rfl := sj hF
    replace hc := hc.drop k0
    exact zO1 Try.results41 hf rfl ⟨rfl,hc⟩
   ·refine zS fun K h => zP hf rfl (pFA fa_29_0 rfl) fun a hf => zL hf hc sc_25 m0 rfl fun a w hf hc => ?_
    obtain ⟨r_2,hr_2,hF⟩ := bnd_some hF
    refine zQ (v := .bool r_2) hf hc en_34 rfl (fun w hc => shift_rises_ok r.Rating h_r_Rating hc hr_2) fun a w hf hc => sp 2 hf rfl fun a hf => zT h ?_
    refine zI hf rfl hF ?_ ?_ <;> clear hF <;> intro hF
    ·refine zS fun K h => sp 1 hf rfl fun a hf => zT h ?_
     refine wp_ret ?_
     refine xBlkR ?_
     refine xThenR ?_
     obtain rfl := sj hF
     replace hc := hc.drop k0
     exact zO1 Try.results41 hf rfl ⟨rfl,hc⟩
    ·refine wp_skip ?_
     refine h3 _ _ ?_
     refine wp_seq_k fun K12 h12 => zS fun K h => zP hf rfl (pFA fa_29_1 rfl) fun a hf => zL hf hc sc_27 m0 rfl fun a w hf hc => zP hf rfl (pLenS Try.underlying27 rfl) fun a hf => sp 1 hf rfl fun a hf => zT h ?_
     refine wp_block ?_
     obtain ⟨x14,hx14,hF⟩ := bnd_some hF
     let S14 : Int → Act → World → Prop := (fun (zz : Int) a w => Has 56 a [(1,pq b_1),(34,.slice r_Gaugings_p r.Gaugings.length r_Gaugings_c),(35,i6 ((r.Gaugings.length : Nat) : Int)),(36,i6 zz)] ∧ Ctx G (.box b_1 [.slice r_Rating_p r.Rating.length r_Rating_c,.slice r_Gaugings_p r.Gaugings.length r_Gaugings_c] 29::Lf) w)
     have hr14 : ∀ (zz : Int) a w,x14 = .go zz → S14 zz a w → K12 a w := by
      rintro x a w rfl ⟨hf,hc⟩
      replace hF := exK_go hF
      refine h12 _ _ ?_
      refine zS fun K h => sp 1 hf rfl fun a hf => zT h ?_
      refine wp_ret ?_
      obtain rfl := sj hF
      replace hc := hc.drop k0
      exact zO1 Try.results41 hf rfl ⟨rfl,hc⟩
     have ho14 : ∀ r,x14 = .out r → r = res := by
      rintro r rfl
      exact sj hF
     refine cLoop N (loopW (S := S14) (x := x14) ?_ N 0 _ _ ⟨hf.kp rfl,hc⟩ hx14)
     clear hF hf hc
     rintro x st14 a w KB14 ⟨hf,hc⟩ hF hfin14 hK14
     unfold shift_Check_b14 at hF
     refine zS fun K h => sp 1 hf rfl fun a hf => zT h ?_
     refine wp_seq_k fun K17 h17 => zI hf rfl hF ?_ ?_ <;> clear hF <;> intro hF
     ·refine wp_skip ?_
      refine h17 _ _ ?_
      refine wp_seq_k fun K18 h18 => wp_block ?_
      refine zS fun K h => sp 1 hf rfl fun a hf => ?_
      obtain ⟨e_1,he_1,hF⟩ := bnd_some hF
      obtain ⟨b_2,o,qa,qp⟩ := h_r_Gaugings.atm he_1
      refine zP hf rfl (pIA Try.underlying27 sz_50 rfl rfl qa) fun a hf => zE hf hc rfl (eLdN (vs := [i6 e_1.Day,i6 e_1.Stage,i6 e_1.Flow.Lo,i6 e_1.Flow.Hi]) ag_50 rfl rfl (cells_pc qp (n := 4) (o' := 0) rfl)) fun a w hf hc => zA hf hc zr_50 rfl fun b_3 a w hf hc => sp 1 hf rfl fun a hf => zW hf hc sz_50 u0 rfl fun w hc => zT h ?_
      refine wp_seq_k fun K20 h20 => ?_
      obtain ⟨t_1,ht_1,hF⟩ := bnd_some hF
      refine cQ hc follows_mx (by kernel_rfl) ?_
      refine qE hf rfl rfl rfl (Pu.ev (pM rfl)) fun a hf => qE hf rfl rfl rfl (Pu.ev (pGt rfl rfl)) fun a hf => qE hf rfl rfl rfl (Pu.ev (pM rfl)) fun a hf => qCut 11 (fun a => Has 56 a [(1,pq b_1),(34,.slice r_Gaugings_p r.Gaugings.length r_Gaugings_c),(35,i6 ((r.Gaugings.length : Nat) : Int)),(36,i6 x),(5,pq b_3),(4,i6 x),(41,i6 x),(42,.bool (decide (0 < x))),(43,.bool (decide (0 < x))),(54,.bool t_1)]) ?_ ?_
      ·cases hb : (decide (0 < x))
       ·rw [hb] at hf
        have hF := condF hb ht_1
        obtain rfl := sj hF
        refine qS hf rfl rfl rfl fun a hf => qS hf rfl rfl rfl fun a hf => qS hf rfl rfl rfl fun a hf => qS hf rfl rfl rfl fun a hf => qS hf rfl rfl rfl fun a hf => qS hf rfl rfl rfl fun a hf => qS hf rfl rfl rfl fun a hf => qS hf rfl rfl rfl fun a hf => qS hf rfl rfl rfl fun a hf => qS hf rfl rfl rfl fun a hf => qE hf rfl rfl rfl (Pu.ev (pPf rfl rfl)) fun a hf => qNil (hf.kp rfl)
       ·rw [hb] at hf
        have hF := condT hb ht_1
        obtain ⟨e_2,he_2,hF⟩ := bnd_some hF
        obtain ⟨b_4,o_1,qa_1,qp_1⟩ := h_r_Gaugings.atm he_2
        refine qE hf rfl rfl rfl (Pu.ev (pFA fa_50_0 rfl)) fun a hf => qE hf rfl rfl rfl (eLd1 sc_3 rfl (cell_box m0 rfl)) fun a hf => qE hf rfl rfl rfl (Pu.ev (pFA fa_29_1 rfl)) fun a hf => qE hf rfl rfl rfl (eLd1 sc_27 rfl (cell_box m1 rfl)) fun a hf => qE hf rfl rfl rfl (Pu.ev (pM rfl)) fun a hf => qE hf rfl rfl rfl (Pu.ev (pSub rfl rfl)) fun a hf => qE hf rfl rfl rfl (Pu.ev (pIA Try.underlying27 sz_50 rfl rfl qa_1)) fun a hf => qE hf rfl rfl rfl (Pu.ev (pFA fa_50_0 rfl)) fun a hf => qE hf rfl rfl rfl (eLd1 sc_3 rfl (cell_pc (j := 0) qp_1 rfl)) fun a hf => qE hf rfl rfl rfl (Pu.ev (pLe rfl rfl)) fun a hf => qE hf rfl rfl rfl (Pu.ev (pPt rfl rfl)) fun a hf => ?_
        obtain rfl := sj hF
        exact qNil (hf.kp rfl)
      intro a hf
      intro w hc
      refine h20 _ _ ?_
      refine zI hf rfl hF ?_ ?_ <;> clear hF <;> intro hF
      ·refine zS fun K h => sp 1 hf rfl fun a hf => zT h ?_
       refine wp_ret ?_
       refine xBlkR ?_
       refine xThenR ?_
       refine xThenR ?_
       have he := sj hF
       rw [← he] at hfin14
       replace hF := ho14 _ hfin14
       refine xBlkR ?_
       refine xThenR ?_
       obtain rfl := hF
       replace hc := (hc.drop k1).drop k0
       exact zO1 Try.results41 hf rfl ⟨rfl,hc⟩
      ·refine wp_skip ?_
       refine h18 _ _ ?_
       refine cReg ?_
       refine sp 2 hf rfl fun a hf => cNil ?_
       replace hc := hc.drop k0
       exact hK14 (W (x + 1)) _ _ (sj hF).symm ⟨hf.kp rfl,hc⟩
     ·refine wp_exit ?_
      refine xThen ?_
      refine xThen ?_
      have he := sj hF
      rw [← he] at hfin14
      refine cHit ?_
      exact hr14 _ _ _ hfin14 ⟨hf.kp rfl,hc⟩

def shift_shifts  : Unit :=
 ()
theorem shift_shifts_ok {G : Pers} {Lf : List Ent} {w : World}    (hc : Ctx G (Lf) w) {res : Unit} (hF : shift_shifts = res) : Calls Try.prog 21 #[] w (fun e w => e = .returned (.func (.func 47) #[] #[]) ∧ Ctx G (Lf) w) := by
 unfold shift_shifts at hF
 refine fnIn Try.func21 rfl Try.ntmps21 rfl fun a hf => zS fun K h => sp 1 hf rfl fun a hf => zT h ?_
 refine zS fun K h => sp 1 hf rfl fun a hf => zT h ?_
 refine wp_ret ?_
 obtain rfl := hF
 exact zO1 Try.results21 hf rfl ⟨rfl,hc⟩

def shift_shifts_1_b3 (N : Nat) {σ : Type} (y : σ → (Int × Int) → Option (σ × Bool)) (x : Int) (sg : σ) : Option (Step (Int × σ) (σ)) :=
 cond (decide (x < 601))
 (Option.bind (y sg (x,W (x - 300))) fun ry =>
 cond (!ry.2)
 (some (.ret ry.1))
 (some (.cont (W (x + 1),ry.1))))
 (some (.brk (x,sg)))
def shift_shifts_1 (N : Nat) {σ : Type} (y : σ → (Int × Int) → Option (σ × Bool)) (sg0 : σ) : Option (σ) :=
 Option.bind (loopO (fun s3 => shift_shifts_1_b3 N y s3.1 s3.2) N (0,sg0)) fun x3 =>
 exK x3 (fun s3 => some s3.2) some
theorem shift_shifts_1_ok {N : Nat} {G : Pers} {Lf : List Ent} {w : World} {σ : Type}    (J : σ → List Ent → Prop) (y : σ → (Int × Int) → Option (σ × Bool)) {l : Nat} (hy : YieldsTo Try.prog G l (fun x : (Int × Int) => [i6 x.1,i6 x.2]) J y) (sg0 : σ) {Ls0 : List Ent} (hJ0 : J sg0 Ls0) (hc : Ctx G ((Ls0 ++ Lf)) w) {res : σ} (hF : shift_shifts_1 N  y sg0 = some res) : Calls Try.prog 47 #[.func (.yield l) #[] #[]] w (fun e w => (∃ v,e = .returned v) ∧ ∃ L,J res L ∧ Ctx G ((L ++ Lf)) w) := by
 unfold shift_shifts_1 at hF
 refine fnIn Try.func47 rfl Try.ntmps47 rfl fun a hf => zS fun K h => sp 1 hf rfl fun a hf => zT h ?_
 refine wp_thenK fun K2 h2 => wp_block ?_
 obtain ⟨x3,hx3,hF⟩ := bnd_some hF
 let S3 : (Int × σ) → Act → World → Prop := (fun (zz : Int × σ) a w => ∃ (Ls : List Ent),J zz.2 Ls ∧ Has 13 a [(0,.func (.yield l) #[] #[]),(3,i6 zz.1)] ∧ Ctx G ((Ls ++ Lf)) w)
 have hr3 : ∀ (zz : Int × σ) a w,x3 = .go zz → S3 zz a w → K2 a w := by
  rintro ⟨x,sg⟩ a w rfl ⟨Ls,hJ,hf,hc⟩
  replace hF := exK_go hF
  refine h2 _ _ ?_
  obtain rfl := sj hF
  exact fnOut0 (by simp) rfl Try.results47 hf ⟨⟨_,rfl⟩,Ls,hJ,hc⟩
 have ho3 : ∀ r,x3 = .out r → r = res := by
  rintro r rfl
  exact sj hF
 refine cLoop N (loopW (S := S3) (x := x3) ?_ N (0,sg0) _ _ ⟨Ls0,hJ0,hf.kp rfl,hc⟩ hx3)
 clear hF hf hc
 rintro ⟨x,sg⟩ st3 a w KB3 ⟨Ls,hJ,hf,hc⟩ hF hfin3 hK3
 unfold shift_shifts_1_b3 at hF
 refine zS fun K h => sp 1 hf rfl fun a hf => zT h ?_
 refine wp_seq_k fun K5 h5 => zI hf rfl hF ?_ ?_ <;> clear hF <;> intro hF
 ·refine wp_skip ?_
  refine h5 _ _ ?_
  refine wp_seq_k fun K6 h6 => wp_block ?_
  refine zS fun K h => sp 2 hf rfl fun a hf => zT h ?_
  refine wp_seq_k fun K8 h8 => ?_
  obtain ⟨ry,hry,hF⟩ := bnd_some hF
  refine yReg 4 (fun a w => Has 13 a [(0,.func (.yield l) #[] #[]),(3,i6 x),(2,i6 x),(6,.func (.yield l) #[] #[]),(7,i6 x),(8,i6 x),(9,i6 (W (x - 300)))] ∧ Ctx G ((Ls ++ Lf)) w) (fun _ _ h => by obtain ⟨⟨_,h⟩,_⟩ := h; cases h) ?_ ?_
  ·refine sp 4 hf rfl fun a hf => cNil ⟨hf.kp rfl,hc⟩
  rintro a w ⟨hf,hc⟩
  refine stY (own := []) (v := (x,W (x - 300))) hy hJ hry hf hc rfl rfl rfl rfl rfl rfl fun a w Ls_1 hJ_1 hf hc => ?_
  replace hc : Ctx G ((Ls_1 ++ Lf)) w := hc
  refine yRest (fun _ _ h => by obtain ⟨⟨_,h⟩,_⟩ := h; cases h) ?_
  refine sp 1 hf rfl fun a hf => cNil ?_
  refine h8 _ _ ?_
  refine zI hf rfl hF ?_ ?_ <;> clear hF <;> intro hF
  ·refine wp_ret ?_
   refine xBlkR ?_
   refine xThenR ?_
   refine xThenR ?_
   have he := sj hF
   rw [← he] at hfin3
   replace hF := ho3 _ hfin3
   refine xBlkR ?_
   refine xThenR ?_
   obtain rfl := hF
   exact fnOut0 (by simp) rfl Try.results47 hf ⟨⟨_,rfl⟩,Ls_1,hJ_1,hc⟩
  ·refine wp_skip ?_
   refine h6 _ _ ?_
   refine cReg ?_
   refine sp 2 hf rfl fun a hf => cNil ?_
   exact hK3 (W (x + 1),ry.1) _ _ (sj hF).symm ⟨Ls_1,hJ_1,hf.kp rfl,hc⟩
 ·refine wp_exit ?_
  refine xThen ?_
  refine xThen ?_
  have he := sj hF
  rw [← he] at hfin3
  refine cHit ?_
  exact hr3 _ _ _ hfin3 ⟨Ls,hJ,hf.kp rfl,hc⟩

def shift_book_passed (N : Nat) (w_ : shift_book) (g : shift_Gauging) (shift : Int) : Option (Bool) :=
 Option.bind (shift_means N w_.Record.Rating (W (g.Stage - shift))) fun r =>
 some ((decide ((W (g.Flow.Lo * r.D)) ≤ r.N)) && (decide (r.N ≤ (W (g.Flow.Hi * r.D)))))
theorem shift_book_passed_ok {N : Nat} {G : Pers} {Lf : List Ent} {w : World} (w_ : shift_book) (g : shift_Gauging) (shift : Int) {b_ : Nat} {w__Record_Rating_p : Option Addr} {w__Record_Rating_c : Nat} {w__Record_Gaugings_p : Option Addr} {w__Record_Gaugings_c : Nat} {w__passes_p : Option Addr} {w__passes_c : Nat} (h_w__Record_Rating : Rd G 2 w__Record_Rating_p w__Record_Rating_c (w_.Record.Rating.map enc_shift_Mark)) (h_w__Record_Gaugings : Rd G 4 w__Record_Gaugings_p w__Record_Gaugings_c (w_.Record.Gaugings.map enc_shift_Gauging)) (h_w__passes : Rd G 2 w__passes_p w__passes_c (w_.passes.map enc_api_Span)) (hc : Ctx G (.box b_ [.slice w__Record_Rating_p w_.Record.Rating.length w__Record_Rating_c,.slice w__Record_Gaugings_p w_.Record.Gaugings.length w__Record_Gaugings_c,.slice w__passes_p w_.passes.length w__passes_c] 80::Lf) w) {res : Bool} (hF : shift_book_passed N w_ g shift = some res) : Calls Try.prog 42 #[pq b_,.agg #[i6 g.Day,i6 g.Stage,i6 g.Flow.Lo,i6 g.Flow.Hi],i6 shift] w (fun e w => e = .returned (.bool res) ∧ Ctx G (.box b_ [.slice w__Record_Rating_p w_.Record.Rating.length w__Record_Rating_c,.slice w__Record_Gaugings_p w_.Record.Gaugings.length w__Record_Gaugings_c,.slice w__passes_p w_.passes.length w__passes_c] 80::Lf) w) := by
 unfold shift_book_passed at hF
 refine fnIn Try.func42 rfl Try.ntmps42 rfl fun a hf => zS fun K h => zB hf hc rfl fun b_1 a w hf hc => sp 1 hf rfl fun a hf => zT h ?_
 refine wp_seq_k fun K2 h2 => ?_
 obtain ⟨r,hr,hF⟩ := bnd_some hF
 replace hc := hc.nilRow 0 0
 refine regionE (fun θ => [⟨none,none,0,pq b_⟩,⟨none,none,2,i6 shift⟩,⟨none,none,4,pq b_1⟩,⟨some 0,none,8,pq b_⟩,⟨some 1,none,9,pq b_⟩,⟨some 2,none,10,pq b_⟩,⟨some 3,none,11,pq b_⟩,⟨some 4,none,12,.slice w__Record_Rating_p w_.Record.Rating.length w__Record_Rating_c⟩,⟨some 5,none,13,.pointer (some ⟨b_1,1,none⟩)⟩,⟨some 6,none,14,i6 g.Stage⟩,⟨some 7,none,15,i6 shift⟩,⟨some 8,none,16,i6 (W (g.Stage - shift))⟩,⟨some 9,none,17,.agg #[i6 r.N,i6 r.D]⟩,⟨some 10,none,7,.pointer (some ⟨(θ 80).b,0,none⟩)⟩]) (fun E θ => (bif E 11 then .box (θ 80).b [i6 r.N,i6 r.D] 45 else bif E 10 then .box (θ 80).b [i6 0,i6 0] 45 else .row none 0 [] 0 0)::.box b_1 [i6 g.Day,i6 g.Stage,i6 g.Flow.Lo,i6 g.Flow.Hi] 50::.box b_ [.slice w__Record_Rating_p w_.Record.Rating.length w__Record_Rating_c,.slice w__Record_Gaugings_p w_.Record.Gaugings.length w__Record_Gaugings_c,.slice w__passes_p w_.passes.length w__passes_c] 80::Lf) [(11,10)] (fun a w => ∃ (b_3 : Nat),Has 38 a [(4,pq b_1),(7,pq b_3)] ∧ Ctx G (.box b_3 [i6 r.N,i6 r.D] 45::.box b_1 [i6 g.Day,i6 g.Stage,i6 g.Flow.Lo,i6 g.Flow.Hi] 50::.box b_ [.slice w__Record_Rating_p w_.Record.Rating.length w__Record_Rating_c,.slice w__Record_Gaugings_p w_.Record.Gaugings.length w__Record_Gaugings_c,.slice w__passes_p w_.passes.length w__passes_c] 80::Lf) w) follows_mx (by kernel_rfl) (by kernel_rfl) (HasE.of hf ⟨rfl,rfl,rfl,trivial,trivial,trivial,trivial,trivial,trivial,trivial,trivial,trivial,trivial,trivial,trivial⟩) hc ⟨?_,?_,?_,?_,?_,?_,?_,?_,?_,?_,?_,?_,trivial⟩ ?_ ?_
 ·intro E θ a w hD hi hp he hc
  have hf := he.h0.mT he 0 rfl
  refine sp 1 hf rfl fun a hf => zD θ he hi hf 3 rfl rfl rfl hc
 ·intro E θ a w hD hi hp he hc
  have e0 := hp.o 0 rfl
  have hf := he.h0.mP he 3 rfl e0
  refine sp 1 hf rfl fun a hf => zD θ he hi hf 4 rfl rfl rfl hc
 ·intro E θ a w hD hi hp he hc
  have e1 := hp.o 1 rfl
  have hf := he.h0.mP he 4 rfl e1
  refine zP hf rfl (pFA fa_80_0 rfl) fun a hf => zD θ he hi hf 5 rfl rfl rfl hc
 ·intro E θ a w hD hi hp he hc
  have e2 := hp.o 2 rfl
  have hf := he.h0.mP he 5 rfl e2
  refine zP hf rfl (pFA fa_29_0 rfl) fun a hf => zD θ he hi hf 6 rfl rfl rfl hc
 ·intro E θ a w hD hi hp he hc
  have e3 := hp.o 3 rfl
  have hf := he.h0.mP he 6 rfl e3
  refine zL hf hc sc_25 m2 rfl fun a w hf hc => zD θ he hi hf 7 rfl rfl rfl hc
 ·intro E θ a w hD hi hp he hc
  have hf := he.h0.mT he 2 rfl
  refine zP hf rfl (pFA fa_50_1 rfl) fun a hf => zD θ he hi hf 8 rfl rfl rfl hc
 ·intro E θ a w hD hi hp he hc
  have e5 := hp.o 5 rfl
  have hf := he.h0.mP he 8 rfl e5
  refine zL hf hc sc_3 m1 rfl fun a w hf hc => zD θ he hi hf 9 rfl rfl rfl hc
 ·intro E θ a w hD hi hp he hc
  have hf := he.h0.mT he 1 rfl
  refine sp 1 hf rfl fun a hf => zD θ he hi hf 10 rfl rfl rfl hc
 ·intro E θ a w hD hi hp he hc
  have e6 := hp.o 6 rfl
  have e7 := hp.o 7 rfl
  have hf := (he.h0.mP he 9 rfl e6).mP he 10 rfl e7
  refine sp 1 hf rfl fun a hf => zD θ he hi hf 11 rfl rfl rfl hc
 ·intro E θ a w hD hi hp he hc
  have e4 := hp.o 4 rfl
  have e8 := hp.o 8 rfl
  have hf := (he.h0.mP he 7 rfl e4).mP he 11 rfl e8
  refine zQ (v := .agg #[i6 r.N,i6 r.D]) hf hc en_17 rfl (fun w hc => shift_means_ok w_.Record.Rating (W (g.Stage - shift)) h_w__Record_Rating hc hr) fun a w hf hc => zD θ he hi hf 12 rfl rfl rfl hc
 ·intro E θ a w hD hi hp he hc
  have e11 := hD.f 0 rfl hi
  try dsimp only at hc
  rw [hi,e11] at hc
  have hf := he.h0
  refine zA hf hc zr_45 rfl fun b_2 a w hf hc => cNil ?_
  refine xThenN ?_
  intro ds u hau
  replace hc := hc.drop k1
  refine ⟨(setT θ 80 ⟨b_2,none,0,(fun _ => (none,0))⟩),he.put hi hau hf rfl [] trivial ⟨qq,qq,qq,qq,qq,qq,qq,qq,qq,qq,qq,qq,qq,qq,trivial⟩,?_⟩
  try dsimp only
  rw [updE_self E 10,updE_fls 10 e11 rfl]
  exact hc
 ·intro E θ a w hD hi hp he hc
  have e9 := hp.o 9 rfl
  have e10 := hp.o 10 rfl
  try dsimp only at hc
  rw [e10,hi] at hc
  have hf := (he.h0.mP he 12 rfl e9).mP he 13 rfl e10
  refine zW hf hc sz_45 u0 rfl fun w hc => zG θ he hi hf rfl ?_
  try dsimp only
  rw [updE_tru 11 e10,updE_self E 11]
  exact hc
 ·intro E θ a w hall he hc
  have hf := he.h0
  have e10 := hall 10 rfl
  have e11 := hall 11 rfl
  replace hf := hf.more he 13 rfl (onP e10)
  replace hf := hf.more he 2 rfl (onT)
  try dsimp only at hc
  rw [e10,e11] at hc
  exact ⟨(θ 80).b,hf.kp rfl,hc⟩
 rintro a w ⟨b_3,hf,hc⟩
 refine h2 _ _ ?_
 refine zS fun K h => zP hf rfl (pFA fa_45_0 rfl) fun a hf => zL hf hc sc_3 m0 rfl fun a w hf hc => zP hf rfl (pFA fa_50_2 rfl) fun a hf => zP hf rfl (pFA fa_38_0 rfl) fun a hf => zL hf hc sc_3 m1 rfl fun a w hf hc => zP hf rfl (pFA fa_45_1 rfl) fun a hf => zL hf hc sc_3 m0 rfl fun a w hf hc => sp 3 hf rfl fun a hf => stCc 10 (fun a => Has 38 a [(4,pq b_1),(7,pq b_3),(18,pq b_3),(19,i6 r.N),(20,.pointer (some ⟨b_1,2,none⟩)),(21,.pointer (some ⟨b_1,2,none⟩)),(22,i6 g.Flow.Lo),(23,.pointer (some ⟨b_3,1,none⟩)),(24,i6 r.D),(25,i6 (W (g.Flow.Lo * r.D))),(26,.bool (decide ((W (g.Flow.Lo * r.D)) ≤ r.N))),(27,.bool (decide ((W (g.Flow.Lo * r.D)) ≤ r.N))),(37,.bool ((decide ((W (g.Flow.Lo * r.D)) ≤ r.N)) && (decide (r.N ≤ (W (g.Flow.Hi * r.D))))))]) hc ?_ ?_
 ·cases hb : (decide ((W (g.Flow.Lo * r.D)) ≤ r.N))
  ·rw [hb] at hf
   refine stS hf rfl rfl rfl fun a hf => stS hf rfl rfl rfl fun a hf => stS hf rfl rfl rfl fun a hf => stS hf rfl rfl rfl fun a hf => stS hf rfl rfl rfl fun a hf => stS hf rfl rfl rfl fun a hf => stS hf rfl rfl rfl fun a hf => stS hf rfl rfl rfl fun a hf => stS hf rfl rfl rfl fun a hf => sp 1 hf rfl fun a hf => cNil ⟨hf.kp rfl,hc⟩
  ·rw [hb] at hf
   refine zP hf rfl (pFA fa_45_0 rfl) fun a hf => zL hf hc sc_3 m0 rfl fun a w hf hc => zP hf rfl (pFA fa_50_2 rfl) fun a hf => zP hf rfl (pFA fa_38_1 rfl) fun a hf => zL hf hc sc_3 m1 rfl fun a w hf hc => zP hf rfl (pFA fa_45_1 rfl) fun a hf => zL hf hc sc_3 m0 rfl fun a w hf hc => sp 3 hf rfl fun a hf => cNil ⟨hf.kp rfl,hc⟩
 intro a w ⟨hf,hc⟩
 refine sp 1 hf rfl fun a hf => zT h ?_
 refine wp_ret ?_
 obtain rfl := sj hF
 replace hc := (hc.drop k1).drop k0
 exact zO1 Try.results42 hf rfl ⟨rfl,hc⟩

def shift_opened_j24 (N : Nat) (xv_1 : Int) (x_4 : Int) : Option (Rs (Int × Int)) :=
 some (.go (x_4,xv_1))
def shift_opened_r21 (N : Nat) (r : shift_Record) (x_1 : List api_Span) (e_2 : shift_Gauging) (x_2 : Int) (x_3 : Int) (xv : Int) (xv_1 : Int) : Option (Rs (Int × Int)) :=
 Option.bind (shift_book_passed N (⟨r,x_1⟩ : shift_book) e_2 xv_1) fun r_1 =>
 cond r_1
 (cond (decide (x_3 < x_2))
 (shift_opened_j24 N xv_1 xv_1)
 (shift_opened_j24 N xv_1 x_2))
 (some (.go (x_2,x_3)))
def shift_opened_b12 (N : Nat) (r : shift_Record) (e_1 : Int) (x : Int) (x_1 : List api_Span) : Option (Step (Int × Int × (List api_Span)) ((Int) ⊕ ((List api_Span) × Int))) :=
 cond (decide (x < ((r.Gaugings.length : Nat) : Int)))
 (Option.bind (getI r.Gaugings x) fun e_2 =>
 Option.bind (shift_shifts_1 N (rY (fun (zz : Int × Int) (ix_ : (Int × Int)) => shift_opened_r21 N r x_1 e_2 zz.1 zz.2 ix_.1 ix_.2)) (.go (1,0))) fun x21 =>
 rsK x21 (fun zz21 => cond (decide (zz21.2 < zz21.1))
 (some (.brk (6,x,x_1)))
 (Option.bind (room ((x_1 ++ [(⟨zz21.1,zz21.2⟩ : api_Span)])).length) fun un =>
 some (.cont (e_1,W (x + 1),(x_1 ++ [(⟨zz21.1,zz21.2⟩ : api_Span)]))))) (fun zz21 => none))
 (some (.brk (e_1,x,x_1)))
def shift_opened (N : Nat) (r : shift_Record) : Option ((Int) ⊕ ((List api_Span) × Int)) :=
 Option.bind (shift_Check N r) fun r_0 =>
 cond (r_0 != 0)
 (some (.inl r_0))
 (Option.bind (loopO (fun s12 => shift_opened_b12 N r s12.1 s12.2.1 s12.2.2) N (0,0,([] : List api_Span))) fun x12 =>
 exK x12 (fun s12 => some (.inr (s12.2.2,s12.1))) some)
theorem shift_opened_ok {N : Nat} {G : Pers} {Lf : List Ent} {w : World} (r : shift_Record) {r_Rating_p : Option Addr} {r_Rating_c : Nat} {r_Gaugings_p : Option Addr} {r_Gaugings_c : Nat} (h_r_Rating : Rd G 2 r_Rating_p r_Rating_c (r.Rating.map enc_shift_Mark)) (h_r_Gaugings : Rd G 4 r_Gaugings_p r_Gaugings_c (r.Gaugings.map enc_shift_Gauging)) (hc : Ctx G (Lf) w) {res : (Int) ⊕ ((List api_Span) × Int)} (hF : shift_opened N r = some res) : Calls Try.prog 18 #[.agg #[.slice r_Rating_p r.Rating.length r_Rating_c,.slice r_Gaugings_p r.Gaugings.length r_Gaugings_c]] w (fun e w => sumK (fun rr => e = .returned (.tuple #[.pointer none,i6 rr]) ∧ Ctx G (Lf) w) (fun rr => ∃ (b'1 : Nat) (p'1 : Option Addr) (c'1 : Nat),e = .returned (.tuple #[pq b'1,i6 rr.2]) ∧ Ctx G (.row p'1 c'1 (rr.1.map enc_api_Span) 38 2::.box b'1 [.slice r_Rating_p r.Rating.length r_Rating_c,.slice r_Gaugings_p r.Gaugings.length r_Gaugings_c,.slice p'1 rr.1.length c'1] 80::Lf) w) res) := by
 unfold shift_opened at hF
 refine fnInM Try.func18 rfl Try.ntmps18 rfl fun a hf => zS fun K h => zB hf hc rfl fun b_1 a w hf hc => sp 2 hf rfl fun a hf => zT h ?_
 refine wp_scope_straight ?_
 refine wp_seq_k fun K2 h2 => zS fun K h => zN hf hc ag_29 m0 rfl fun a w hf hc => ?_
 obtain ⟨r_0,hr_0,hF⟩ := bnd_some hF
 refine zQ (v := i6 r_0) hf hc en_41 rfl (fun w hc => shift_Check_ok r h_r_Rating h_r_Gaugings hc hr_0) fun a w hf hc => sp 1 hf rfl fun a hf => zT h ?_
 refine zS fun K h => sp 2 hf rfl fun a hf => zT h ?_
 refine zI hf rfl hF ?_ ?_ <;> clear hF <;> intro hF
 ·refine zS fun K h => sp 3 hf rfl fun a hf => zT h ?_
  refine wp_ret ?_
  refine xThenR ?_
  refine xScopeR ?_
  obtain rfl := sj hF
  replace hc := hc.drop k0
  refine outM hf ?_
  exact outM2 Try.results18 hf hc (show look _ 2 = _ from rfl) (show look _ 3 = _ from rfl) ⟨rfl,hc⟩
 ·refine wp_skip ?_
  refine h2 _ _ ?_
  refine zS fun K h => zN hf hc ag_29 m0 rfl fun a w hf hc => zP hf rfl (pBuildS (cells := [.slice r_Rating_p r.Rating.length r_Rating_c,.slice r_Gaugings_p r.Gaugings.length r_Gaugings_c,.slice none 0 0]) bt_80 rfl rfl) fun a hf => zB hf hc rfl fun b_2 a w hf hc => sp 1 hf rfl fun a hf => zT h ?_
  refine zS fun K h => sp 1 hf rfl fun a hf => zT h ?_
  refine zS fun K h => sp 1 hf rfl fun a hf => zP hf rfl (pMF (vs := [pq b_2]) (us := []) rfl rfl) fun a hf => zA hf hc zr_111 rfl fun b_3 a w hf hc => zW hf hc sz_111 u0 rfl fun w hc => zT h ?_
  refine wp_seq_k fun K9 h9 => wp_label ?_
  refine h9 _ _ ?_
  refine wp_seq_k fun K10 h10 => zS fun K h => zP hf rfl (pFA fa_29_1 rfl) fun a hf => zL hf hc sc_27 m2 rfl fun a w hf hc => zP hf rfl (pLenS Try.underlying27 rfl) fun a hf => sp 1 hf rfl fun a hf => zT h ?_
  refine wp_block ?_
  obtain ⟨x12,hx12,hF⟩ := bnd_some hF
  let S12 : (Int × Int × (List api_Span)) → Act → World → Prop := (fun (zz : Int × Int × (List api_Span)) a w => ∃ (p_1 : Option Addr) (c_1 : Nat) (Ds : List Nat),Has ⟨65,markL Ds⟩ a [(5,pq b_2),(6,i6 zz.1),(7,pq b_3),(24,.slice r_Gaugings_p r.Gaugings.length r_Gaugings_c),(25,i6 ((r.Gaugings.length : Nat) : Int)),(26,i6 zz.2.1)] ∧ Ctx G (.row p_1 c_1 (zz.2.2.map enc_api_Span) 38 2::.box b_3 [.func (.func 42) #[pq b_2] #[]] 111::.box b_2 [.slice r_Rating_p r.Rating.length r_Rating_c,.slice r_Gaugings_p r.Gaugings.length r_Gaugings_c,.slice p_1 zz.2.2.length c_1] 80::(raws Ds ++ Lf)) w)
  have hr12 : ∀ (zz : Int × Int × (List api_Span)) a w,x12 = .go zz → S12 zz a w → K10 a w := by
   rintro ⟨e_1,x,x_1⟩ a w rfl ⟨p_1,c_1,Ds,hf,hc⟩
   replace hF := exK_go hF
   refine h10 _ _ ?_
   refine zS fun K h => sp 4 hf rfl fun a hf => zT h ?_
   refine wp_ret ?_
   refine xScopeR ?_
   obtain rfl := sj hF
   replace hc := hc.drop k1
   refine outM hf ?_
   refine outML [.row p_1 c_1 (x_1.map enc_api_Span) 38 2,.box b_2 [.slice r_Rating_p r.Rating.length r_Rating_c,.slice r_Gaugings_p r.Gaugings.length r_Gaugings_c,.slice p_1 x_1.length c_1] 80] Ds hc fun w hc => ?_
   replace hc : Ctx G (.row p_1 c_1 (x_1.map enc_api_Span) 38 2::.box b_2 [.slice r_Rating_p r.Rating.length r_Rating_c,.slice r_Gaugings_p r.Gaugings.length r_Gaugings_c,.slice p_1 x_1.length c_1] 80::Lf) w := hc
   exact outM2 Try.results18 hf hc (show look _ 2 = _ from rfl) (show look _ 3 = _ from rfl) ⟨b_2,p_1,c_1,rfl,hc⟩
  have ho12 : ∀ r,x12 = .out r → r = res := by
   rintro r rfl
   exact sj hF
  replace hf := markZ hf
  replace hc : Ctx G (.box b_3 [.func (.func 42) #[pq b_2] #[]] 111::.box b_2 [.slice r_Rating_p r.Rating.length r_Rating_c,.slice r_Gaugings_p r.Gaugings.length r_Gaugings_c,.slice none 0 0] 80::.box b_1 [.slice r_Rating_p r.Rating.length r_Rating_c,.slice r_Gaugings_p r.Gaugings.length r_Gaugings_c] 29::(raws [] ++ Lf)) w := hc
  replace hc := hc.nilRow 38 2
  replace hc := hc.drop k3
  refine cLoop N (loopW (S := S12) (x := x12) ?_ N (0,0,([] : List api_Span)) _ _ ⟨none,0,[],hf.kp rfl,hc⟩ hx12)
  clear hF hf hc
  rintro ⟨e_1,x,x_1⟩ st12 a w KB12 ⟨p_1,c_1,Ds,hf,hc⟩ hF hfin12 hK12
  unfold shift_opened_b12 at hF
  refine zS fun K h => sp 1 hf rfl fun a hf => zT h ?_
  refine wp_seq_k fun K15 h15 => zI hf rfl hF ?_ ?_ <;> clear hF <;> intro hF
  ·refine wp_skip ?_
   refine h15 _ _ ?_
   refine wp_seq_k fun K16 h16 => wp_block ?_
   refine zS fun K h => ?_
   obtain ⟨e_2,he_2,hF⟩ := bnd_some hF
   obtain ⟨b_4,o,qa,qp⟩ := h_r_Gaugings.atm he_2
   refine zP hf rfl (pIA Try.underlying27 sz_50 rfl rfl qa) fun a hf => zE hf hc rfl (eLdN (vs := [i6 e_2.Day,i6 e_2.Stage,i6 e_2.Flow.Lo,i6 e_2.Flow.Hi]) ag_50 rfl rfl (cells_pc qp (n := 4) (o' := 0) rfl)) fun a w hf hc => zA hf hc zr_50 rfl fun b_5 a w hf hc => zW hf hc sz_50 u0 rfl fun w hc => zT h ?_
   refine zS fun K h => zP hf rfl (pBuildS (cells := [i6 1,i6 0]) bt_38 rfl rfl) fun a hf => zA hf hc zr_38 rfl fun b_6 a w hf hc => zW hf hc sz_38 u0 rfl fun w hc => zT h ?_
   refine wp_seq_k fun K19 h19 => zS fun K h => zQ (v := .func (.func 47) #[] #[]) hf hc en_21 rfl (fun w hc => shift_shifts_ok hc rfl) fun a w hf hc => zT h ?_
   obtain ⟨x21,hx21,hF⟩ := bnd_some hF
   refine cRange (C := []) (C2 := []) (L0 := [.box b_6 [i6 1,i6 0] 38,.box b_5 [i6 e_2.Day,i6 e_2.Stage,i6 e_2.Flow.Lo,i6 e_2.Flow.Hi] 50,.row p_1 c_1 (x_1.map enc_api_Span) 38 2,.box b_3 [.func (.func 42) #[pq b_2] #[]] 111,.box b_2 [.slice r_Rating_p r.Rating.length r_Rating_c,.slice r_Gaugings_p r.Gaugings.length r_Gaugings_c,.slice p_1 x_1.length c_1] 80]) (Lf := (raws Ds ++ Lf)) (encs := fun x : (Int × Int) => [i6 x.1,i6 x.2]) (fun (zz : Int × Int) L => L = [.box b_6 [i6 zz.1,i6 zz.2] 38,.box b_5 [i6 e_2.Day,i6 e_2.Stage,i6 e_2.Flow.Lo,i6 e_2.Flow.Hi] 50,.row p_1 c_1 (x_1.map enc_api_Span) 38 2,.box b_3 [.func (.func 42) #[pq b_2] #[]] 111,.box b_2 [.slice r_Rating_p r.Rating.length r_Rating_c,.slice r_Gaugings_p r.Gaugings.length r_Gaugings_c,.slice p_1 x_1.length c_1] 80]) (fun (zz : Int × Int) (ix_ : (Int × Int)) => shift_opened_r21 N r x_1 e_2 zz.1 zz.2 ix_.1 ix_.2) (1,0) x21 hf hc rfl en_47 (fun _ => rfl) rfl rfl ?_ ?_ ?_ ?_
   ·intro lq mq J L Lx w hy hJ hc
    exact shift_shifts_1_ok  J _ hy _ hJ hc hx21
   ·clear hF hf hc
    rintro lq mq ⟨x_2,x_3⟩ ⟨xv,xv_1⟩ oq _ Lr Lb a w hK0 rfl hF hf hc hK
    replace hf : Has 65 a [(5,pq b_2),(6,i6 e_1),(7,pq b_3),(9,pq b_5),(10,pq b_6),(24,.slice r_Gaugings_p r.Gaugings.length r_Gaugings_c),(25,i6 ((r.Gaugings.length : Nat) : Int)),(26,i6 x),(32,i6 xv),(33,i6 xv_1)] := hf.kp rfl
    replace hc : Ctx G (.box b_6 [i6 x_2,i6 x_3] 38::.box b_5 [i6 e_2.Day,i6 e_2.Stage,i6 e_2.Flow.Lo,i6 e_2.Flow.Hi] 50::.row p_1 c_1 (x_1.map enc_api_Span) 38 2::.box b_3 [.func (.func 42) #[pq b_2] #[]] 111::.box b_2 [.slice r_Rating_p r.Rating.length r_Rating_c,.slice r_Gaugings_p r.Gaugings.length r_Gaugings_c,.slice p_1 x_1.length c_1] 80::Lr) w := hc
    replace hF : shift_opened_r21 N r x_1 e_2 x_2 x_3 xv xv_1 = some oq := hF
    unfold shift_opened_r21 at hF
    refine rReg (fun _ _ h => h) rfl ?_
    refine sp 1 hf rfl fun a hf => cNil ?_
    refine hK _ _ [.box b_6 [i6 x_2,i6 x_3] 38,.box b_5 [i6 e_2.Day,i6 e_2.Stage,i6 e_2.Flow.Lo,i6 e_2.Flow.Hi] 50,.row p_1 c_1 (x_1.map enc_api_Span) 38 2,.box b_3 [.func (.func 42) #[pq b_2] #[]] 111,.box b_2 [.slice r_Rating_p r.Rating.length r_Rating_c,.slice r_Gaugings_p r.Gaugings.length r_Gaugings_c,.slice p_1 x_1.length c_1] 80] hc fun w hc => ?_
    replace hc : Ctx G (.box b_6 [i6 x_2,i6 x_3] 38::.box b_5 [i6 e_2.Day,i6 e_2.Stage,i6 e_2.Flow.Lo,i6 e_2.Flow.Hi] 50::.row p_1 c_1 (x_1.map enc_api_Span) 38 2::.box b_3 [.func (.func 42) #[pq b_2] #[]] 111::.box b_2 [.slice r_Rating_p r.Rating.length r_Rating_c,.slice r_Gaugings_p r.Gaugings.length r_Gaugings_c,.slice p_1 x_1.length c_1] 80::Lb) w := hc
    refine rThenK fun K22 h22 => rBlock ?_
    refine rSeq fun K23 h23 => rReg (fun _ _ h => h) rfl ?_
    refine zL hf hc sc_111 m3 rfl fun a w hf hc => zN hf hc ag_50 m1 rfl fun a w hf hc => sp 1 hf rfl fun a hf => ?_
    obtain ⟨r_1,hr_1,hF⟩ := bnd_some hF
    refine zQ (v := .bool r_1) hf hc en_42 rfl (fun w hc => by obtain ⟨G1,hle1,hrd1,hc,hth1⟩ := lend hc k2; exact (shift_book_passed_ok (⟨r,x_1⟩ : shift_book) e_2 xv_1 (h_r_Rating.mono hle1) (h_r_Gaugings.mono hle1) hrd1 (hc.pick k3) hr_1).mono fun e w h => ⟨h.1,((hth1 _ _ (h.2.unpick k3)).unpick k2)⟩) fun a w hf hc => cNil ?_
    refine h23 _ _ ?_
    refine rCond (b := r_1) hf rfl (fun hb => ?_) (fun hb => ?_)
    ·replace hF := condT hb hF
     clear hb
     refine rSeq fun K24 h24 => ?_
     have hj24 : ∀ (x_4 : Int) a w,Has 65 a [(5,pq b_2),(6,i6 e_1),(7,pq b_3),(9,pq b_5),(10,pq b_6),(12,i6 xv_1),(24,.slice r_Gaugings_p r.Gaugings.length r_Gaugings_c),(25,i6 ((r.Gaugings.length : Nat) : Int)),(26,i6 x)] → Ctx G (.box b_6 [i6 x_4,i6 x_3] 38::.box b_5 [i6 e_2.Day,i6 e_2.Stage,i6 e_2.Flow.Lo,i6 e_2.Flow.Hi] 50::.row p_1 c_1 (x_1.map enc_api_Span) 38 2::.box b_3 [.func (.func 42) #[pq b_2] #[]] 111::.box b_2 [.slice r_Rating_p r.Rating.length r_Rating_c,.slice r_Gaugings_p r.Gaugings.length r_Gaugings_c,.slice p_1 x_1.length c_1] 80::Lb) w → shift_opened_j24 N xv_1 x_4 = some oq → K24 a w := by
      repeat (clear hF)
      repeat (clear hc)
      repeat (clear hf)
      intro x_4 a w hf hc hF
      unfold shift_opened_j24 at hF
      refine h24 _ _ ?_
      refine rReg (fun _ _ h => h) rfl ?_
      refine sp 1 hf rfl fun a hf => zP hf rfl (pFA fa_38_1 rfl) fun a hf => zW hf hc sz_3 u0 rfl fun w hc => cNil ?_
      refine h22 _ _ ?_
      exact ⟨(x_4,xv_1),_,(sj hF).symm,rfl,hc⟩
     refine rSeq fun K25 h25 => rReg (fun _ _ h => h) rfl ?_
     refine zP hf rfl (pFA fa_38_0 rfl) fun a hf => zL hf hc sc_3 m0 rfl fun a w hf hc => zP hf rfl (pFA fa_38_1 rfl) fun a hf => zL hf hc sc_3 m0 rfl fun a w hf hc => sp 1 hf rfl fun a hf => cNil ?_
     refine h25 _ _ ?_
     refine rCond (b := (decide (x_3 < x_2))) hf rfl (fun hb => ?_) (fun hb => ?_)
     ·replace hF := condT hb hF
      clear hb
      refine rReg (fun _ _ h => h) rfl ?_
      refine sp 1 hf rfl fun a hf => zP hf rfl (pFA fa_38_0 rfl) fun a hf => zW hf hc sz_3 u0 rfl fun w hc => cNil ?_
      exact hj24 xv_1 _ _  (hf.kp rfl) hc hF
     ·replace hF := condF hb hF
      clear hb
      refine rSkip ?_
      exact hj24 x_2 _ _  (hf.kp rfl) hc hF
    ·replace hF := condF hb hF
     clear hb
     refine rSkip ?_
     refine h22 _ _ ?_
     exact ⟨(x_2,x_3),_,(sj hF).symm,rfl,hc⟩
   ·rintro D_1 ⟨x_2,x_3⟩ _ a w hsF rfl hf hc
    replace hf : Has ⟨65,markL (D_1::Ds)⟩ a [(5,pq b_2),(6,i6 e_1),(7,pq b_3),(9,pq b_5),(10,pq b_6),(24,.slice r_Gaugings_p r.Gaugings.length r_Gaugings_c),(25,i6 ((r.Gaugings.length : Nat) : Int)),(26,i6 x)] := hf.kp rfl
    replace hc : Ctx G (.box b_6 [i6 x_2,i6 x_3] 38::.box b_5 [i6 e_2.Day,i6 e_2.Stage,i6 e_2.Flow.Lo,i6 e_2.Flow.Hi] 50::.row p_1 c_1 (x_1.map enc_api_Span) 38 2::.box b_3 [.func (.func 42) #[pq b_2] #[]] 111::.box b_2 [.slice r_Rating_p r.Rating.length r_Rating_c,.slice r_Gaugings_p r.Gaugings.length r_Gaugings_c,.slice p_1 x_1.length c_1] 80::(raws (D_1::Ds) ++ Lf)) w := rawsIn (C := []) (L := [.box b_6 [i6 x_2,i6 x_3] 38,.box b_5 [i6 e_2.Day,i6 e_2.Stage,i6 e_2.Flow.Lo,i6 e_2.Flow.Hi] 50,.row p_1 c_1 (x_1.map enc_api_Span) 38 2,.box b_3 [.func (.func 42) #[pq b_2] #[]] 111,.box b_2 [.slice r_Rating_p r.Rating.length r_Rating_c,.slice r_Gaugings_p r.Gaugings.length r_Gaugings_c,.slice p_1 x_1.length c_1] 80]) hc
    replace hF : (cond (decide (x_3 < x_2)) (some (.brk (6,x,x_1))) (Option.bind (room ((x_1 ++ [(⟨x_2,x_3⟩ : api_Span)])).length) fun un => some (.cont (e_1,W (x + 1),(x_1 ++ [(⟨x_2,x_3⟩ : api_Span)]))))) = some st12 := by rcases hsF with rfl | rfl <;> exact hF
    refine h19 _ _ ?_
    refine wp_seq_k fun K26 h26 => zS fun K h => zP hf rfl (pFA fa_38_0 rfl) fun a hf => zL hf hc sc_3 m0 rfl fun a w hf hc => zP hf rfl (pFA fa_38_1 rfl) fun a hf => zL hf hc sc_3 m0 rfl fun a w hf hc => sp 1 hf rfl fun a hf => zT h ?_
    refine zI hf rfl hF ?_ ?_ <;> clear hF <;> intro hF
    ·refine zS fun K h => sp 1 hf rfl fun a hf => zT h ?_
     refine wp_exit ?_
     refine xThen ?_
     refine cMiss rfl ?_
     refine xThen ?_
     refine xThen ?_
     replace hc := (hc.drop k1).drop k0
     have he := sj hF
     rw [← he] at hfin12
     refine cHit ?_
     exact hr12 _ _ _ hfin12 ⟨p_1,c_1,(D_1::Ds),hf.kp rfl,hc⟩
    ·refine wp_skip ?_
     refine h26 _ _ ?_
     obtain ⟨un,hun,hF⟩ := bnd_some hF
     replace hc := hc.nilRow 0 0
     refine regionE (fun θ => [⟨none,none,5,pq b_2⟩,⟨none,none,6,i6 e_1⟩,⟨none,none,7,pq b_3⟩,⟨none,none,10,pq b_6⟩,⟨none,none,24,.slice r_Gaugings_p r.Gaugings.length r_Gaugings_c⟩,⟨none,none,25,i6 ((r.Gaugings.length : Nat) : Int)⟩,⟨none,none,26,i6 x⟩,⟨some 0,none,52,pq b_2⟩,⟨some 1,none,53,pq b_2⟩,⟨some 2,none,54,pq b_2⟩,⟨some 3,none,55,.pointer (some ⟨b_2,2,none⟩)⟩,⟨some 4,none,56,.slice p_1 x_1.length c_1⟩,⟨some 5,none,57,.agg #[i6 x_2,i6 x_3]⟩,⟨some 6,none,58,.slice (some ⟨(θ 48).b,0,none⟩) 1 1⟩,⟨some 7,none,59,.slice ((θ 56).p) ((x_1 ++ [(⟨x_2,x_3⟩ : api_Span)]).length) ((θ 56).c)⟩,⟨some 8,none,60,pq b_2⟩,⟨some 9,none,61,.pointer (some ⟨b_2,2,none⟩)⟩]) (fun E θ => (bif E 6 then .row (some ⟨(θ 48).b,0,none⟩) 1 (([(⟨x_2,x_3⟩ : api_Span)] : List api_Span).map enc_api_Span) 38 2 else .row none 0 [] 0 0)::.box b_6 [i6 x_2,i6 x_3] 38::.box b_5 [i6 e_2.Day,i6 e_2.Stage,i6 e_2.Flow.Lo,i6 e_2.Flow.Hi] 50::(bif E 7 then .row ((θ 56).p) ((θ 56).c) ((x_1 ++ [(⟨x_2,x_3⟩ : api_Span)]).map enc_api_Span) 38 2 else .row p_1 c_1 (x_1.map enc_api_Span) 38 2)::.box b_3 [.func (.func 42) #[pq b_2] #[]] 111::(bif E 10 then .box b_2 [.slice r_Rating_p r.Rating.length r_Rating_c,.slice r_Gaugings_p r.Gaugings.length r_Gaugings_c,.slice ((θ 56).p) ((x_1 ++ [(⟨x_2,x_3⟩ : api_Span)]).length) ((θ 56).c)] 80 else .box b_2 [.slice r_Rating_p r.Rating.length r_Rating_c,.slice r_Gaugings_p r.Gaugings.length r_Gaugings_c,.slice p_1 x_1.length c_1] 80)::(raws (D_1::Ds) ++ Lf)) [(10,4),(10,7)] (fun a w => ∃ (b_8 : Nat) (p_3 : Option Addr) (c_3 : Nat),Has ⟨65,markL (D_1::Ds)⟩ a [(5,pq b_2),(6,i6 e_1),(7,pq b_3),(24,.slice r_Gaugings_p r.Gaugings.length r_Gaugings_c),(25,i6 ((r.Gaugings.length : Nat) : Int)),(26,i6 x)] ∧ Ctx G (.row (some ⟨b_8,0,none⟩) 1 (([(⟨x_2,x_3⟩ : api_Span)] : List api_Span).map enc_api_Span) 38 2::.box b_6 [i6 x_2,i6 x_3] 38::.box b_5 [i6 e_2.Day,i6 e_2.Stage,i6 e_2.Flow.Lo,i6 e_2.Flow.Hi] 50::.row p_3 c_3 ((x_1 ++ [(⟨x_2,x_3⟩ : api_Span)]).map enc_api_Span) 38 2::.box b_3 [.func (.func 42) #[pq b_2] #[]] 111::.box b_2 [.slice r_Rating_p r.Rating.length r_Rating_c,.slice r_Gaugings_p r.Gaugings.length r_Gaugings_c,.slice p_3 ((x_1 ++ [(⟨x_2,x_3⟩ : api_Span)]).length) c_3] 80::(raws (D_1::Ds) ++ Lf)) w) follows_mx (by kernel_rfl) (by kernel_rfl) (HasE.of hf ⟨rfl,rfl,rfl,rfl,rfl,rfl,rfl,trivial,trivial,trivial,trivial,trivial,trivial,trivial,trivial,trivial,trivial,trivial⟩) hc ⟨?_,?_,?_,?_,?_,?_,?_,?_,?_,?_,?_,trivial⟩ ?_ ?_
     ·intro E θ a w hD hi hp he hc
      have hf := he.h0.mT he 0 rfl
      refine sp 1 hf rfl fun a hf => zD θ he hi hf 7 rfl rfl rfl hc
     ·intro E θ a w hD hi hp he hc
      have hf := he.h0.mT he 0 rfl
      refine sp 1 hf rfl fun a hf => zD θ he hi hf 8 rfl rfl rfl hc
     ·intro E θ a w hD hi hp he hc
      have e1 := hp.o 1 rfl
      have hf := he.h0.mP he 8 rfl e1
      refine sp 1 hf rfl fun a hf => zD θ he hi hf 9 rfl rfl rfl hc
     ·intro E θ a w hD hi hp he hc
      have e2 := hp.o 2 rfl
      have hf := he.h0.mP he 9 rfl e2
      refine zP hf rfl (pFA fa_80_1 rfl) fun a hf => zD θ he hi hf 10 rfl rfl rfl hc
     ·intro E θ a w hD hi hp he hc
      have e3 := hp.o 3 rfl
      have e10 := hD.f 0 rfl hi
      try dsimp only at hc
      rw [e10] at hc
      have hf := he.h0.mP he 10 rfl e3
      refine zL hf hc sc_51 m5 rfl fun a w hf hc => zD θ he hi hf 11 rfl rfl rfl ?_
      try dsimp only
      rw [updE_fls 4 e10 rfl]
      exact hc
     ·intro E θ a w hD hi hp he hc
      have hf := he.h0.mT he 3 rfl
      refine zN hf hc ag_38 m1 rfl fun a w hf hc => zD θ he hi hf 12 rfl rfl rfl hc
     ·intro E θ a w hD hi hp he hc
      have e5 := hp.o 5 rfl
      try dsimp only at hc
      rw [hi] at hc
      have hf := he.h0.mP he 12 rfl e5
      refine stBS (rows := ([(⟨x_2,x_3⟩ : api_Span)] : List api_Span).map enc_api_Span) (vs := [(0,.agg #[i6 x_2,i6 x_3])]) hf hc rfl rfl sl_51 rfl ⟨rfl,rfl,rfl,trivial⟩ rfl rfl fun b_7 a w hf hc => cNil ?_
      refine xThenN ?_
      intro ds u hau
      replace hc := hc.drop k1
      refine ⟨(setT θ 48 ⟨b_7,none,0,(fun _ => (none,0))⟩),he.put hi hau hf rfl [] trivial ⟨qq,qq,qq,qq,qq,qq,qq,qq,qq,qq,qq,qq,qq,qq,qq,qq,qq,trivial⟩,?_⟩
      try dsimp only
      rw [updE_self E 6]
      exact hc
     ·intro E θ a w hD hi hp he hc
      have e4 := hp.o 4 rfl
      have e6 := hp.o 6 rfl
      have e10 := hD.f 1 rfl hi
      try dsimp only at hc
      rw [e6,hi,e10] at hc
      have hf := (he.h0.mP he 11 rfl e4).mP he 13 rfl e6
      refine stApm (xs := x_1) (ys := ([(⟨x_2,x_3⟩ : api_Span)] : List api_Span)) hf hc rfl rfl sl_51 rfl rfl rfl rfl rfl one_enc_api_Span (src_row hc m0) (fun _ _ => u3) (by simpa using room_spec hun) fun p_2 c_2 a w hf hc => cNil ?_
      refine xThenN ?_
      intro ds u hau
      refine ⟨(setT θ 56 ⟨0,p_2,c_2,(fun _ => (none,0))⟩),he.put hi hau hf rfl [] trivial ⟨qq,qq,qq,qq,qq,qq,qq,qq,qq,qq,qq,qq,qq,qq,qq,qq,qq,trivial⟩,?_⟩
      try dsimp only
      rw [updE_tru 7 e6,updE_self E 7,updE_fls 7 e10 rfl]
      exact hc
     ·intro E θ a w hD hi hp he hc
      have e0 := hp.o 0 rfl
      have hf := he.h0.mP he 7 rfl e0
      refine sp 1 hf rfl fun a hf => zD θ he hi hf 15 rfl rfl rfl hc
     ·intro E θ a w hD hi hp he hc
      have e8 := hp.o 8 rfl
      have hf := he.h0.mP he 15 rfl e8
      refine zP hf rfl (pFA fa_80_1 rfl) fun a hf => zD θ he hi hf 16 rfl rfl rfl hc
     ·intro E θ a w hD hi hp he hc
      have e7 := hp.o 7 rfl
      have e9 := hp.o 9 rfl
      try dsimp only at hc
      rw [hi] at hc
      have hf := (he.h0.mP he 14 rfl e7).mP he 16 rfl e9
      refine zW hf hc sz_51 u5 rfl fun w hc => zG θ he hi hf rfl ?_
      try dsimp only
      rw [updE_self E 10]
      exact hc
     ·intro E θ a w hall he hc
      have hf := he.h0
      have e6 := hall 6 rfl
      have e7 := hall 7 rfl
      have e10 := hall 10 rfl
      replace hf := hf.more he 6 rfl (onT)
      replace hf := hf.more he 5 rfl (onT)
      replace hf := hf.more he 4 rfl (onT)
      replace hf := hf.more he 2 rfl (onT)
      replace hf := hf.more he 1 rfl (onT)
      replace hf := hf.more he 0 rfl (onT)
      try dsimp only at hc
      rw [e6,e7,e10] at hc
      exact ⟨(θ 48).b,(θ 56).p,(θ 56).c,hf.kp rfl,hc⟩
     rintro a w ⟨b_8,p_3,c_3,hf,hc⟩
     refine h16 _ _ ?_
     refine cReg ?_
     refine sp 2 hf rfl fun a hf => cNil ?_
     replace hc := ((hc.drop k2).drop k1).drop k0
     exact hK12 (e_1,W (x + 1),(x_1 ++ [(⟨x_2,x_3⟩ : api_Span)])) _ _ (sj hF).symm ⟨p_3,c_3,(D_1::Ds),hf.kp rfl,hc⟩
   ·rintro D_1 ⟨x_2,x_3⟩ _ a w hsF rfl hf hc
    replace hf : Has ⟨65,markL (D_1::Ds)⟩ a [(5,pq b_2),(6,i6 e_1),(7,pq b_3),(9,pq b_5),(10,pq b_6),(24,.slice r_Gaugings_p r.Gaugings.length r_Gaugings_c),(25,i6 ((r.Gaugings.length : Nat) : Int)),(26,i6 x)] := hf.kp rfl
    replace hc : Ctx G (.box b_6 [i6 x_2,i6 x_3] 38::.box b_5 [i6 e_2.Day,i6 e_2.Stage,i6 e_2.Flow.Lo,i6 e_2.Flow.Hi] 50::.row p_1 c_1 (x_1.map enc_api_Span) 38 2::.box b_3 [.func (.func 42) #[pq b_2] #[]] 111::.box b_2 [.slice r_Rating_p r.Rating.length r_Rating_c,.slice r_Gaugings_p r.Gaugings.length r_Gaugings_c,.slice p_1 x_1.length c_1] 80::(raws (D_1::Ds) ++ Lf)) w := rawsIn (C := []) (L := [.box b_6 [i6 x_2,i6 x_3] 38,.box b_5 [i6 e_2.Day,i6 e_2.Stage,i6 e_2.Flow.Lo,i6 e_2.Flow.Hi] 50,.row p_1 c_1 (x_1.map enc_api_Span) 38 2,.box b_3 [.func (.func 42) #[pq b_2] #[]] 111,.box b_2 [.slice r_Rating_p r.Rating.length r_Rating_c,.slice r_Gaugings_p r.Gaugings.length r_Gaugings_c,.slice p_1 x_1.length c_1] 80]) hc
    replace hF : (none) = some st12 := by subst hsF; exact hF
    cases hF
  ·refine wp_exit ?_
   refine xThen ?_
   refine xThen ?_
   have he := sj hF
   rw [← he] at hfin12
   refine cHit ?_
   exact hr12 _ _ _ hfin12 ⟨p_1,c_1,Ds,hf.kp rfl,hc⟩

def shift_Passes (N : Nat) (r : shift_Record) : Option ((List api_Span) × Int) :=
 Option.bind (shift_opened N r) (sumK (fun r_0 => cond (r_0 != 0)
 (some (([] : List api_Span),r_0))
 (none))
 (fun r_1 => cond (r_1.2 != 0)
 (some (([] : List api_Span),r_1.2))
 (some (r_1.1,0))))
theorem shift_Passes_ok {N : Nat} {G : Pers} {Lf : List Ent} {w : World} (r : shift_Record) {r_Rating_p : Option Addr} {r_Rating_c : Nat} {r_Gaugings_p : Option Addr} {r_Gaugings_c : Nat} (h_r_Rating : Rd G 2 r_Rating_p r_Rating_c (r.Rating.map enc_shift_Mark)) (h_r_Gaugings : Rd G 4 r_Gaugings_p r_Gaugings_c (r.Gaugings.map enc_shift_Gauging)) (hc : Ctx G (Lf) w) {res : (List api_Span) × Int} (hF : shift_Passes N r = some res) : Calls Try.prog 12 #[.agg #[.slice r_Rating_p r.Rating.length r_Rating_c,.slice r_Gaugings_p r.Gaugings.length r_Gaugings_c]] w (fun e w => ∃ (p'1 : Option Addr) (c'1 : Nat),e = .returned (.tuple #[.slice p'1 res.1.length c'1,i6 res.2]) ∧ Ctx G (.row p'1 c'1 (res.1.map enc_api_Span) 38 2::Lf) w) := by
 unfold shift_Passes at hF
 refine fnIn Try.func12 rfl Try.ntmps12 rfl fun a hf => zS fun K h => zB hf hc rfl fun b_1 a w hf hc => sp 2 hf rfl fun a hf => zT h ?_
 refine zS fun K h => zN hf hc ag_29 m0 rfl fun a w hf hc => ?_
 obtain ⟨r_0,hr_0,hF⟩ := bnd_some hF
 cases r_0 with
 | inl r_0 =>
  replace hF := sumKl hF
  refine zC hf en_18 rfl (shift_opened_ok r h_r_Rating h_r_Gaugings hc hr_0) ?_
  rintro _ w ⟨rfl,hc⟩
  refine ⟨_,rfl,fun a hf => ?_⟩
  refine sp 5 hf rfl fun a hf => zT h ?_
  refine wp_seq_k fun K3 h3 => zS fun K h => sp 2 hf rfl fun a hf => zT h ?_
  refine zI hf rfl hF ?_ ?_ <;> clear hF <;> intro hF
  ·refine zS fun K h => sp 3 hf rfl fun a hf => zT h ?_
   refine wp_ret ?_
   refine xThenR ?_
   obtain rfl := sj hF
   replace hc := hc.nilRow 38 2
   replace hc := hc.drop k1
   exact zO2 Try.results12 hf rfl rfl ⟨none,0,rfl,hc⟩
  ·refine wp_skip ?_
   refine h3 _ _ ?_
   refine wp_seq_k fun K6 h6 => noneO hF
 | inr r_1 =>
  replace hF := sumKr hF
  have hr_1 := hr_0
  refine zC hf en_18 rfl (shift_opened_ok r h_r_Rating h_r_Gaugings hc hr_1) ?_
  rintro _ w ⟨b_2,p_1,c_1,rfl,hc⟩
  refine ⟨_,rfl,fun a hf => ?_⟩
  refine sp 5 hf rfl fun a hf => zT h ?_
  refine wp_seq_k fun K7 h7 => zS fun K h => sp 2 hf rfl fun a hf => zT h ?_
  refine zI hf rfl hF ?_ ?_ <;> clear hF <;> intro hF
  ·refine zS fun K h => sp 3 hf rfl fun a hf => zT h ?_
   refine wp_ret ?_
   refine xThenR ?_
   obtain rfl := sj hF
   replace hc := hc.nilRow 38 2
   replace hc := ((hc.drop k3).drop k2).drop k1
   exact zO2 Try.results12 hf rfl rfl ⟨none,0,rfl,hc⟩
  ·refine wp_skip ?_
   refine h7 _ _ ?_
   refine zS fun K h => sp 2 hf rfl fun a hf => zP hf rfl (pFA fa_80_1 rfl) fun a hf => zL hf hc sc_51 m1 rfl fun a w hf hc => sp 2 hf rfl fun a hf => zT h ?_
   refine wp_ret ?_
   obtain rfl := sj hF
   replace hc := (hc.drop k2).drop k1
   exact zO2 Try.results12 hf rfl rfl ⟨p_1,c_1,rfl,hc⟩

def slices_Clone_Lapi_Span_api_Span (N : Nat) (s_ : List api_Span) : Option ((List api_Span)) :=
 Option.bind (room (s_).length) fun un =>
 some s_
theorem slices_Clone_Lapi_Span_api_Span_ok {N : Nat} {G : Pers} {Lf : List Ent} {w : World} (s_ : List api_Span) {s__p : Option Addr} {s__c : Nat} (h_s_ : Rd G 2 s__p s__c (s_.map enc_api_Span)) (hc : Ctx G (Lf) w) {res : (List api_Span)} (hF : slices_Clone_Lapi_Span_api_Span N s_ = some res) : Calls Try.prog 43 #[.slice s__p s_.length s__c] w (fun e w => ∃ (p'1 : Option Addr) (c'1 : Nat),e = .returned (.slice p'1 res.length c'1) ∧ Ctx G (.row p'1 c'1 (res.map enc_api_Span) 38 2::Lf) w) := by
 unfold slices_Clone_Lapi_Span_api_Span at hF
 refine fnIn Try.func43 rfl Try.ntmps43 rfl fun a hf => zS fun K h => sp 1 hf rfl fun a hf => zT h ?_
 refine wp_seq_k fun K2 h2 => zS fun K h => sp 1 hf rfl fun a hf => zP hf rfl (pEqN Try.underlying51 rfl rfl) fun a hf => zT h ?_
 rcases rd_nilq h_s_ with ⟨hp,hx⟩ | hp
 ·rw [hp] at hf
  replace hF : (some ([] : List api_Span)) = some res := by
   try rw [hx] at hF
   exact hF
  refine cCondT hf rfl ?_
  refine zS fun K h => sp 1 hf rfl fun a hf => zT h ?_
  refine wp_ret ?_
  refine xThenR ?_
  obtain rfl := sj hF
  replace hc := hc.nilRow 38 2
  exact zO1 Try.results43 hf rfl ⟨none,0,rfl,hc⟩
 ·rw [hp] at hf
  refine cCondF hf rfl ?_
  refine wp_skip ?_
  refine h2 _ _ ?_
  refine zS fun K h => stBS (rows := ([] : List api_Span).map enc_api_Span) (vs := []) hf hc rfl rfl sl_51 rfl trivial rfl rfl fun b_1 a w hf hc => sp 1 hf rfl fun a hf => ?_
  obtain ⟨un,hun,hF⟩ := bnd_some hF
  refine stApm (xs := ([] : List api_Span)) (ys := s_) hf hc rfl rfl sl_51 rfl rfl rfl rfl rfl one_enc_api_Span (src_rd hc h_s_) (fun _ _ => u0) (by simpa using room_spec hun) fun p_1 c_1 a w hf hc => sp 1 hf rfl fun a hf => zT h ?_
  refine wp_ret ?_
  obtain rfl := sj hF
  exact zO1 Try.results43 hf rfl ⟨p_1,c_1,rfl,hc⟩

def slices_Reverse_Lapi_Span_api_Span_b3 (N : Nat) (s_1 : List api_Span) (i_1 : Int) (j_1 : Int) : Option (Step ((List api_Span) × Int × Int) ((List api_Span))) :=
 cond (decide (i_1 < j_1))
 (Option.bind (getI s_1 j_1) fun e_1 =>
 Option.bind (getI s_1 i_1) fun e_2 =>
 Option.bind (getI s_1 i_1) fun e_3 =>
 Option.bind (getI s_1 j_1) fun e_4 =>
 some (.cont (((s_1.set i_1.toNat e_1).set j_1.toNat e_2),W (i_1 + 1),W (j_1 - 1))))
 (some (.brk (s_1,i_1,j_1)))
def slices_Reverse_Lapi_Span_api_Span (N : Nat) (s_ : List api_Span) : Option ((List api_Span)) :=
 Option.bind (loopO (fun s3 => slices_Reverse_Lapi_Span_api_Span_b3 N s3.1 s3.2.1 s3.2.2) N (s_,0,W (((s_.length : Nat) : Int) - 1))) fun x3 =>
 exK x3 (fun s3 => Option.bind (sameL s3.1 s_) fun _ =>
 some s3.1) some
theorem slices_Reverse_Lapi_Span_api_Span_ok {N : Nat} {G : Pers} {Lf : List Ent} {w : World} (s_ : List api_Span) {s__p : Option Addr} {s__c : Nat}  (hc : Ctx G (.row s__p s__c (s_.map enc_api_Span) 38 2::Lf) w) {res : (List api_Span)} (hF : slices_Reverse_Lapi_Span_api_Span N s_ = some res) : Calls Try.prog 44 #[.slice s__p s_.length s__c] w (fun e w => e = .returned (.tuple #[]) ∧ res.length = s_.length ∧ Ctx G (.row s__p s__c (res.map enc_api_Span) 38 2::Lf) w) := by
 unfold slices_Reverse_Lapi_Span_api_Span at hF
 refine fnIn Try.func44 rfl Try.ntmps44 rfl fun a hf => zS fun K h => sp 1 hf rfl fun a hf => zP hf rfl (pLenS Try.underlying51 rfl) fun a hf => sp 3 hf rfl fun a hf => zT h ?_
 refine wp_thenK fun K2 h2 => wp_block ?_
 obtain ⟨x3,hx3,hF⟩ := bnd_some hF
 let S3 : ((List api_Span) × Int × Int) → Act → World → Prop := (fun (zz : (List api_Span) × Int × Int) a w => Has 28 a [(0,.slice s__p zz.1.length s__c),(2,i6 zz.2.1),(3,i6 zz.2.2)] ∧ Ctx G (.row s__p s__c (zz.1.map enc_api_Span) 38 2::Lf) w)
 have hr3 : ∀ (zz : (List api_Span) × Int × Int) a w,x3 = .go zz → S3 zz a w → K2 a w := by
  rintro ⟨s_1,i_1,j_1⟩ a w rfl ⟨hf,hc⟩
  replace hF := exK_go hF
  refine h2 _ _ ?_
  obtain ⟨_,hl0,hF⟩ := same_len hF
  obtain rfl := sj hF
  exact fnOut0 (by simp) rfl Try.results44 hf ⟨rfl,hl0,hc⟩
 have ho3 : ∀ r,x3 = .out r → r = res := by
  rintro r rfl
  exact sj hF
 refine cLoop N (loopW (S := S3) (x := x3) ?_ N (s_,0,W (((s_.length : Nat) : Int) - 1)) _ _ ⟨hf.kp rfl,hc⟩ hx3)
 clear hF hf hc
 rintro ⟨s_1,i_1,j_1⟩ st3 a w KB3 ⟨hf,hc⟩ hF hfin3 hK3
 unfold slices_Reverse_Lapi_Span_api_Span_b3 at hF
 refine wp_seq_k fun K4 h4 => zS fun K h => sp 3 hf rfl fun a hf => zT h ?_
 refine zI hf rfl hF ?_ ?_ <;> clear hF <;> intro hF
 ·refine wp_skip ?_
  refine h4 _ _ ?_
  refine wp_seq_k fun K6 h6 => wp_block ?_
  obtain ⟨e_1,he_1,hF⟩ := bnd_some hF
  obtain ⟨g,rfl,qa,qr⟩ := row_atm hc m0 he_1
  obtain ⟨e_2,he_2,hF⟩ := bnd_some hF
  obtain ⟨qa_1,qr_1⟩ := row_atk hc m0 he_2
  obtain ⟨e_3,he_3,hF⟩ := bnd_some hF
  obtain ⟨qa_2,qr_2⟩ := row_atk hc m0 he_3
  obtain ⟨e_4,he_4,hF⟩ := bnd_some hF
  obtain ⟨qa_3,qr_3⟩ := row_atk hc m0 he_4
  refine regionE (fun θ => [⟨none,none,0,.slice (some ⟨g,0,none⟩) s_1.length s__c⟩,⟨none,none,2,i6 i_1⟩,⟨none,none,3,i6 j_1⟩,⟨some 0,none,14,.slice (some ⟨g,0,none⟩) s_1.length s__c⟩,⟨some 1,none,15,i6 i_1⟩,⟨some 2,none,16,.slice (some ⟨g,0,none⟩) s_1.length s__c⟩,⟨some 3,none,17,i6 j_1⟩,⟨some 4,none,18,.slice (some ⟨g,0,none⟩) s_1.length s__c⟩,⟨some 5,none,19,i6 j_1⟩,⟨some 6,none,20,.pointer (some ⟨g,j_1.toNat * 2,none⟩)⟩,⟨some 7,none,21,.agg #[i6 e_1.Lo,i6 e_1.Hi]⟩,⟨some 8,none,22,.slice (some ⟨g,0,none⟩) s_1.length s__c⟩,⟨some 9,none,23,i6 i_1⟩,⟨some 10,none,24,.pointer (some ⟨g,i_1.toNat * 2,none⟩)⟩,⟨some 11,none,25,.agg #[i6 e_2.Lo,i6 e_2.Hi]⟩,⟨some 12,none,26,.pointer (some ⟨g,i_1.toNat * 2,none⟩)⟩,⟨some 14,none,27,.pointer (some ⟨g,j_1.toNat * 2,none⟩)⟩]) (fun E θ => (bif E 15 then .row (some ⟨g,0,none⟩) s__c (((s_1.set i_1.toNat e_1).set j_1.toNat e_2).map enc_api_Span) 38 2 else bif E 13 then .row (some ⟨g,0,none⟩) s__c ((s_1.set i_1.toNat e_1).map enc_api_Span) 38 2 else .row (some ⟨g,0,none⟩) s__c (s_1.map enc_api_Span) 38 2)::Lf) [(13,6),(15,6),(13,7),(15,7),(11,10),(13,11),(15,10),(15,11),(13,12),(15,12),(15,13),(15,14)] (fun a w => Has 28 a [(0,.slice (some ⟨g,0,none⟩) s_1.length s__c),(2,i6 i_1),(3,i6 j_1)] ∧ Ctx G (.row (some ⟨g,0,none⟩) s__c (((s_1.set i_1.toNat e_1).set j_1.toNat e_2).map enc_api_Span) 38 2::Lf) w) follows_mx (by kernel_rfl) (by kernel_rfl) (HasE.of hf ⟨rfl,rfl,rfl,trivial,trivial,trivial,trivial,trivial,trivial,trivial,trivial,trivial,trivial,trivial,trivial,trivial,trivial,trivial⟩) hc ⟨?_,?_,?_,?_,?_,?_,?_,?_,?_,?_,?_,?_,?_,?_,?_,?_,trivial⟩ ?_ ?_
  ·intro E θ a w hD hi hp he hc
   have hf := he.h0.mT he 0 rfl
   refine sp 1 hf rfl fun a hf => zD θ he hi hf 3 rfl rfl rfl hc
  ·intro E θ a w hD hi hp he hc
   have hf := he.h0.mT he 1 rfl
   refine sp 1 hf rfl fun a hf => zD θ he hi hf 4 rfl rfl rfl hc
  ·intro E θ a w hD hi hp he hc
   have hf := he.h0.mT he 0 rfl
   refine sp 1 hf rfl fun a hf => zD θ he hi hf 5 rfl rfl rfl hc
  ·intro E θ a w hD hi hp he hc
   have hf := he.h0.mT he 2 rfl
   refine sp 1 hf rfl fun a hf => zD θ he hi hf 6 rfl rfl rfl hc
  ·intro E θ a w hD hi hp he hc
   have hf := he.h0.mT he 0 rfl
   refine sp 1 hf rfl fun a hf => zD θ he hi hf 7 rfl rfl rfl hc
  ·intro E θ a w hD hi hp he hc
   have hf := he.h0.mT he 2 rfl
   refine sp 1 hf rfl fun a hf => zD θ he hi hf 8 rfl rfl rfl hc
  ·intro E θ a w hD hi hp he hc
   have e4 := hp.o 4 rfl
   have e5 := hp.o 5 rfl
   have e13 := hD.f 0 rfl hi
   have e15 := hD.f 1 rfl hi
   try dsimp only at hc
   rw [e13,e15] at hc
   have hf := (he.h0.mP he 7 rfl e4).mP he 8 rfl e5
   refine zP hf rfl (pIA Try.underlying51 sz_38 rfl rfl qa) fun a hf => zD θ he hi hf 9 rfl rfl rfl ?_
   try dsimp only
   rw [updE_fls 6 e13 rfl,updE_fls 6 e15 rfl]
   exact hc
  ·intro E θ a w hD hi hp he hc
   have e6 := hp.o 6 rfl
   have e13 := hD.f 2 rfl hi
   have e15 := hD.f 3 rfl hi
   try dsimp only at hc
   rw [e13,e15] at hc
   have hf := he.h0.mP he 9 rfl e6
   refine zE hf hc rfl (eLdN (vs := [i6 e_1.Lo,i6 e_1.Hi]) ag_38 rfl rfl (cells_rw (sz := 2) (i := j_1.toNat) m0 qr (n := 2) (o' := 0) rfl)) fun a w hf hc => zD θ he hi hf 10 rfl rfl rfl ?_
   try dsimp only
   rw [updE_fls 7 e13 rfl,updE_fls 7 e15 rfl]
   exact hc
  ·intro E θ a w hD hi hp he hc
   have hf := he.h0.mT he 0 rfl
   refine sp 1 hf rfl fun a hf => zD θ he hi hf 11 rfl rfl rfl hc
  ·intro E θ a w hD hi hp he hc
   have hf := he.h0.mT he 1 rfl
   refine sp 1 hf rfl fun a hf => zD θ he hi hf 12 rfl rfl rfl hc
  ·intro E θ a w hD hi hp he hc
   have e8 := hp.o 8 rfl
   have e9 := hp.o 9 rfl
   have e11 := hD.f 4 rfl hi
   have e13 := hD.f 5 rfl e11
   have e15 := hD.f 6 rfl hi
   try dsimp only at hc
   rw [e13,e15] at hc
   have hf := (he.h0.mP he 11 rfl e8).mP he 12 rfl e9
   refine zP hf rfl (pIA Try.underlying51 sz_38 rfl rfl qa_1) fun a hf => zD θ he hi hf 13 rfl rfl rfl ?_
   try dsimp only
   rw [updE_fls 10 e13 rfl,updE_fls 10 e15 rfl]
   exact hc
  ·intro E θ a w hD hi hp he hc
   have e10 := hp.o 10 rfl
   have e13 := hD.f 5 rfl hi
   have e15 := hD.f 7 rfl hi
   try dsimp only at hc
   rw [e13,e15] at hc
   have hf := he.h0.mP he 13 rfl e10
   refine zE hf hc rfl (eLdN (vs := [i6 e_2.Lo,i6 e_2.Hi]) ag_38 rfl rfl (cells_rw (sz := 2) (i := i_1.toNat) m0 qr_1 (n := 2) (o' := 0) rfl)) fun a w hf hc => zD θ he hi hf 14 rfl rfl rfl ?_
   try dsimp only
   rw [updE_fls 11 e13 rfl,updE_fls 11 e15 rfl]
   exact hc
  ·intro E θ a w hD hi hp he hc
   have e0 := hp.o 0 rfl
   have e1 := hp.o 1 rfl
   have e13 := hD.f 8 rfl hi
   have e15 := hD.f 9 rfl hi
   try dsimp only at hc
   rw [e13,e15] at hc
   have hf := (he.h0.mP he 3 rfl e0).mP he 4 rfl e1
   refine zP hf rfl (pIA Try.underlying51 sz_38 rfl rfl qa_2) fun a hf => zD θ he hi hf 15 rfl rfl rfl ?_
   try dsimp only
   rw [updE_fls 12 e13 rfl,updE_fls 12 e15 rfl]
   exact hc
  ·intro E θ a w hD hi hp he hc
   have e7 := hp.o 7 rfl
   have e12 := hp.o 12 rfl
   have e15 := hD.f 10 rfl hi
   try dsimp only at hc
   rw [hi,e15] at hc
   have hf := (he.h0.mP he 10 rfl e7).mP he 15 rfl e12
   refine stRw (sz := 2) (vs := [i6 e_1.Lo,i6 e_1.Hi]) (o' := 0) (z := e_1) (xs := s_1) hf hc rfl rfl rfl rfl sz_38 rfl (fun x => (one_enc_api_Span x).1) (getI_lt he_3) (fun _ _ => rfl) rfl u0 fun w hc => zG θ he hi hf rfl ?_
   try dsimp only
   rw [updE_self E 13,updE_fls 13 e15 rfl]
   exact hc
  ·intro E θ a w hD hi hp he hc
   have e2 := hp.o 2 rfl
   have e3 := hp.o 3 rfl
   have e13 := hp.o 13 rfl
   have e15 := hD.f 11 rfl hi
   try dsimp only at hc
   rw [e13,e15] at hc
   have hf := (he.h0.mP he 5 rfl e2).mP he 6 rfl e3
   refine zP hf rfl (pIA Try.underlying51 sz_38 rfl rfl qa_3) fun a hf => zD θ he hi hf 16 rfl rfl rfl ?_
   try dsimp only
   rw [updE_tru 14 e13,updE_fls 14 e15 rfl]
   exact hc
  ·intro E θ a w hD hi hp he hc
   have e11 := hp.o 11 rfl
   have e14 := hp.o 14 rfl
   have e13 := hp.o 13 rfl
   try dsimp only at hc
   rw [e13,hi] at hc
   have hf := (he.h0.mP he 14 rfl e11).mP he 16 rfl e14
   refine stRw (sz := 2) (vs := [i6 e_2.Lo,i6 e_2.Hi]) (o' := 0) (z := e_2) (xs := (s_1.set i_1.toNat e_1)) hf hc rfl rfl rfl rfl sz_38 rfl (fun x => (one_enc_api_Span x).1) (by simpa using getI_lt he_4) (fun _ _ => rfl) rfl u0 fun w hc => zG θ he hi hf rfl ?_
   try dsimp only
   rw [updE_tru 15 e13,updE_self E 15]
   exact hc
  ·intro E θ a w hall he hc
   have hf := he.h0
   have e13 := hall 13 rfl
   have e15 := hall 15 rfl
   replace hf := hf.more he 2 rfl (onT)
   replace hf := hf.more he 1 rfl (onT)
   replace hf := hf.more he 0 rfl (onT)
   try dsimp only at hc
   rw [e13,e15] at hc
   exact ⟨hf.kp rfl,hc⟩
  rintro a w ⟨hf,hc⟩
  refine h6 _ _ ?_
  refine cReg ?_
  refine sp 6 hf rfl fun a hf => cNil ?_
  replace hf := hf.castAt 0 (v' := .slice (some ⟨g,0,none⟩) (((s_1.set i_1.toNat e_1).set j_1.toNat e_2).length) s__c) rfl (congrArg (fun k => Value.slice (some ⟨g,0,none⟩) k s__c) (by simp))
  exact hK3 (((s_1.set i_1.toNat e_1).set j_1.toNat e_2),W (i_1 + 1),W (j_1 - 1)) _ _ (sj hF).symm ⟨hf.kp rfl,hc⟩
 ·refine wp_exit ?_
  refine xThen ?_
  refine xThen ?_
  have he := sj hF
  rw [← he] at hfin3
  refine cHit ?_
  exact hr3 _ _ _ hfin3 ⟨hf.kp rfl,hc⟩

def shift_start_r5 (N : Nat) (s_ : api_Span) (x : Nat → Int) (xv : Int) (xv_1 : Int) : Option (Rs ((Nat → Int))) :=
 cond (!(shift_in xv_1 s_.Lo s_.Hi))
 (Option.bind (inR xv 601) fun un =>
 some (.go (setF x xv.toNat 1073741824)))
 (some (.go x))
def shift_start (N : Nat) (s_ : api_Span) : Option ((Nat → Int)) :=
 Option.bind (shift_shifts_1 N (rY (fun (zz : (Nat → Int)) (ix_ : (Int × Int)) => shift_start_r5 N s_ zz ix_.1 ix_.2)) (.go (fun _ => 0))) fun x5 =>
 rsK x5 (fun zz5 => some zz5) (fun zz5 => none)
theorem shift_start_ok {N : Nat} {G : Pers} {Lf : List Ent} {w : World} (s_ : api_Span)   (hc : Ctx G (Lf) w) {res : (Nat → Int)} (hF : shift_start N s_ = some res) : Calls Try.prog 64 #[.agg #[i6 s_.Lo,i6 s_.Hi]] w (fun e w => ∃ (b'1 : Nat),e = .returned (pq b'1) ∧ Ctx G (.box b'1 (catc [] 601 encI_i64 res []) 85::Lf) w) := by
 unfold shift_start at hF
 refine fnInM Try.func64 rfl Try.ntmps64 rfl fun a hf => zS fun K h => zB hf hc rfl fun b_1 a w hf hc => sp 1 hf rfl fun a hf => zT h ?_
 refine zS fun K h => stAl (cs := (catc [] 601 encI_i64 (fun _ => 0) [])) hf hc rfl rfl zr_85 rfl fun b_2 a w hf hc => zT h ?_
 refine wp_seq_k fun K3 h3 => zS fun K h => zQ (v := .func (.func 47) #[] #[]) hf hc en_21 rfl (fun w hc => shift_shifts_ok hc rfl) fun a w hf hc => zT h ?_
 obtain ⟨x5,hx5,hF⟩ := bnd_some hF
 refine cRange (C := []) (C2 := []) (L0 := [.box b_2 (catc [] 601 encI_i64 ((fun _ => 0)) []) 85,.box b_1 [i6 s_.Lo,i6 s_.Hi] 38]) (Lf := Lf) (encs := fun x : (Int × Int) => [i6 x.1,i6 x.2]) (fun (zz : (Nat → Int)) L => L = [.box b_2 (catc [] 601 encI_i64 zz []) 85,.box b_1 [i6 s_.Lo,i6 s_.Hi] 38]) (fun (zz : (Nat → Int)) (ix_ : (Int × Int)) => shift_start_r5 N s_ zz ix_.1 ix_.2) (fun _ => 0) x5 hf hc rfl en_47 (fun _ => rfl) rfl rfl ?_ ?_ ?_ ?_
 ·intro lq mq J L Lx w hy hJ hc
  exact shift_shifts_1_ok  J _ hy _ hJ hc hx5
 ·clear hF hf hc
  rintro lq mq x ⟨xv,xv_1⟩ oq _ Lr Lb a w hK0 rfl hF hf hc hK
  replace hf : Has 18 a [(1,pq b_1),(3,pq b_2),(7,i6 xv),(8,i6 xv_1)] := hf.kp rfl
  replace hc : Ctx G (.box b_2 (catc [] 601 encI_i64 x []) 85::.box b_1 [i6 s_.Lo,i6 s_.Hi] 38::Lr) w := hc
  replace hF : shift_start_r5 N s_ x xv xv_1 = some oq := hF
  unfold shift_start_r5 at hF
  refine rSeq fun K6 h6 => rReg (fun _ _ h => h) rfl ?_
  refine sp 1 hf rfl fun a hf => cNil ?_
  refine h6 _ _ ?_
  refine rReg (fun _ _ h => h) rfl ?_
  refine sp 1 hf rfl fun a hf => cNil ?_
  refine hK _ _ [.box b_2 (catc [] 601 encI_i64 x []) 85,.box b_1 [i6 s_.Lo,i6 s_.Hi] 38] hc fun w hc => ?_
  replace hc : Ctx G (.box b_2 (catc [] 601 encI_i64 x []) 85::.box b_1 [i6 s_.Lo,i6 s_.Hi] 38::Lb) w := hc
  refine rThenK fun K7 h7 => rBlock ?_
  refine rSeq fun K8 h8 => rReg (fun _ _ h => h) rfl ?_
  refine sp 1 hf rfl fun a hf => zP hf rfl (pFA fa_38_0 rfl) fun a hf => zL hf hc sc_3 m1 rfl fun a w hf hc => zP hf rfl (pFA fa_38_1 rfl) fun a hf => zL hf hc sc_3 m1 rfl fun a w hf hc => zQ (v := .bool (shift_in xv_1 s_.Lo s_.Hi)) hf hc en_36 rfl (fun w hc => shift_in_ok xv_1 s_.Lo s_.Hi hc rfl) fun a w hf hc => sp 1 hf rfl fun a hf => cNil ?_
  refine h8 _ _ ?_
  refine rCond (b := (!(shift_in xv_1 s_.Lo s_.Hi))) hf rfl (fun hb => ?_) (fun hb => ?_)
  ·replace hF := condT hb hF
   clear hb
   refine rReg (fun _ _ h => h) rfl ?_
   refine sp 1 hf rfl fun a hf => ?_
   obtain ⟨un,hun,hF⟩ := bnd_some hF
   refine zP hf rfl (pIAA Try.underlying85 sz_3 rfl rfl (inR_spec hun).1 (inR_spec hun).2) fun a hf => stAr (vs := [i6 1073741824]) (o' := 0) (z := 1073741824) hf hc rfl rfl rfl rfl sz_3 rfl (fun x => (one_encI_i64 x).1) rfl hun rfl rfl u0 fun w hc => cNil ?_
   refine h7 _ _ ?_
   exact ⟨(setF x xv.toNat 1073741824),_,(sj hF).symm,rfl,hc⟩
  ·replace hF := condF hb hF
   clear hb
   refine rSkip ?_
   refine h7 _ _ ?_
   exact ⟨x,_,(sj hF).symm,rfl,hc⟩
 ·rintro D_1 x _ a w hsF rfl hf hc
  replace hf : Has ⟨18,markL (D_1::[])⟩ a [(1,pq b_1),(3,pq b_2)] := hf.kp rfl
  replace hc : Ctx G (.box b_2 (catc [] 601 encI_i64 x []) 85::.box b_1 [i6 s_.Lo,i6 s_.Hi] 38::(raws (D_1::[]) ++ Lf)) w := rawsIn (C := []) (L := [.box b_2 (catc [] 601 encI_i64 x []) 85,.box b_1 [i6 s_.Lo,i6 s_.Hi] 38]) hc
  replace hF : (some x) = some res := by rcases hsF with rfl | rfl <;> exact hF
  refine h3 _ _ ?_
  refine zS fun K h => sp 1 hf rfl fun a hf => zT h ?_
  refine wp_ret ?_
  obtain rfl := sj hF
  replace hc := hc.drop k1
  refine outM hf ?_
  refine outML [.box b_2 (catc [] 601 encI_i64 x []) 85] (D_1::[]) hc fun w hc => ?_
  replace hc : Ctx G (.box b_2 (catc [] 601 encI_i64 x []) 85::Lf) w := hc
  exact outM1 Try.results64 hf hc (show look _ 2 = _ from rfl) ⟨b_2,rfl,hc⟩
 ·rintro D_1 x _ a w hsF rfl hf hc
  replace hf : Has ⟨18,markL (D_1::[])⟩ a [(1,pq b_1),(3,pq b_2)] := hf.kp rfl
  replace hc : Ctx G (.box b_2 (catc [] 601 encI_i64 x []) 85::.box b_1 [i6 s_.Lo,i6 s_.Hi] 38::(raws (D_1::[]) ++ Lf)) w := rawsIn (C := []) (L := [.box b_2 (catc [] 601 encI_i64 x []) 85,.box b_1 [i6 s_.Lo,i6 s_.Hi] 38]) hc
  replace hF : (none) = some res := by subst hsF; exact hF
  cases hF

def shift_moved_on_r13 (N : Nat) (s_ : api_Span) (b__2 : Nat → Int) (xv : Int) (xv_1 : Int) : Option (Rs ((Nat → Int))) :=
 cond (!(shift_in xv_1 s_.Lo s_.Hi))
 (Option.bind (inR xv 601) fun un =>
 some (.go (setF b__2 xv.toNat 1073741824)))
 (some (.go b__2))
def shift_moved_on_b11 (N : Nat) (m : Nat → Int) (best_1 : Int) (i_1 : Int) (b__1 : Nat → Int) : Option (Step (Int × Int × (Nat → Int)) ((Nat → Int))) :=
 cond (decide (0 ≤ i_1))
 (Option.bind (inR i_1 601) fun un_1 =>
 Option.bind (inR i_1 601) fun un_2 =>
 Option.bind (inR i_1 601) fun un_3 =>
 some (.cont (min (W (best_1 + 1)) (m i_1.toNat),W (i_1 - 1),(setF b__1 i_1.toNat (min (b__1 i_1.toNat) (min (W (best_1 + 1)) (m i_1.toNat)))))))
 (some (.brk (best_1,i_1,b__1)))
def shift_moved_on_b7 (N : Nat) (m : Nat → Int) (best : Int) (x : Int) (b__0 : Nat → Int) : Option (Step (Int × Int × (Nat → Int)) ((Nat → Int))) :=
 cond (decide (x < 601))
 (Option.bind (inR x 601) fun un_4 =>
 Option.bind (inR x 601) fun un_5 =>
 some (.cont (min (W (best + 1)) (m x.toNat),W (x + 1),(setF b__0 x.toNat (min (W (best + 1)) (m x.toNat))))))
 (some (.brk (best,x,b__0)))
def shift_moved_on (N : Nat) (m : Nat → Int) (s_ : api_Span) : Option ((Nat → Int)) :=
 Option.bind (subO (aL 601 m) 0 ((601 : Nat) : Int)) fun sub =>
 Option.bind (loopO (fun s7 => shift_moved_on_b7 N m s7.1 s7.2.1 s7.2.2) N (1073741824,0,(fun _ => 0))) fun x7 =>
 exK x7 (fun s7 => Option.bind (loopO (fun s11 => shift_moved_on_b11 N m s11.1 s11.2.1 s11.2.2) N (1073741824,600,s7.2.2)) fun x11 =>
 exK x11 (fun s11 => Option.bind (shift_shifts_1 N (rY (fun (zz : (Nat → Int)) (ix_ : (Int × Int)) => shift_moved_on_r13 N s_ zz ix_.1 ix_.2)) (.go s11.2.2)) fun x13 =>
 rsK x13 (fun zz13 => some zz13) (fun zz13 => none)) some) some
theorem shift_moved_on_ok {N : Nat} {G : Pers} {Lf : List Ent} {w : World} (m : Nat → Int) (s_ : api_Span) {b_ : Nat}  (hc : Ctx G (.box b_ (catc [] 601 encI_i64 m []) 85::Lf) w) {res : (Nat → Int)} (hF : shift_moved_on N m s_ = some res) : Calls Try.prog 65 #[pq b_,.agg #[i6 s_.Lo,i6 s_.Hi]] w (fun e w => e = .returned (.tuple #[]) ∧ Ctx G (.box b_ (catc [] 601 encI_i64 res []) 85::Lf) w) := by
 unfold shift_moved_on at hF
 refine fnInM Try.func65 rfl Try.ntmps65 rfl fun a hf => zS fun K h => zB hf hc rfl fun b_1 a w hf hc => zB hf hc rfl fun b_2 a w hf hc => zT h ?_
 refine zS fun K h => zL hf hc sc_133 m1 rfl fun a w hf hc => sp 1 hf rfl fun a hf => zE hf hc rfl (eLdN (vs := (catc [] 601 encI_i64 m [])) ag_85 rfl (one_encA_85 _).1 (cells_box (n := 601) m2 (takeW (one_encA_85 _).1))) fun a w hf hc => stAl (cs := (catc [] 601 encI_i64 (fun _ => 0) [])) hf hc rfl rfl zr_85 rfl fun b_3 a w hf hc => stStA (enc := encA_85) (f := (fun _ => 0)) (z := m) hf hc rfl rfl rfl one_encA_85 sz_85 u0 fun w hc => zT h ?_
 refine zS fun K h => zL hf hc sc_133 m2 rfl fun a w hf hc => sp 1 hf rfl fun a hf => ?_
 obtain ⟨sub,hsub,hF⟩ := bnd_some hF
 refine zP hf rfl (pSlA (xs := (aL 601 m)) Try.underlying85 sz_3 rfl aL_len rfl rfl hsub) fun a hf => stClN (n := 601) (f := m) (x0 := 0) (v := i6 0) hf hc rfl Try.underlying30 zr_3 rfl rfl rfl subP0 (subO_all hsub rfl rfl) rfl rfl (fun x => (one_encI_i64 x).1) u3 fun w hc => zT h ?_
 refine zS fun K h => sp 1 hf rfl fun a hf => zT h ?_
 refine wp_seq_k fun K5 h5 => zS fun K h => sp 1 hf rfl fun a hf => zT h ?_
 refine wp_block ?_
 obtain ⟨x7,hx7,hF⟩ := bnd_some hF
 let S7 : (Int × Int × (Nat → Int)) → Act → World → Prop := (fun (zz : Int × Int × (Nat → Int)) a w => Has 66 a [(2,pq b_1),(3,pq b_2),(4,pq b_3),(5,i6 zz.1),(16,i6 zz.2.1)] ∧ Ctx G (.box b_3 (catc [] 601 encI_i64 m []) 85::.box b_2 [i6 s_.Lo,i6 s_.Hi] 38::.box b_1 [pq b_] 133::.box b_ (catc [] 601 encI_i64 zz.2.2 []) 85::Lf) w)
 have hr7 : ∀ (zz : Int × Int × (Nat → Int)) a w,x7 = .go zz → S7 zz a w → K5 a w := by
  rintro ⟨best,x,b__0⟩ a w rfl ⟨hf,hc⟩
  replace hF := exK_go hF
  refine h5 _ _ ?_
  refine zS fun K h => sp 1 hf rfl fun a hf => zT h ?_
  refine wp_seq_k fun K9 h9 => zS fun K h => sp 1 hf rfl fun a hf => zT h ?_
  refine wp_block ?_
  obtain ⟨x11,hx11,hF⟩ := bnd_some hF
  let S11 : (Int × Int × (Nat → Int)) → Act → World → Prop := (fun (zz : Int × Int × (Nat → Int)) a w => Has 66 a [(2,pq b_1),(3,pq b_2),(4,pq b_3),(5,i6 zz.1),(7,i6 zz.2.1)] ∧ Ctx G (.box b_3 (catc [] 601 encI_i64 m []) 85::.box b_2 [i6 s_.Lo,i6 s_.Hi] 38::.box b_1 [pq b_] 133::.box b_ (catc [] 601 encI_i64 zz.2.2 []) 85::Lf) w)
  have hr11 : ∀ (zz : Int × Int × (Nat → Int)) a w,x11 = .go zz → S11 zz a w → K9 a w := by
   rintro ⟨best_1,i_1,b__1⟩ a w rfl ⟨hf,hc⟩
   replace hF := exK_go hF
   refine h9 _ _ ?_
   refine zS fun K h => zQ (v := .func (.func 47) #[] #[]) hf hc en_21 rfl (fun w hc => shift_shifts_ok hc rfl) fun a w hf hc => zT h ?_
   obtain ⟨x13,hx13,hF⟩ := bnd_some hF
   replace hc := hc.drop k0
   refine cRange (C := []) (C2 := []) (L0 := [.box b_2 [i6 s_.Lo,i6 s_.Hi] 38,.box b_1 [pq b_] 133,.box b_ (catc [] 601 encI_i64 b__1 []) 85]) (Lf := Lf) (encs := fun x : (Int × Int) => [i6 x.1,i6 x.2]) (fun (zz : (Nat → Int)) L => L = [.box b_2 [i6 s_.Lo,i6 s_.Hi] 38,.box b_1 [pq b_] 133,.box b_ (catc [] 601 encI_i64 zz []) 85]) (fun (zz : (Nat → Int)) (ix_ : (Int × Int)) => shift_moved_on_r13 N s_ zz ix_.1 ix_.2) b__1 x13 hf hc rfl en_47 (fun _ => rfl) rfl rfl ?_ ?_ ?_ ?_
   ·intro lq mq J L Lx w hy hJ hc
    exact shift_shifts_1_ok  J _ hy _ hJ hc hx13
   ·clear hF hf hc
    rintro lq mq b__2 ⟨xv,xv_1⟩ oq _ Lr Lb a w hK0 rfl hF hf hc hK
    replace hf : Has 66 a [(2,pq b_1),(3,pq b_2),(53,i6 xv),(54,i6 xv_1)] := hf.kp rfl
    replace hc : Ctx G (.box b_2 [i6 s_.Lo,i6 s_.Hi] 38::.box b_1 [pq b_] 133::.box b_ (catc [] 601 encI_i64 b__2 []) 85::Lr) w := hc
    replace hF : shift_moved_on_r13 N s_ b__2 xv xv_1 = some oq := hF
    unfold shift_moved_on_r13 at hF
    refine rSeq fun K14 h14 => rReg (fun _ _ h => h) rfl ?_
    refine sp 1 hf rfl fun a hf => cNil ?_
    refine h14 _ _ ?_
    refine rReg (fun _ _ h => h) rfl ?_
    refine sp 1 hf rfl fun a hf => cNil ?_
    refine hK _ _ [.box b_2 [i6 s_.Lo,i6 s_.Hi] 38,.box b_1 [pq b_] 133,.box b_ (catc [] 601 encI_i64 b__2 []) 85] hc fun w hc => ?_
    replace hc : Ctx G (.box b_2 [i6 s_.Lo,i6 s_.Hi] 38::.box b_1 [pq b_] 133::.box b_ (catc [] 601 encI_i64 b__2 []) 85::Lb) w := hc
    refine rThenK fun K15 h15 => rBlock ?_
    refine rSeq fun K16 h16 => rReg (fun _ _ h => h) rfl ?_
    refine sp 1 hf rfl fun a hf => zP hf rfl (pFA fa_38_0 rfl) fun a hf => zL hf hc sc_3 m0 rfl fun a w hf hc => zP hf rfl (pFA fa_38_1 rfl) fun a hf => zL hf hc sc_3 m0 rfl fun a w hf hc => zQ (v := .bool (shift_in xv_1 s_.Lo s_.Hi)) hf hc en_36 rfl (fun w hc => shift_in_ok xv_1 s_.Lo s_.Hi hc rfl) fun a w hf hc => sp 1 hf rfl fun a hf => cNil ?_
    refine h16 _ _ ?_
    refine rCond (b := (!(shift_in xv_1 s_.Lo s_.Hi))) hf rfl (fun hb => ?_) (fun hb => ?_)
    ·replace hF := condT hb hF
     clear hb
     refine rReg (fun _ _ h => h) rfl ?_
     refine zL hf hc sc_133 m1 rfl fun a w hf hc => sp 2 hf rfl fun a hf => ?_
     obtain ⟨un,hun,hF⟩ := bnd_some hF
     refine zP hf rfl (pIAA Try.underlying85 sz_3 rfl rfl (inR_spec hun).1 (inR_spec hun).2) fun a hf => stAr (vs := [i6 1073741824]) (o' := 0) (z := 1073741824) hf hc rfl rfl rfl rfl sz_3 rfl (fun x => (one_encI_i64 x).1) rfl hun rfl rfl u2 fun w hc => cNil ?_
     refine h15 _ _ ?_
     exact ⟨(setF b__2 xv.toNat 1073741824),_,(sj hF).symm,rfl,hc⟩
    ·replace hF := condF hb hF
     clear hb
     refine rSkip ?_
     refine h15 _ _ ?_
     exact ⟨b__2,_,(sj hF).symm,rfl,hc⟩
   ·rintro D_1 b__2 _ a w hsF rfl hf hc
    replace hf : Has ⟨66,markL (D_1::[])⟩ a [(2,pq b_1),(3,pq b_2)] := hf.kp rfl
    replace hc : Ctx G (.box b_2 [i6 s_.Lo,i6 s_.Hi] 38::.box b_1 [pq b_] 133::.box b_ (catc [] 601 encI_i64 b__2 []) 85::(raws (D_1::[]) ++ Lf)) w := rawsIn (C := []) (L := [.box b_2 [i6 s_.Lo,i6 s_.Hi] 38,.box b_1 [pq b_] 133,.box b_ (catc [] 601 encI_i64 b__2 []) 85]) hc
    replace hF : (some b__2) = some res := by rcases hsF with rfl | rfl <;> exact hF
    obtain rfl := sj hF
    replace hc := (hc.drop k1).drop k0
    refine outM hf ?_
    refine outML [.box b_ (catc [] 601 encI_i64 b__2 []) 85] (D_1::[]) hc fun w hc => ?_
    replace hc : Ctx G (.box b_ (catc [] 601 encI_i64 b__2 []) 85::Lf) w := hc
    exact outM0 Try.results65 ⟨rfl,hc⟩
   ·rintro D_1 b__2 _ a w hsF rfl hf hc
    replace hf : Has ⟨66,markL (D_1::[])⟩ a [(2,pq b_1),(3,pq b_2)] := hf.kp rfl
    replace hc : Ctx G (.box b_2 [i6 s_.Lo,i6 s_.Hi] 38::.box b_1 [pq b_] 133::.box b_ (catc [] 601 encI_i64 b__2 []) 85::(raws (D_1::[]) ++ Lf)) w := rawsIn (C := []) (L := [.box b_2 [i6 s_.Lo,i6 s_.Hi] 38,.box b_1 [pq b_] 133,.box b_ (catc [] 601 encI_i64 b__2 []) 85]) hc
    replace hF : (none) = some res := by subst hsF; exact hF
    cases hF
  have ho11 : ∀ r,x11 = .out r → r = res := by
   rintro r rfl
   exact sj hF
  refine cLoop N (loopW (S := S11) (x := x11) ?_ N (1073741824,600,b__0) _ _ ⟨hf.kp rfl,hc⟩ hx11)
  clear hF hf hc
  rintro ⟨best_1,i_1,b__1⟩ st11 a w KB11 ⟨hf,hc⟩ hF hfin11 hK11
  unfold shift_moved_on_b11 at hF
  refine wp_seq_k fun K17 h17 => zS fun K h => sp 2 hf rfl fun a hf => zT h ?_
  refine zI hf rfl hF ?_ ?_ <;> clear hF <;> intro hF
  ·refine wp_skip ?_
   refine h17 _ _ ?_
   refine wp_seq_k fun K19 h19 => wp_block ?_
   refine zS fun K h => sp 3 hf rfl fun a hf => ?_
   obtain ⟨un_1,hun_1,hF⟩ := bnd_some hF
   refine zP hf rfl (pIAA Try.underlying85 sz_3 rfl rfl (inR_spec hun_1).1 (inR_spec hun_1).2) fun a hf => zE hf hc rfl (eLd1 sc_3 rfl (cell_arr (j := 0) m0 (fun x => (one_encI_i64 x).1) rfl hun_1 rfl)) fun a w hf hc => zP hf rfl (pMin2 rfl rfl) fun a hf => sp 1 hf rfl fun a hf => zT h ?_
   obtain ⟨un_2,hun_2,hF⟩ := bnd_some hF
   obtain ⟨un_3,hun_3,hF⟩ := bnd_some hF
   refine regionE (fun θ => [⟨none,none,2,pq b_1⟩,⟨none,none,3,pq b_2⟩,⟨none,none,4,pq b_3⟩,⟨none,none,5,i6 (min (W (best_1 + 1)) (m i_1.toNat))⟩,⟨none,none,7,i6 i_1⟩,⟨some 0,none,41,pq b_⟩,⟨some 1,none,42,i6 i_1⟩,⟨some 2,none,43,pq b_⟩,⟨some 3,none,44,i6 i_1⟩,⟨some 4,none,45,pq b_⟩,⟨some 5,none,46,.pointer (some ⟨b_,0 + i_1.toNat * 1,none⟩)⟩,⟨some 6,none,47,i6 (b__1 i_1.toNat)⟩,⟨some 7,none,48,i6 (min (W (best_1 + 1)) (m i_1.toNat))⟩,⟨some 8,none,49,i6 (min (b__1 i_1.toNat) (min (W (best_1 + 1)) (m i_1.toNat)))⟩,⟨some 9,none,50,pq b_⟩,⟨some 10,none,51,.pointer (some ⟨b_,0 + i_1.toNat * 1,none⟩)⟩]) (fun E θ => .box b_3 (catc [] 601 encI_i64 m []) 85::.box b_2 [i6 s_.Lo,i6 s_.Hi] 38::.box b_1 [pq b_] 133::(bif E 11 then .box b_ (catc [] 601 encI_i64 (setF b__1 i_1.toNat (min (b__1 i_1.toNat) (min (W (best_1 + 1)) (m i_1.toNat)))) []) 85 else .box b_ (catc [] 601 encI_i64 b__1 []) 85)::Lf) [(11,6)] (fun a w => Has 66 a [(2,pq b_1),(3,pq b_2),(4,pq b_3),(5,i6 (min (W (best_1 + 1)) (m i_1.toNat))),(7,i6 i_1)] ∧ Ctx G (.box b_3 (catc [] 601 encI_i64 m []) 85::.box b_2 [i6 s_.Lo,i6 s_.Hi] 38::.box b_1 [pq b_] 133::.box b_ (catc [] 601 encI_i64 (setF b__1 i_1.toNat (min (b__1 i_1.toNat) (min (W (best_1 + 1)) (m i_1.toNat)))) []) 85::Lf) w) follows_mx (by kernel_rfl) (by kernel_rfl) (HasE.of hf ⟨rfl,rfl,rfl,rfl,rfl,trivial,trivial,trivial,trivial,trivial,trivial,trivial,trivial,trivial,trivial,trivial,trivial⟩) hc ⟨?_,?_,?_,?_,?_,?_,?_,?_,?_,?_,?_,?_,trivial⟩ ?_ ?_
   ·intro E θ a w hD hi hp he hc
    have hf := he.h0.mT he 0 rfl
    refine zL hf hc sc_133 m2 rfl fun a w hf hc => zD θ he hi hf 5 rfl rfl rfl hc
   ·intro E θ a w hD hi hp he hc
    have hf := he.h0.mT he 4 rfl
    refine sp 1 hf rfl fun a hf => zD θ he hi hf 6 rfl rfl rfl hc
   ·intro E θ a w hD hi hp he hc
    have hf := he.h0.mT he 0 rfl
    refine zL hf hc sc_133 m2 rfl fun a w hf hc => zD θ he hi hf 7 rfl rfl rfl hc
   ·intro E θ a w hD hi hp he hc
    have hf := he.h0.mT he 4 rfl
    refine sp 1 hf rfl fun a hf => zD θ he hi hf 8 rfl rfl rfl hc
   ·intro E θ a w hD hi hp he hc
    have e2 := hp.o 2 rfl
    have hf := he.h0.mP he 7 rfl e2
    refine sp 1 hf rfl fun a hf => zD θ he hi hf 9 rfl rfl rfl hc
   ·intro E θ a w hD hi hp he hc
    have e3 := hp.o 3 rfl
    have e4 := hp.o 4 rfl
    have hf := (he.h0.mP he 8 rfl e3).mP he 9 rfl e4
    refine zP hf rfl (pIAA Try.underlying85 sz_3 rfl rfl (inR_spec hun_2).1 (inR_spec hun_2).2) fun a hf => zD θ he hi hf 10 rfl rfl rfl hc
   ·intro E θ a w hD hi hp he hc
    have e5 := hp.o 5 rfl
    have e11 := hD.f 0 rfl hi
    try dsimp only at hc
    rw [e11] at hc
    have hf := he.h0.mP he 10 rfl e5
    refine zE hf hc rfl (eLd1 sc_3 rfl (cell_arr (j := 0) m3 (fun x => (one_encI_i64 x).1) rfl hun_2 rfl)) fun a w hf hc => zD θ he hi hf 11 rfl rfl rfl ?_
    try dsimp only
    rw [updE_fls 6 e11 rfl]
    exact hc
   ·intro E θ a w hD hi hp he hc
    have hf := he.h0.mT he 3 rfl
    refine sp 1 hf rfl fun a hf => zD θ he hi hf 12 rfl rfl rfl hc
   ·intro E θ a w hD hi hp he hc
    have e6 := hp.o 6 rfl
    have e7 := hp.o 7 rfl
    have hf := (he.h0.mP he 11 rfl e6).mP he 12 rfl e7
    refine zP hf rfl (pMin2 rfl rfl) fun a hf => zD θ he hi hf 13 rfl rfl rfl hc
   ·intro E θ a w hD hi hp he hc
    have e0 := hp.o 0 rfl
    have hf := he.h0.mP he 5 rfl e0
    refine sp 1 hf rfl fun a hf => zD θ he hi hf 14 rfl rfl rfl hc
   ·intro E θ a w hD hi hp he hc
    have e1 := hp.o 1 rfl
    have e9 := hp.o 9 rfl
    have hf := (he.h0.mP he 6 rfl e1).mP he 14 rfl e9
    refine zP hf rfl (pIAA Try.underlying85 sz_3 rfl rfl (inR_spec hun_3).1 (inR_spec hun_3).2) fun a hf => zD θ he hi hf 15 rfl rfl rfl hc
   ·intro E θ a w hD hi hp he hc
    have e8 := hp.o 8 rfl
    have e10 := hp.o 10 rfl
    try dsimp only at hc
    rw [hi] at hc
    have hf := (he.h0.mP he 13 rfl e8).mP he 15 rfl e10
    refine stAr (vs := [i6 (min (b__1 i_1.toNat) (min (W (best_1 + 1)) (m i_1.toNat)))]) (o' := 0) (z := min (b__1 i_1.toNat) (min (W (best_1 + 1)) (m i_1.toNat))) hf hc rfl rfl rfl rfl sz_3 rfl (fun x => (one_encI_i64 x).1) rfl hun_3 rfl rfl u3 fun w hc => zG θ he hi hf rfl ?_
    try dsimp only
    rw [updE_self E 11]
    exact hc
   ·intro E θ a w hall he hc
    have hf := he.h0
    have e11 := hall 11 rfl
    replace hf := hf.more he 4 rfl (onT)
    replace hf := hf.more he 3 rfl (onT)
    replace hf := hf.more he 2 rfl (onT)
    replace hf := hf.more he 1 rfl (onT)
    replace hf := hf.more he 0 rfl (onT)
    try dsimp only at hc
    rw [e11] at hc
    exact ⟨hf.kp rfl,hc⟩
   rintro a w ⟨hf,hc⟩
   refine h19 _ _ ?_
   refine cReg ?_
   refine sp 3 hf rfl fun a hf => cNil ?_
   exact hK11 (min (W (best_1 + 1)) (m i_1.toNat),W (i_1 - 1),(setF b__1 i_1.toNat (min (b__1 i_1.toNat) (min (W (best_1 + 1)) (m i_1.toNat))))) _ _ (sj hF).symm ⟨hf.kp rfl,hc⟩
  ·refine wp_exit ?_
   refine xThen ?_
   refine xThen ?_
   have he := sj hF
   rw [← he] at hfin11
   refine cHit ?_
   exact hr11 _ _ _ hfin11 ⟨hf.kp rfl,hc⟩
 have ho7 : ∀ r,x7 = .out r → r = res := by
  rintro r rfl
  exact sj hF
 refine cLoop N (loopW (S := S7) (x := x7) ?_ N (1073741824,0,(fun _ => 0)) _ _ ⟨hf.kp rfl,hc⟩ hx7)
 clear hF hf hc
 rintro ⟨best,x,b__0⟩ st7 a w KB7 ⟨hf,hc⟩ hF hfin7 hK7
 unfold shift_moved_on_b7 at hF
 refine zS fun K h => sp 1 hf rfl fun a hf => zT h ?_
 refine wp_seq_k fun K22 h22 => zI hf rfl hF ?_ ?_ <;> clear hF <;> intro hF
 ·refine wp_skip ?_
  refine h22 _ _ ?_
  refine wp_seq_k fun K23 h23 => wp_block ?_
  refine zS fun K h => sp 2 hf rfl fun a hf => zT h ?_
  refine zS fun K h => sp 3 hf rfl fun a hf => ?_
  obtain ⟨un_4,hun_4,hF⟩ := bnd_some hF
  refine zP hf rfl (pIAA Try.underlying85 sz_3 rfl rfl (inR_spec hun_4).1 (inR_spec hun_4).2) fun a hf => zE hf hc rfl (eLd1 sc_3 rfl (cell_arr (j := 0) m0 (fun x => (one_encI_i64 x).1) rfl hun_4 rfl)) fun a w hf hc => zP hf rfl (pMin2 rfl rfl) fun a hf => sp 1 hf rfl fun a hf => zT h ?_
  refine cReg ?_
  refine zL hf hc sc_133 m2 rfl fun a w hf hc => sp 3 hf rfl fun a hf => ?_
  obtain ⟨un_5,hun_5,hF⟩ := bnd_some hF
  refine zP hf rfl (pIAA Try.underlying85 sz_3 rfl rfl (inR_spec hun_5).1 (inR_spec hun_5).2) fun a hf => stAr (vs := [i6 (min (W (best + 1)) (m x.toNat))]) (o' := 0) (z := min (W (best + 1)) (m x.toNat)) hf hc rfl rfl rfl rfl sz_3 rfl (fun x => (one_encI_i64 x).1) rfl hun_5 rfl rfl u3 fun w hc => cNil ?_
  refine h23 _ _ ?_
  refine cReg ?_
  refine sp 2 hf rfl fun a hf => cNil ?_
  exact hK7 (min (W (best + 1)) (m x.toNat),W (x + 1),(setF b__0 x.toNat (min (W (best + 1)) (m x.toNat)))) _ _ (sj hF).symm ⟨hf.kp rfl,hc⟩
 ·refine wp_exit ?_
  refine xThen ?_
  refine xThen ?_
  have he := sj hF
  rw [← he] at hfin7
  refine cHit ?_
  exact hr7 _ _ _ hfin7 ⟨hf.kp rfl,hc⟩

def shift_reckoned_b6 (N : Nat) (sub : List api_Span) (out : List (Nat → Int)) (x : Int) (x_1 : Nat → Int) : Option (Step ((List (Nat → Int)) × Int × (Nat → Int)) ((List (Nat → Int)))) :=
 cond (decide (x < ((sub.length : Nat) : Int)))
 (Option.bind (getI sub x) fun e_2 =>
 Option.bind (shift_moved_on N x_1 e_2) fun r_1 =>
 Option.bind (room ((out ++ [r_1])).length) fun un =>
 some (.cont ((out ++ [r_1]),W (x + 1),r_1)))
 (some (.brk (out,x,x_1)))
def shift_reckoned (N : Nat) (l : List api_Span) : Option ((List (Nat → Int))) :=
 Option.bind (getI l 0) fun e_1 =>
 Option.bind (shift_start N e_1) fun r =>
 Option.bind (subO l 1 ((l.length : Nat) : Int)) fun sub =>
 Option.bind (loopO (fun s6 => shift_reckoned_b6 N sub s6.1 s6.2.1 s6.2.2) N (([r] : List (Nat → Int)),0,r)) fun x6 =>
 exK x6 (fun s6 => some s6.1) some
theorem shift_reckoned_ok {N : Nat} {G : Pers} {Lf : List Ent} {w : World} (l : List api_Span) {l_p : Option Addr} {l_c : Nat} (h_l : Rd G 2 l_p l_c (l.map enc_api_Span)) (hc : Ctx G (Lf) w) {res : (List (Nat → Int))} (hF : shift_reckoned N l = some res) : Calls Try.prog 45 #[.slice l_p l.length l_c] w (fun e w => ∃ (p'1 : Option Addr) (c'1 : Nat),e = .returned (.slice p'1 res.length c'1) ∧ Ctx G (.row p'1 c'1 (res.map encA_85) 85 601::Lf) w) := by
 unfold shift_reckoned at hF
 refine fnIn Try.func45 rfl Try.ntmps45 rfl fun a hf => zS fun K h => sp 1 hf rfl fun a hf => zT h ?_
 refine zS fun K h => sp 1 hf rfl fun a hf => ?_
 obtain ⟨e_1,he_1,hF⟩ := bnd_some hF
 obtain ⟨b_1,o,qa,qp⟩ := h_l.atm he_1
 refine zP hf rfl (pIA Try.underlying51 sz_38 rfl rfl qa) fun a hf => zE hf hc rfl (eLdN (vs := [i6 e_1.Lo,i6 e_1.Hi]) ag_38 rfl rfl (cells_pc qp (n := 2) (o' := 0) rfl)) fun a w hf hc => ?_
 obtain ⟨r,hr,hF⟩ := bnd_some hF
 refine zC hf en_64 rfl (shift_start_ok e_1 hc hr) ?_
 rintro _ w ⟨b_2,rfl,hc⟩
 refine ⟨_,rfl,fun a hf => ?_⟩
 refine sp 1 hf rfl fun a hf => zT h ?_
 refine zS fun K h => sp 2 hf rfl fun a hf => zE hf hc rfl (eLdN (vs := (catc [] 601 encI_i64 r [])) ag_85 rfl (one_encA_85 _).1 (cells_box (n := 601) m0 (takeW (one_encA_85 _).1))) fun a w hf hc => stBS (rows := ([r] : List (Nat → Int)).map encA_85) (vs := [(0,.agg (catc [] 601 encI_i64 r []).toArray)]) hf hc rfl rfl sl_81 rfl ⟨rfl,rfl,(one_encA_85 _).1,trivial⟩ rfl rfl fun b_3 a w hf hc => sp 1 hf rfl fun a hf => zT h ?_
 refine wp_seq_k fun K4 h4 => zS fun K h => sp 1 hf rfl fun a hf => ?_
 obtain ⟨sub,hsub,hF⟩ := bnd_some hF
 have qs := Rd.sub h_l hsub
 refine zP hf rfl (pSl Try.underlying51 sz_38 rfl rfl (by simpa using h_l.1) rfl rfl hsub) fun a hf => zP hf rfl (pLenS Try.underlying51 rfl) fun a hf => sp 1 hf rfl fun a hf => zT h ?_
 refine wp_block ?_
 obtain ⟨x6,hx6,hF⟩ := bnd_some hF
 let S6 : ((List (Nat → Int)) × Int × (Nat → Int)) → Act → World → Prop := (fun (zz : (List (Nat → Int)) × Int × (Nat → Int)) a w => ∃ (p_1 : Option Addr) (c_1 : Nat),Has 33 a [(3,pq b_2),(4,.slice p_1 zz.1.length c_1),(16,.slice (subP l_p l_c (1 : Int).toNat 2) sub.length (l_c - (1 : Int).toNat)),(17,i6 ((sub.length : Nat) : Int)),(18,i6 zz.2.1)] ∧ Ctx G (.row p_1 c_1 (zz.1.map encA_85) 85 601::.box b_2 (catc [] 601 encI_i64 zz.2.2 []) 85::Lf) w)
 have hr6 : ∀ (zz : (List (Nat → Int)) × Int × (Nat → Int)) a w,x6 = .go zz → S6 zz a w → K4 a w := by
  rintro ⟨out,x,x_1⟩ a w rfl ⟨p_1,c_1,hf,hc⟩
  replace hF := exK_go hF
  refine h4 _ _ ?_
  refine zS fun K h => sp 2 hf rfl fun a hf => zT h ?_
  refine wp_ret ?_
  obtain rfl := sj hF
  replace hc := hc.drop k1
  exact zO1 Try.results45 hf rfl ⟨p_1,c_1,rfl,hc⟩
 have ho6 : ∀ r,x6 = .out r → r = res := by
  rintro r rfl
  exact sj hF
 refine cLoop N (loopW (S := S6) (x := x6) ?_ N (([r] : List (Nat → Int)),0,r) _ _ ⟨(some ⟨b_3,0,none⟩),1,hf.kp rfl,hc⟩ hx6)
 clear hF hf hc
 rintro ⟨out,x,x_1⟩ st6 a w KB6 ⟨p_1,c_1,hf,hc⟩ hF hfin6 hK6
 unfold shift_reckoned_b6 at hF
 refine zS fun K h => sp 1 hf rfl fun a hf => zT h ?_
 refine wp_seq_k fun K9 h9 => zI hf rfl hF ?_ ?_ <;> clear hF <;> intro hF
 ·refine wp_skip ?_
  refine h9 _ _ ?_
  refine wp_seq_k fun K10 h10 => wp_block ?_
  refine zS fun K h => ?_
  obtain ⟨e_2,he_2,hF⟩ := bnd_some hF
  obtain ⟨b_4,o_1,qa_1,qp_1⟩ := qs.atm he_2
  refine zP hf rfl (pIA Try.underlying51 sz_38 rfl rfl qa_1) fun a hf => zE hf hc rfl (eLdN (vs := [i6 e_2.Lo,i6 e_2.Hi]) ag_38 rfl rfl (cells_pc qp_1 (n := 2) (o' := 0) rfl)) fun a w hf hc => zA hf hc zr_38 rfl fun b_5 a w hf hc => zW hf hc sz_38 u0 rfl fun w hc => zT h ?_
  refine zS fun K h => sp 1 hf rfl fun a hf => zN hf hc ag_38 m0 rfl fun a w hf hc => ?_
  obtain ⟨r_1,hr_1,hF⟩ := bnd_some hF
  refine zC hf en_65 rfl (shift_moved_on_ok x_1 e_2 (hc.pick k2) hr_1) ?_
  rintro _ w ⟨rfl,hc⟩
  refine ⟨_,rfl,fun a hf => ?_⟩
  refine zT h ?_
  refine cReg ?_
  refine sp 3 hf rfl fun a hf => zE hf hc rfl (eLdN (vs := (catc [] 601 encI_i64 r_1 [])) ag_85 rfl (one_encA_85 _).1 (cells_box (n := 601) m0 (takeW (one_encA_85 _).1))) fun a w hf hc => stBS (rows := ([r_1] : List (Nat → Int)).map encA_85) (vs := [(0,.agg (catc [] 601 encI_i64 r_1 []).toArray)]) hf hc rfl rfl sl_81 rfl ⟨rfl,rfl,(one_encA_85 _).1,trivial⟩ rfl rfl fun b_6 a w hf hc => ?_
  obtain ⟨un,hun,hF⟩ := bnd_some hF
  refine stApm (xs := out) (ys := ([r_1] : List (Nat → Int))) hf hc rfl rfl sl_81 rfl rfl rfl rfl rfl one_encA_85 (src_row hc m0) (fun _ _ => u3) (by simpa using room_spec hun) fun p_2 c_2 a w hf hc => sp 1 hf rfl fun a hf => cNil ?_
  refine h10 _ _ ?_
  refine cReg ?_
  refine sp 2 hf rfl fun a hf => cNil ?_
  replace hc := (((hc.drop k2).drop k0).pick k0).pick k1
  exact hK6 ((out ++ [r_1]),W (x + 1),r_1) _ _ (sj hF).symm ⟨p_2,c_2,hf.kp rfl,hc⟩
 ·refine wp_exit ?_
  refine xThen ?_
  refine xThen ?_
  have he := sj hF
  rw [← he] at hfin6
  refine cHit ?_
  exact hr6 _ _ _ hfin6 ⟨p_1,c_1,hf.kp rfl,hc⟩

def slices_Reverse_Lshift_moved_shift_moved_b3 (N : Nat) (s_1 : List (Nat → Int)) (i_1 : Int) (j_1 : Int) : Option (Step ((List (Nat → Int)) × Int × Int) ((List (Nat → Int)))) :=
 cond (decide (i_1 < j_1))
 (Option.bind (getI s_1 j_1) fun e_1 =>
 Option.bind (getI s_1 i_1) fun e_2 =>
 Option.bind (getI s_1 i_1) fun e_3 =>
 Option.bind (getI s_1 j_1) fun e_4 =>
 some (.cont (((s_1.set i_1.toNat e_1).set j_1.toNat e_2),W (i_1 + 1),W (j_1 - 1))))
 (some (.brk (s_1,i_1,j_1)))
def slices_Reverse_Lshift_moved_shift_moved (N : Nat) (s_ : List (Nat → Int)) : Option ((List (Nat → Int))) :=
 Option.bind (loopO (fun s3 => slices_Reverse_Lshift_moved_shift_moved_b3 N s3.1 s3.2.1 s3.2.2) N (s_,0,W (((s_.length : Nat) : Int) - 1))) fun x3 =>
 exK x3 (fun s3 => Option.bind (sameL s3.1 s_) fun _ =>
 some s3.1) some
theorem slices_Reverse_Lshift_moved_shift_moved_ok {N : Nat} {G : Pers} {Lf : List Ent} {w : World} (s_ : List (Nat → Int)) {s__p : Option Addr} {s__c : Nat}  (hc : Ctx G (.row s__p s__c (s_.map encA_85) 85 601::Lf) w) {res : (List (Nat → Int))} (hF : slices_Reverse_Lshift_moved_shift_moved N s_ = some res) : Calls Try.prog 46 #[.slice s__p s_.length s__c] w (fun e w => e = .returned (.tuple #[]) ∧ res.length = s_.length ∧ Ctx G (.row s__p s__c (res.map encA_85) 85 601::Lf) w) := by
 unfold slices_Reverse_Lshift_moved_shift_moved at hF
 refine fnIn Try.func46 rfl Try.ntmps46 rfl fun a hf => zS fun K h => sp 1 hf rfl fun a hf => zP hf rfl (pLenS Try.underlying81 rfl) fun a hf => sp 3 hf rfl fun a hf => zT h ?_
 refine wp_thenK fun K2 h2 => wp_block ?_
 obtain ⟨x3,hx3,hF⟩ := bnd_some hF
 let S3 : ((List (Nat → Int)) × Int × Int) → Act → World → Prop := (fun (zz : (List (Nat → Int)) × Int × Int) a w => Has 28 a [(0,.slice s__p zz.1.length s__c),(2,i6 zz.2.1),(3,i6 zz.2.2)] ∧ Ctx G (.row s__p s__c (zz.1.map encA_85) 85 601::Lf) w)
 have hr3 : ∀ (zz : (List (Nat → Int)) × Int × Int) a w,x3 = .go zz → S3 zz a w → K2 a w := by
  rintro ⟨s_1,i_1,j_1⟩ a w rfl ⟨hf,hc⟩
  replace hF := exK_go hF
  refine h2 _ _ ?_
  obtain ⟨_,hl0,hF⟩ := same_len hF
  obtain rfl := sj hF
  exact fnOut0 (by simp) rfl Try.results46 hf ⟨rfl,hl0,hc⟩
 have ho3 : ∀ r,x3 = .out r → r = res := by
  rintro r rfl
  exact sj hF
 refine cLoop N (loopW (S := S3) (x := x3) ?_ N (s_,0,W (((s_.length : Nat) : Int) - 1)) _ _ ⟨hf.kp rfl,hc⟩ hx3)
 clear hF hf hc
 rintro ⟨s_1,i_1,j_1⟩ st3 a w KB3 ⟨hf,hc⟩ hF hfin3 hK3
 unfold slices_Reverse_Lshift_moved_shift_moved_b3 at hF
 refine wp_seq_k fun K4 h4 => zS fun K h => sp 3 hf rfl fun a hf => zT h ?_
 refine zI hf rfl hF ?_ ?_ <;> clear hF <;> intro hF
 ·refine wp_skip ?_
  refine h4 _ _ ?_
  refine wp_seq_k fun K6 h6 => wp_block ?_
  obtain ⟨e_1,he_1,hF⟩ := bnd_some hF
  obtain ⟨g,rfl,qa,qr⟩ := row_atm hc m0 he_1
  obtain ⟨e_2,he_2,hF⟩ := bnd_some hF
  obtain ⟨qa_1,qr_1⟩ := row_atk hc m0 he_2
  obtain ⟨e_3,he_3,hF⟩ := bnd_some hF
  obtain ⟨qa_2,qr_2⟩ := row_atk hc m0 he_3
  obtain ⟨e_4,he_4,hF⟩ := bnd_some hF
  obtain ⟨qa_3,qr_3⟩ := row_atk hc m0 he_4
  refine regionE (fun θ => [⟨none,none,0,.slice (some ⟨g,0,none⟩) s_1.length s__c⟩,⟨none,none,2,i6 i_1⟩,⟨none,none,3,i6 j_1⟩,⟨some 0,none,14,.slice (some ⟨g,0,none⟩) s_1.length s__c⟩,⟨some 1,none,15,i6 i_1⟩,⟨some 2,none,16,.slice (some ⟨g,0,none⟩) s_1.length s__c⟩,⟨some 3,none,17,i6 j_1⟩,⟨some 4,none,18,.slice (some ⟨g,0,none⟩) s_1.length s__c⟩,⟨some 5,none,19,i6 j_1⟩,⟨some 6,none,20,.pointer (some ⟨g,j_1.toNat * 601,none⟩)⟩,⟨some 7,none,21,.agg (catc [] 601 encI_i64 e_1 []).toArray⟩,⟨some 8,none,22,.slice (some ⟨g,0,none⟩) s_1.length s__c⟩,⟨some 9,none,23,i6 i_1⟩,⟨some 10,none,24,.pointer (some ⟨g,i_1.toNat * 601,none⟩)⟩,⟨some 11,none,25,.agg (catc [] 601 encI_i64 e_2 []).toArray⟩,⟨some 12,none,26,.pointer (some ⟨g,i_1.toNat * 601,none⟩)⟩,⟨some 14,none,27,.pointer (some ⟨g,j_1.toNat * 601,none⟩)⟩]) (fun E θ => (bif E 15 then .row (some ⟨g,0,none⟩) s__c (((s_1.set i_1.toNat e_1).set j_1.toNat e_2).map encA_85) 85 601 else bif E 13 then .row (some ⟨g,0,none⟩) s__c ((s_1.set i_1.toNat e_1).map encA_85) 85 601 else .row (some ⟨g,0,none⟩) s__c (s_1.map encA_85) 85 601)::Lf) [(13,6),(15,6),(13,7),(15,7),(11,10),(13,11),(15,10),(15,11),(13,12),(15,12),(15,13),(15,14)] (fun a w => Has 28 a [(0,.slice (some ⟨g,0,none⟩) s_1.length s__c),(2,i6 i_1),(3,i6 j_1)] ∧ Ctx G (.row (some ⟨g,0,none⟩) s__c (((s_1.set i_1.toNat e_1).set j_1.toNat e_2).map encA_85) 85 601::Lf) w) follows_mx (by kernel_rfl) (by kernel_rfl) (HasE.of hf ⟨rfl,rfl,rfl,trivial,trivial,trivial,trivial,trivial,trivial,trivial,trivial,trivial,trivial,trivial,trivial,trivial,trivial,trivial⟩) hc ⟨?_,?_,?_,?_,?_,?_,?_,?_,?_,?_,?_,?_,?_,?_,?_,?_,trivial⟩ ?_ ?_
  ·intro E θ a w hD hi hp he hc
   have hf := he.h0.mT he 0 rfl
   refine sp 1 hf rfl fun a hf => zD θ he hi hf 3 rfl rfl rfl hc
  ·intro E θ a w hD hi hp he hc
   have hf := he.h0.mT he 1 rfl
   refine sp 1 hf rfl fun a hf => zD θ he hi hf 4 rfl rfl rfl hc
  ·intro E θ a w hD hi hp he hc
   have hf := he.h0.mT he 0 rfl
   refine sp 1 hf rfl fun a hf => zD θ he hi hf 5 rfl rfl rfl hc
  ·intro E θ a w hD hi hp he hc
   have hf := he.h0.mT he 2 rfl
   refine sp 1 hf rfl fun a hf => zD θ he hi hf 6 rfl rfl rfl hc
  ·intro E θ a w hD hi hp he hc
   have hf := he.h0.mT he 0 rfl
   refine sp 1 hf rfl fun a hf => zD θ he hi hf 7 rfl rfl rfl hc
  ·intro E θ a w hD hi hp he hc
   have hf := he.h0.mT he 2 rfl
   refine sp 1 hf rfl fun a hf => zD θ he hi hf 8 rfl rfl rfl hc
  ·intro E θ a w hD hi hp he hc
   have e4 := hp.o 4 rfl
   have e5 := hp.o 5 rfl
   have e13 := hD.f 0 rfl hi
   have e15 := hD.f 1 rfl hi
   try dsimp only at hc
   rw [e13,e15] at hc
   have hf := (he.h0.mP he 7 rfl e4).mP he 8 rfl e5
   refine zP hf rfl (pIA Try.underlying81 sz_85 rfl rfl qa) fun a hf => zD θ he hi hf 9 rfl rfl rfl ?_
   try dsimp only
   rw [updE_fls 6 e13 rfl,updE_fls 6 e15 rfl]
   exact hc
  ·intro E θ a w hD hi hp he hc
   have e6 := hp.o 6 rfl
   have e13 := hD.f 2 rfl hi
   have e15 := hD.f 3 rfl hi
   try dsimp only at hc
   rw [e13,e15] at hc
   have hf := he.h0.mP he 9 rfl e6
   refine zE hf hc rfl (eLdN (vs := (catc [] 601 encI_i64 e_1 [])) ag_85 rfl (one_encA_85 _).1 (cells_rw (sz := 601) (i := j_1.toNat) m0 qr (n := 601) (o' := 0) (takeW (one_encA_85 _).1))) fun a w hf hc => zD θ he hi hf 10 rfl rfl rfl ?_
   try dsimp only
   rw [updE_fls 7 e13 rfl,updE_fls 7 e15 rfl]
   exact hc
  ·intro E θ a w hD hi hp he hc
   have hf := he.h0.mT he 0 rfl
   refine sp 1 hf rfl fun a hf => zD θ he hi hf 11 rfl rfl rfl hc
  ·intro E θ a w hD hi hp he hc
   have hf := he.h0.mT he 1 rfl
   refine sp 1 hf rfl fun a hf => zD θ he hi hf 12 rfl rfl rfl hc
  ·intro E θ a w hD hi hp he hc
   have e8 := hp.o 8 rfl
   have e9 := hp.o 9 rfl
   have e11 := hD.f 4 rfl hi
   have e13 := hD.f 5 rfl e11
   have e15 := hD.f 6 rfl hi
   try dsimp only at hc
   rw [e13,e15] at hc
   have hf := (he.h0.mP he 11 rfl e8).mP he 12 rfl e9
   refine zP hf rfl (pIA Try.underlying81 sz_85 rfl rfl qa_1) fun a hf => zD θ he hi hf 13 rfl rfl rfl ?_
   try dsimp only
   rw [updE_fls 10 e13 rfl,updE_fls 10 e15 rfl]
   exact hc
  ·intro E θ a w hD hi hp he hc
   have e10 := hp.o 10 rfl
   have e13 := hD.f 5 rfl hi
   have e15 := hD.f 7 rfl hi
   try dsimp only at hc
   rw [e13,e15] at hc
   have hf := he.h0.mP he 13 rfl e10
   refine zE hf hc rfl (eLdN (vs := (catc [] 601 encI_i64 e_2 [])) ag_85 rfl (one_encA_85 _).1 (cells_rw (sz := 601) (i := i_1.toNat) m0 qr_1 (n := 601) (o' := 0) (takeW (one_encA_85 _).1))) fun a w hf hc => zD θ he hi hf 14 rfl rfl rfl ?_
   try dsimp only
   rw [updE_fls 11 e13 rfl,updE_fls 11 e15 rfl]
   exact hc
  ·intro E θ a w hD hi hp he hc
   have e0 := hp.o 0 rfl
   have e1 := hp.o 1 rfl
   have e13 := hD.f 8 rfl hi
   have e15 := hD.f 9 rfl hi
   try dsimp only at hc
   rw [e13,e15] at hc
   have hf := (he.h0.mP he 3 rfl e0).mP he 4 rfl e1
   refine zP hf rfl (pIA Try.underlying81 sz_85 rfl rfl qa_2) fun a hf => zD θ he hi hf 15 rfl rfl rfl ?_
   try dsimp only
   rw [updE_fls 12 e13 rfl,updE_fls 12 e15 rfl]
   exact hc
  ·intro E θ a w hD hi hp he hc
   have e7 := hp.o 7 rfl
   have e12 := hp.o 12 rfl
   have e15 := hD.f 10 rfl hi
   try dsimp only at hc
   rw [hi,e15] at hc
   have hf := (he.h0.mP he 10 rfl e7).mP he 15 rfl e12
   refine stRwA (enc := encA_85) (z := e_1) (xs := s_1) hf hc rfl rfl rfl one_encA_85 sz_85 (getI_lt he_3) u0 fun w hc => zG θ he hi hf rfl ?_
   try dsimp only
   rw [updE_self E 13,updE_fls 13 e15 rfl]
   exact hc
  ·intro E θ a w hD hi hp he hc
   have e2 := hp.o 2 rfl
   have e3 := hp.o 3 rfl
   have e13 := hp.o 13 rfl
   have e15 := hD.f 11 rfl hi
   try dsimp only at hc
   rw [e13,e15] at hc
   have hf := (he.h0.mP he 5 rfl e2).mP he 6 rfl e3
   refine zP hf rfl (pIA Try.underlying81 sz_85 rfl rfl qa_3) fun a hf => zD θ he hi hf 16 rfl rfl rfl ?_
   try dsimp only
   rw [updE_tru 14 e13,updE_fls 14 e15 rfl]
   exact hc
  ·intro E θ a w hD hi hp he hc
   have e11 := hp.o 11 rfl
   have e14 := hp.o 14 rfl
   have e13 := hp.o 13 rfl
   try dsimp only at hc
   rw [e13,hi] at hc
   have hf := (he.h0.mP he 14 rfl e11).mP he 16 rfl e14
   refine stRwA (enc := encA_85) (z := e_2) (xs := (s_1.set i_1.toNat e_1)) hf hc rfl rfl rfl one_encA_85 sz_85 (by simpa using getI_lt he_4) u0 fun w hc => zG θ he hi hf rfl ?_
   try dsimp only
   rw [updE_tru 15 e13,updE_self E 15]
   exact hc
  ·intro E θ a w hall he hc
   have hf := he.h0
   have e13 := hall 13 rfl
   have e15 := hall 15 rfl
   replace hf := hf.more he 2 rfl (onT)
   replace hf := hf.more he 1 rfl (onT)
   replace hf := hf.more he 0 rfl (onT)
   try dsimp only at hc
   rw [e13,e15] at hc
   exact ⟨hf.kp rfl,hc⟩
  rintro a w ⟨hf,hc⟩
  refine h6 _ _ ?_
  refine cReg ?_
  refine sp 6 hf rfl fun a hf => cNil ?_
  replace hf := hf.castAt 0 (v' := .slice (some ⟨g,0,none⟩) (((s_1.set i_1.toNat e_1).set j_1.toNat e_2).length) s__c) rfl (congrArg (fun k => Value.slice (some ⟨g,0,none⟩) k s__c) (by simp))
  exact hK3 (((s_1.set i_1.toNat e_1).set j_1.toNat e_2),W (i_1 + 1),W (j_1 - 1)) _ _ (sj hF).symm ⟨hf.kp rfl,hc⟩
 ·refine wp_exit ?_
  refine xThen ?_
  refine xThen ?_
  have he := sj hF
  rw [← he] at hfin3
  refine cHit ?_
  exact hr3 _ _ _ hfin3 ⟨hf.kp rfl,hc⟩

def shift_behind (N : Nat) (l : List api_Span) : Option ((List (Nat → Int))) :=
 Option.bind (slices_Clone_Lapi_Span_api_Span N l) fun r =>
 Option.bind (slices_Reverse_Lapi_Span_api_Span N r) fun r_1 =>
 Option.bind (shift_reckoned N r_1) fun r_2 =>
 Option.bind (slices_Reverse_Lshift_moved_shift_moved N r_2) fun r_3 =>
 some r_3
theorem shift_behind_ok {N : Nat} {G : Pers} {Lf : List Ent} {w : World} (l : List api_Span) {l_p : Option Addr} {l_c : Nat} (h_l : Rd G 2 l_p l_c (l.map enc_api_Span)) (hc : Ctx G (Lf) w) {res : (List (Nat → Int))} (hF : shift_behind N l = some res) : Calls Try.prog 19 #[.slice l_p l.length l_c] w (fun e w => ∃ (p'1 : Option Addr) (c'1 : Nat),e = .returned (.slice p'1 res.length c'1) ∧ Ctx G (.row p'1 c'1 (res.map encA_85) 85 601::Lf) w) := by
 unfold shift_behind at hF
 refine fnIn Try.func19 rfl Try.ntmps19 rfl fun a hf => zS fun K h => sp 1 hf rfl fun a hf => zT h ?_
 refine zS fun K h => sp 1 hf rfl fun a hf => ?_
 obtain ⟨r,hr,hF⟩ := bnd_some hF
 refine zC hf en_43 rfl (slices_Clone_Lapi_Span_api_Span_ok l h_l hc hr) ?_
 rintro _ w ⟨p_1,c_1,rfl,hc⟩
 refine ⟨_,rfl,fun a hf => ?_⟩
 refine sp 1 hf rfl fun a hf => zT h ?_
 refine zS fun K h => sp 1 hf rfl fun a hf => ?_
 obtain ⟨r_1,hr_1,hF⟩ := bnd_some hF
 refine zC hf en_44 rfl (slices_Reverse_Lapi_Span_api_Span_ok r (hc.pick k0) hr_1) ?_
 rintro _ w ⟨rfl,hl,hc⟩
 refine ⟨_,rfl,fun a hf => ?_⟩
 try rw [← hl] at hf
 try rw [← hl] at hc
 refine zT h ?_
 refine zS fun K h => sp 1 hf rfl fun a hf => ?_
 obtain ⟨r_2,hr_2,hF⟩ := bnd_some hF
 obtain ⟨G1,hle1,hrd1,hc,hth1⟩ := lend hc k0
 refine zC hf en_45 rfl (shift_reckoned_ok r_1 hrd1 hc hr_2) ?_
 rintro _ w ⟨p_2,c_2,rfl,hc⟩
 refine ⟨_,rfl,fun a hf => ?_⟩
 replace hc := hth1 _ _ hc
 refine sp 1 hf rfl fun a hf => zT h ?_
 refine zS fun K h => sp 1 hf rfl fun a hf => ?_
 obtain ⟨r_3,hr_3,hF⟩ := bnd_some hF
 refine zC hf en_46 rfl (slices_Reverse_Lshift_moved_shift_moved_ok r_2 (hc.pick k1) hr_3) ?_
 rintro _ w ⟨rfl,hl_1,hc⟩
 refine ⟨_,rfl,fun a hf => ?_⟩
 try rw [← hl_1] at hf
 try rw [← hl_1] at hc
 refine zT h ?_
 refine zS fun K h => sp 2 hf rfl fun a hf => zT h ?_
 refine wp_ret ?_
 obtain rfl := sj hF
 replace hc := hc.drop k1
 exact zO1 Try.results19 hf rfl ⟨p_2,c_2,rfl,hc⟩

def slices_Min_Lint_int_b7 (N : Nat) (x : List Int) (m : Int) (i_1 : Int) : Option (Step (Int × Int) (Int)) :=
 cond (decide (i_1 < ((x.length : Nat) : Int)))
 (Option.bind (getI x i_1) fun e_2 =>
 some (.cont (min m e_2,W (i_1 + 1))))
 (some (.brk (m,i_1)))
def slices_Min_Lint_int (N : Nat) (x : List Int) : Option (Int) :=
 cond (decide (((x.length : Nat) : Int) < 1))
 (none)
 (Option.bind (getI x 0) fun e_1 =>
 Option.bind (loopO (fun s7 => slices_Min_Lint_int_b7 N x s7.1 s7.2) N (e_1,1)) fun x7 =>
 exK x7 (fun s7 => some s7.1) some)
theorem slices_Min_Lint_int_ok {N : Nat} {G : Pers} {Lf : List Ent} {w : World} (x : List Int) {x_p : Option Addr} {x_c : Nat} (h_x : Rd G 1 x_p x_c (x.map encI_i64)) (hc : Ctx G (Lf) w) {res : Int} (hF : slices_Min_Lint_int N x = some res) : Calls Try.prog 20 #[.slice x_p x.length x_c] w (fun e w => e = .returned (i6 res) ∧ Ctx G (Lf) w) := by
 unfold slices_Min_Lint_int at hF
 refine fnIn Try.func20 rfl Try.ntmps20 rfl fun a hf => zS fun K h => sp 1 hf rfl fun a hf => zT h ?_
 refine wp_seq_k fun K2 h2 => zS fun K h => sp 1 hf rfl fun a hf => zP hf rfl (pLenS Try.underlying30 rfl) fun a hf => sp 1 hf rfl fun a hf => zT h ?_
 refine zI hf rfl hF ?_ ?_ <;> clear hF <;> intro hF
 ·exact noneO hF
 ·refine wp_skip ?_
  refine h2 _ _ ?_
  refine zS fun K h => sp 1 hf rfl fun a hf => ?_
  obtain ⟨e_1,he_1,hF⟩ := bnd_some hF
  obtain ⟨b_1,o,qa,qp⟩ := h_x.atm he_1
  refine zP hf rfl (pIA Try.underlying30 sz_3 rfl rfl qa) fun a hf => zE hf hc rfl (eLd1 sc_3 rfl (cell_pc (j := 0) qp rfl)) fun a w hf hc => sp 1 hf rfl fun a hf => zT h ?_
  refine wp_seq_k fun K5 h5 => zS fun K h => sp 1 hf rfl fun a hf => zT h ?_
  refine wp_block ?_
  obtain ⟨x7,hx7,hF⟩ := bnd_some hF
  let S7 : (Int × Int) → Act → World → Prop := (fun (zz : Int × Int) a w => Has 25 a [(0,.slice x_p x.length x_c),(3,i6 zz.1),(4,i6 zz.2)] ∧ Ctx G (Lf) w)
  have hr7 : ∀ (zz : Int × Int) a w,x7 = .go zz → S7 zz a w → K5 a w := by
   rintro ⟨m,i_1⟩ a w rfl ⟨hf,hc⟩
   replace hF := exK_go hF
   refine h5 _ _ ?_
   refine zS fun K h => sp 2 hf rfl fun a hf => zT h ?_
   refine wp_ret ?_
   obtain rfl := sj hF
   exact zO1 Try.results20 hf rfl ⟨rfl,hc⟩
  have ho7 : ∀ r,x7 = .out r → r = res := by
   rintro r rfl
   exact sj hF
  refine cLoop N (loopW (S := S7) (x := x7) ?_ N (e_1,1) _ _ ⟨hf.kp rfl,hc⟩ hx7)
  clear hF hf hc
  rintro ⟨m,i_1⟩ st7 a w KB7 ⟨hf,hc⟩ hF hfin7 hK7
  unfold slices_Min_Lint_int_b7 at hF
  refine wp_seq_k fun K9 h9 => zS fun K h => sp 2 hf rfl fun a hf => zP hf rfl (pLenS Try.underlying30 rfl) fun a hf => sp 1 hf rfl fun a hf => zT h ?_
  refine zI hf rfl hF ?_ ?_ <;> clear hF <;> intro hF
  ·refine wp_skip ?_
   refine h9 _ _ ?_
   refine wp_seq_k fun K11 h11 => wp_block ?_
   refine cReg ?_
   refine sp 3 hf rfl fun a hf => ?_
   obtain ⟨e_2,he_2,hF⟩ := bnd_some hF
   obtain ⟨b_2,o_1,qa_1,qp_1⟩ := h_x.atm he_2
   refine zP hf rfl (pIA Try.underlying30 sz_3 rfl rfl qa_1) fun a hf => zE hf hc rfl (eLd1 sc_3 rfl (cell_pc (j := 0) qp_1 rfl)) fun a w hf hc => zP hf rfl (pMin2 rfl rfl) fun a hf => sp 1 hf rfl fun a hf => cNil ?_
   refine h11 _ _ ?_
   refine cReg ?_
   refine sp 3 hf rfl fun a hf => cNil ?_
   exact hK7 (min m e_2,W (i_1 + 1)) _ _ (sj hF).symm ⟨hf.kp rfl,hc⟩
  ·refine wp_exit ?_
   refine xThen ?_
   refine xThen ?_
   have he := sj hF
   rw [← he] at hfin7
   refine cHit ?_
   exact hr7 _ _ _ hfin7 ⟨hf.kp rfl,hc⟩

def shift_greatest_b4 (N : Nat) (l : List Int) (first_0 : Int) (x : Int) : Option (Step (Int × Int) (Int)) :=
 cond (decide (x < ((l.length : Nat) : Int)))
 (Option.bind (getI l x) fun e_1 =>
 some (.cont (max first_0 e_1,W (x + 1))))
 (some (.brk (first_0,x)))
def shift_greatest (N : Nat) (first : Int) (l : List Int) : Option (Int) :=
 Option.bind (loopO (fun s4 => shift_greatest_b4 N l s4.1 s4.2) N (first,0)) fun x4 =>
 exK x4 (fun s4 => some s4.1) some
theorem shift_greatest_ok {N : Nat} {G : Pers} {Lf : List Ent} {w : World} (first : Int) (l : List Int) {l_p : Option Addr} {l_c : Nat} (h_l : Rd G 1 l_p l_c (l.map encI_i64)) (hc : Ctx G (Lf) w) {res : Int} (hF : shift_greatest N first l = some res) : Calls Try.prog 48 #[i6 first,.slice l_p l.length l_c] w (fun e w => e = .returned (i6 res) ∧ Ctx G (Lf) w) := by
 unfold shift_greatest at hF
 refine fnIn Try.func48 rfl Try.ntmps48 rfl fun a hf => zS fun K h => sp 1 hf rfl fun a hf => zT h ?_
 refine wp_seq_k fun K2 h2 => zS fun K h => sp 1 hf rfl fun a hf => zP hf rfl (pLenS Try.underlying30 rfl) fun a hf => sp 1 hf rfl fun a hf => zT h ?_
 refine wp_block ?_
 obtain ⟨x4,hx4,hF⟩ := bnd_some hF
 let S4 : (Int × Int) → Act → World → Prop := (fun (zz : Int × Int) a w => Has 18 a [(0,i6 zz.1),(7,.slice l_p l.length l_c),(8,i6 ((l.length : Nat) : Int)),(9,i6 zz.2)] ∧ Ctx G (Lf) w)
 have hr4 : ∀ (zz : Int × Int) a w,x4 = .go zz → S4 zz a w → K2 a w := by
  rintro ⟨first_0,x⟩ a w rfl ⟨hf,hc⟩
  replace hF := exK_go hF
  refine h2 _ _ ?_
  refine zS fun K h => sp 2 hf rfl fun a hf => zT h ?_
  refine wp_ret ?_
  obtain rfl := sj hF
  exact zO1 Try.results48 hf rfl ⟨rfl,hc⟩
 have ho4 : ∀ r,x4 = .out r → r = res := by
  rintro r rfl
  exact sj hF
 refine cLoop N (loopW (S := S4) (x := x4) ?_ N (first,0) _ _ ⟨hf.kp rfl,hc⟩ hx4)
 clear hF hf hc
 rintro ⟨first_0,x⟩ st4 a w KB4 ⟨hf,hc⟩ hF hfin4 hK4
 unfold shift_greatest_b4 at hF
 refine zS fun K h => sp 1 hf rfl fun a hf => zT h ?_
 refine wp_seq_k fun K7 h7 => zI hf rfl hF ?_ ?_ <;> clear hF <;> intro hF
 ·refine wp_skip ?_
  refine h7 _ _ ?_
  refine wp_seq_k fun K8 h8 => wp_block ?_
  refine zS fun K h => ?_
  obtain ⟨e_1,he_1,hF⟩ := bnd_some hF
  obtain ⟨b_1,o,qa,qp⟩ := h_l.atm he_1
  refine zP hf rfl (pIA Try.underlying30 sz_3 rfl rfl qa) fun a hf => zE hf hc rfl (eLd1 sc_3 rfl (cell_pc (j := 0) qp rfl)) fun a w hf hc => sp 1 hf rfl fun a hf => zT h ?_
  refine cReg ?_
  refine sp 2 hf rfl fun a hf => zP hf rfl (pMax2 rfl rfl) fun a hf => sp 1 hf rfl fun a hf => cNil ?_
  refine h8 _ _ ?_
  refine cReg ?_
  refine sp 2 hf rfl fun a hf => cNil ?_
  exact hK4 (max first_0 e_1,W (x + 1)) _ _ (sj hF).symm ⟨hf.kp rfl,hc⟩
 ·refine wp_exit ?_
  refine xThen ?_
  refine xThen ?_
  have he := sj hF
  rw [← he] at hfin4
  refine cHit ?_
  exact hr4 _ _ _ hfin4 ⟨hf.kp rfl,hc⟩

def shift_apart (N : Nat) (a_ : Int) (b_ : Int) : Option (Int) :=
 Option.bind (shift_greatest N (W (a_ - b_)) ([W (b_ - a_)] : List Int)) fun r =>
 some r
theorem shift_apart_ok {N : Nat} {G : Pers} {Lf : List Ent} {w : World} (a_ : Int) (b_ : Int)   (hc : Ctx G (Lf) w) {res : Int} (hF : shift_apart N a_ b_ = some res) : Calls Try.prog 22 #[i6 a_,i6 b_] w (fun e w => e = .returned (i6 res) ∧ Ctx G (Lf) w) := by
 unfold shift_apart at hF
 refine fnIn Try.func22 rfl Try.ntmps22 rfl fun a hf => zS fun K h => sp 1 hf rfl fun a hf => zT h ?_
 refine zS fun K h => sp 6 hf rfl fun a hf => stBS (rows := ([W (b_ - a_)] : List Int).map encI_i64) (vs := [(0,i6 (W (b_ - a_)))]) hf hc rfl rfl sl_30 rfl ⟨rfl,rfl,rfl,trivial⟩ rfl rfl fun b_1 a w hf hc => ?_
 obtain ⟨r,hr,hF⟩ := bnd_some hF
 refine zQ (v := i6 r) hf hc en_48 rfl (fun w hc => by obtain ⟨G1,hle1,hrd1,hc,hth1⟩ := lend hc k0; exact (shift_greatest_ok (W (a_ - b_)) ([W (b_ - a_)] : List Int) hrd1 hc hr).mono fun e w h => ⟨h.1,((hth1 _ _ h.2).unpick k0)⟩) fun a w hf hc => sp 1 hf rfl fun a hf => zT h ?_
 refine wp_ret ?_
 obtain rfl := sj hF
 replace hc := hc.drop k0
 exact zO1 Try.results22 hf rfl ⟨rfl,hc⟩

def shift_Least_j27 (N : Nat) (e_2 : Nat → Int) (x_3 : Int) (x_4 : List Int) (xv : Int) (xv_1 : Int) (step : Int) : Option (Rs (Int × (List Int))) :=
 Option.bind (Option.bind (inR xv 601) fun un =>
 cond ((e_2 xv.toNat) != 1073741824)
 (some ((W (step + (e_2 xv.toNat))) == x_3))
 (some false)) fun rg =>
 cond rg
 (Option.bind (room ((x_4 ++ [xv_1])).length) fun un_1 =>
 Option.bind (inR xv 601) fun un_2 =>
 some (.brk ((e_2 xv.toNat),(x_4 ++ [xv_1]))))
 (some (.go (x_3,x_4)))
def shift_Least_r23 (N : Nat) (x : Int) (e_2 : Nat → Int) (x_3 : Int) (x_4 : List Int) (xv : Int) (xv_1 : Int) : Option (Rs (Int × (List Int))) :=
 cond (decide (0 < x))
 (Option.bind (getI x_4 (W (x - 1))) fun e_3 =>
 Option.bind (shift_apart N xv_1 e_3) fun r_4 =>
 shift_Least_j27 N e_2 x_3 x_4 xv xv_1 r_4)
 (shift_Least_j27 N e_2 x_3 x_4 xv xv_1 0)
def shift_Least_b16 (N : Nat) (r_2 : (List (Nat → Int))) (x : Int) (x_1 : Int) (x_2 : List Int) : Option (Step (Int × Int × (List Int)) ((List Int) × Int × Int)) :=
 cond (decide (x < ((r_2.length : Nat) : Int)))
 (Option.bind (getI r_2 x) fun e_2 =>
 Option.bind (shift_shifts_1 N (rY (fun (zz : Int × (List Int)) (ix_ : (Int × Int)) => shift_Least_r23 N x e_2 zz.1 zz.2 ix_.1 ix_.2)) (.go (x_1,x_2))) fun x23 =>
 rsK x23 (fun zz23 => some (.cont (W (x + 1),zz23.1,zz23.2))) (fun zz23 => none))
 (some (.brk (x,x_1,x_2)))
def shift_Least (N : Nat) (r : shift_Record) : Option ((List Int) × Int × Int) :=
 Option.bind (shift_opened N r) (sumK (fun r_0 => cond (r_0 != 0)
 (some (([] : List Int),0,r_0))
 (none))
 (fun r_1 => cond (r_1.2 != 0)
 (some (([] : List Int),0,r_1.2))
 (Option.bind (shift_behind N r_1.1) fun r_2 =>
 Option.bind (getI r_2 0) fun e_1 =>
 Option.bind (subO (aL 601 e_1) 0 ((601 : Nat) : Int)) fun sub =>
 Option.bind (slices_Min_Lint_int N sub) fun r_3 =>
 Option.bind (loopO (fun s16 => shift_Least_b16 N r_2 s16.1 s16.2.1 s16.2.2) N (0,r_3,([] : List Int))) fun x16 =>
 exK x16 (fun s16 => some (s16.2.2,r_3,0)) some)))
theorem shift_Least_ok {N : Nat} {G : Pers} {Lf : List Ent} {w : World} (r : shift_Record) {r_Rating_p : Option Addr} {r_Rating_c : Nat} {r_Gaugings_p : Option Addr} {r_Gaugings_c : Nat} (h_r_Rating : Rd G 2 r_Rating_p r_Rating_c (r.Rating.map enc_shift_Mark)) (h_r_Gaugings : Rd G 4 r_Gaugings_p r_Gaugings_c (r.Gaugings.map enc_shift_Gauging)) (hc : Ctx G (Lf) w) {res : (List Int) × Int × Int} (hF : shift_Least N r = some res) : Calls Try.prog 13 #[.agg #[.slice r_Rating_p r.Rating.length r_Rating_c,.slice r_Gaugings_p r.Gaugings.length r_Gaugings_c]] w (fun e w => ∃ (p'1 : Option Addr) (c'1 : Nat),e = .returned (.tuple #[.slice p'1 res.1.length c'1,i6 res.2.1,i6 res.2.2]) ∧ Ctx G (.row p'1 c'1 (res.1.map encI_i64) 3 1::Lf) w) := by
 unfold shift_Least at hF
 refine fnInM Try.func13 rfl Try.ntmps13 rfl fun a hf => zS fun K h => zB hf hc rfl fun b_1 a w hf hc => sp 3 hf rfl fun a hf => zT h ?_
 refine zS fun K h => zN hf hc ag_29 m0 rfl fun a w hf hc => ?_
 obtain ⟨r_0,hr_0,hF⟩ := bnd_some hF
 cases r_0 with
 | inl r_0 =>
  replace hF := sumKl hF
  refine zC hf en_18 rfl (shift_opened_ok r h_r_Rating h_r_Gaugings hc hr_0) ?_
  rintro _ w ⟨rfl,hc⟩
  refine ⟨_,rfl,fun a hf => ?_⟩
  refine sp 5 hf rfl fun a hf => zT h ?_
  refine wp_seq_k fun K3 h3 => zS fun K h => sp 2 hf rfl fun a hf => zT h ?_
  refine zI hf rfl hF ?_ ?_ <;> clear hF <;> intro hF
  ·refine zS fun K h => sp 4 hf rfl fun a hf => zT h ?_
   refine wp_ret ?_
   refine xThenR ?_
   obtain rfl := sj hF
   replace hc := hc.nilRow 3 1
   replace hc := hc.drop k1
   refine outM hf ?_
   exact outM3 Try.results13 hf hc (show look _ 2 = _ from rfl) (show look _ 3 = _ from rfl) (show look _ 4 = _ from rfl) ⟨none,0,rfl,hc⟩
  ·refine wp_skip ?_
   refine h3 _ _ ?_
   refine wp_seq_k fun K6 h6 => noneO hF
 | inr r_1 =>
  replace hF := sumKr hF
  have hr_1 := hr_0
  refine zC hf en_18 rfl (shift_opened_ok r h_r_Rating h_r_Gaugings hc hr_1) ?_
  rintro _ w ⟨b_2,p_1,c_1,rfl,hc⟩
  refine ⟨_,rfl,fun a hf => ?_⟩
  refine sp 5 hf rfl fun a hf => zT h ?_
  refine wp_seq_k fun K7 h7 => zS fun K h => sp 2 hf rfl fun a hf => zT h ?_
  refine zI hf rfl hF ?_ ?_ <;> clear hF <;> intro hF
  ·refine zS fun K h => sp 4 hf rfl fun a hf => zT h ?_
   refine wp_ret ?_
   refine xThenR ?_
   obtain rfl := sj hF
   replace hc := hc.nilRow 3 1
   replace hc := ((hc.drop k3).drop k2).drop k1
   refine outM hf ?_
   exact outM3 Try.results13 hf hc (show look _ 2 = _ from rfl) (show look _ 3 = _ from rfl) (show look _ 4 = _ from rfl) ⟨none,0,rfl,hc⟩
  ·refine wp_skip ?_
   refine h7 _ _ ?_
   refine zS fun K h => sp 2 hf rfl fun a hf => zP hf rfl (pFA fa_80_1 rfl) fun a hf => zL hf hc sc_51 m1 rfl fun a w hf hc => ?_
   obtain ⟨r_2,hr_2,hF⟩ := bnd_some hF
   obtain ⟨G1,hle1,hrd1,hc,hth1⟩ := lend hc k0
   refine zC hf en_19 rfl (shift_behind_ok r_1.1 hrd1 hc hr_2) ?_
   rintro _ w ⟨p_2,c_2,rfl,hc⟩
   refine ⟨_,rfl,fun a hf => ?_⟩
   replace hc := hth1 _ _ hc
   refine sp 1 hf rfl fun a hf => zT h ?_
   refine zS fun K h => sp 1 hf rfl fun a hf => ?_
   obtain ⟨e_1,he_1,hF⟩ := bnd_some hF
   obtain ⟨g,rfl,qa,qr⟩ := row_atm hc m1 he_1
   refine zP hf rfl (pIA Try.underlying81 sz_85 rfl rfl qa) fun a hf => ?_
   obtain ⟨sub,hsub,hF⟩ := bnd_some hF
   refine zP hf rfl (pSlA (xs := (aL 601 e_1)) Try.underlying85 sz_3 rfl aL_len rfl rfl hsub) fun a hf => ?_
   obtain ⟨r_3,hr_3,hF⟩ := bnd_some hF
   refine zQ (v := i6 r_3) hf hc en_20 rfl (fun w hc => by obtain ⟨G1,hle1,hrd1,hc,hth1⟩ := lend hc k1; exact (slices_Min_Lint_int_ok sub (Rd.sub (rd_elem hrd1 (by decide) (fun x => (one_encI_i64 x).1) rfl he_1) hsub) hc hr_3).mono fun e w h => ⟨h.1,((hth1 _ _ h.2).unpick k1)⟩) fun a w hf hc => sp 1 hf rfl fun a hf => zT h ?_
   refine zS fun K h => sp 1 hf rfl fun a hf => zA hf hc zr_3 rfl fun b_3 a w hf hc => zW hf hc sz_3 u0 rfl fun w hc => zT h ?_
   refine zS fun K h => zA hf hc zr_30 rfl fun b_4 a w hf hc => zT h ?_
   refine wp_seq_k fun K14 h14 => zS fun K h => sp 1 hf rfl fun a hf => zP hf rfl (pLenS Try.underlying81 rfl) fun a hf => sp 1 hf rfl fun a hf => zT h ?_
   refine wp_block ?_
   obtain ⟨x16,hx16,hF⟩ := bnd_some hF
   let S16 : (Int × Int × (List Int)) → Act → World → Prop := (fun (zz : Int × Int × (List Int)) a w => ∃ (p_3 : Option Addr) (c_3 : Nat) (Ds : List Nat),Has ⟨76,markL Ds⟩ a [(8,i6 r_3),(9,pq b_3),(10,pq b_4),(34,.slice (some ⟨g,0,none⟩) r_2.length c_2),(35,i6 ((r_2.length : Nat) : Int)),(36,i6 zz.1)] ∧ Ctx G (.row p_3 c_3 (zz.2.2.map encI_i64) 3 1::.box b_4 [.slice p_3 zz.2.2.length c_3] 30::.box b_3 [i6 zz.2.1] 3::.row (some ⟨g,0,none⟩) c_2 (r_2.map encA_85) 85 601::(raws Ds ++ Lf)) w)
   have hr16 : ∀ (zz : Int × Int × (List Int)) a w,x16 = .go zz → S16 zz a w → K14 a w := by
    rintro ⟨x,x_1,x_2⟩ a w rfl ⟨p_3,c_3,Ds,hf,hc⟩
    replace hF := exK_go hF
    refine h14 _ _ ?_
    refine zS fun K h => zL hf hc sc_30 m1 rfl fun a w hf hc => sp 4 hf rfl fun a hf => zT h ?_
    refine wp_ret ?_
    obtain rfl := sj hF
    replace hc := ((hc.drop k3).drop k2).drop k1
    refine outM hf ?_
    refine outML [.row p_3 c_3 (x_2.map encI_i64) 3 1] Ds hc fun w hc => ?_
    replace hc : Ctx G (.row p_3 c_3 (x_2.map encI_i64) 3 1::Lf) w := hc
    exact outM3 Try.results13 hf hc (show look _ 2 = _ from rfl) (show look _ 3 = _ from rfl) (show look _ 4 = _ from rfl) ⟨p_3,c_3,rfl,hc⟩
   have ho16 : ∀ r,x16 = .out r → r = res := by
    rintro r rfl
    exact sj hF
   replace hf := markZ hf
   replace hc : Ctx G (.box b_4 [.slice none 0 0] 30::.box b_3 [i6 r_3] 3::.row p_1 c_1 (r_1.1.map enc_api_Span) 38 2::.row (some ⟨g,0,none⟩) c_2 (r_2.map encA_85) 85 601::.box b_2 [.slice r_Rating_p r.Rating.length r_Rating_c,.slice r_Gaugings_p r.Gaugings.length r_Gaugings_c,.slice p_1 r_1.1.length c_1] 80::.box b_1 [.slice r_Rating_p r.Rating.length r_Rating_c,.slice r_Gaugings_p r.Gaugings.length r_Gaugings_c] 29::(raws [] ++ Lf)) w := hc
   replace hc := hc.nilRow 3 1
   replace hc := ((hc.drop k6).drop k5).drop k3
   refine cLoop N (loopW (S := S16) (x := x16) ?_ N (0,r_3,([] : List Int)) _ _ ⟨none,0,[],hf.kp rfl,hc⟩ hx16)
   clear hF hf hc
   rintro ⟨x,x_1,x_2⟩ st16 a w KB16 ⟨p_3,c_3,Ds,hf,hc⟩ hF hfin16 hK16
   unfold shift_Least_b16 at hF
   refine zS fun K h => sp 1 hf rfl fun a hf => zT h ?_
   refine wp_seq_k fun K19 h19 => zI hf rfl hF ?_ ?_ <;> clear hF <;> intro hF
   ·refine wp_skip ?_
    refine h19 _ _ ?_
    refine wp_seq_k fun K20 h20 => wp_block ?_
    refine zS fun K h => sp 1 hf rfl fun a hf => ?_
    obtain ⟨e_2,he_2,hF⟩ := bnd_some hF
    obtain ⟨qa_1,qr_1⟩ := row_atk hc m3 he_2
    refine zP hf rfl (pIA Try.underlying81 sz_85 rfl rfl qa_1) fun a hf => zE hf hc rfl (eLdN (vs := (catc [] 601 encI_i64 e_2 [])) ag_85 rfl (one_encA_85 _).1 (cells_rw (sz := 601) (i := x.toNat) m3 qr_1 (n := 601) (o' := 0) (takeW (one_encA_85 _).1))) fun a w hf hc => zA hf hc zr_3 rfl fun b_5 a w hf hc => stAl (cs := (catc [] 601 encI_i64 (fun _ => 0) [])) hf hc rfl rfl zr_85 rfl fun b_6 a w hf hc => zW hf hc sz_3 u1 rfl fun w hc => stStA (enc := encA_85) (f := (fun _ => 0)) (z := e_2) hf hc rfl rfl rfl one_encA_85 sz_85 u0 fun w hc => zT h ?_
    refine zS fun K h => zQ (v := .func (.func 47) #[] #[]) hf hc en_21 rfl (fun w hc => shift_shifts_ok hc rfl) fun a w hf hc => zT h ?_
    obtain ⟨x23,hx23,hF⟩ := bnd_some hF
    refine cRange (C := []) (C2 := []) (L0 := [.box b_6 (catc [] 601 encI_i64 e_2 []) 85,.box b_5 [i6 x] 3,.row p_3 c_3 (x_2.map encI_i64) 3 1,.box b_4 [.slice p_3 x_2.length c_3] 30,.box b_3 [i6 x_1] 3,.row (some ⟨g,0,none⟩) c_2 (r_2.map encA_85) 85 601]) (Lf := (raws Ds ++ Lf)) (encs := fun x : (Int × Int) => [i6 x.1,i6 x.2]) (fun (zz : Int × (List Int)) L => ∃ (p_4 : Option Addr) (c_4 : Nat),L = [.box b_6 (catc [] 601 encI_i64 e_2 []) 85,.box b_5 [i6 x] 3,.row p_4 c_4 (zz.2.map encI_i64) 3 1,.box b_4 [.slice p_4 zz.2.length c_4] 30,.box b_3 [i6 zz.1] 3,.row (some ⟨g,0,none⟩) c_2 (r_2.map encA_85) 85 601]) (fun (zz : Int × (List Int)) (ix_ : (Int × Int)) => shift_Least_r23 N x e_2 zz.1 zz.2 ix_.1 ix_.2) (x_1,x_2) x23 hf hc rfl en_47 (fun _ => rfl) rfl ⟨p_3,c_3,rfl⟩ ?_ ?_ ?_ ?_
    ·intro lq mq J L Lx w hy hJ hc
     exact shift_shifts_1_ok  J _ hy _ hJ hc hx23
    ·clear hF hf hc
     rintro lq mq ⟨x_3,x_4⟩ ⟨xv,xv_1⟩ oq _ Lr Lb a w hK0 ⟨p_4,c_4,rfl⟩ hF hf hc hK
     replace hf : Has 76 a [(8,i6 r_3),(9,pq b_3),(10,pq b_4),(11,pq b_5),(12,pq b_6),(34,.slice (some ⟨g,0,none⟩) r_2.length c_2),(35,i6 ((r_2.length : Nat) : Int)),(36,i6 x),(42,i6 xv),(43,i6 xv_1)] := hf.kp rfl
     replace hc : Ctx G (.box b_6 (catc [] 601 encI_i64 e_2 []) 85::.box b_5 [i6 x] 3::.row p_4 c_4 (x_4.map encI_i64) 3 1::.box b_4 [.slice p_4 x_4.length c_4] 30::.box b_3 [i6 x_3] 3::.row (some ⟨g,0,none⟩) c_2 (r_2.map encA_85) 85 601::Lr) w := hc
     replace hF : shift_Least_r23 N x e_2 x_3 x_4 xv xv_1 = some oq := hF
     unfold shift_Least_r23 at hF
     refine rSeq fun K24 h24 => rReg (fun _ _ h => h) rfl ?_
     refine sp 1 hf rfl fun a hf => cNil ?_
     refine h24 _ _ ?_
     refine rReg (fun _ _ h => h) rfl ?_
     refine sp 1 hf rfl fun a hf => cNil ?_
     refine hK _ _ [.box b_6 (catc [] 601 encI_i64 e_2 []) 85,.box b_5 [i6 x] 3,.row p_4 c_4 (x_4.map encI_i64) 3 1,.box b_4 [.slice p_4 x_4.length c_4] 30,.box b_3 [i6 x_3] 3,.row (some ⟨g,0,none⟩) c_2 (r_2.map encA_85) 85 601] hc fun w hc => ?_
     replace hc : Ctx G (.box b_6 (catc [] 601 encI_i64 e_2 []) 85::.box b_5 [i6 x] 3::.row p_4 c_4 (x_4.map encI_i64) 3 1::.box b_4 [.slice p_4 x_4.length c_4] 30::.box b_3 [i6 x_3] 3::.row (some ⟨g,0,none⟩) c_2 (r_2.map encA_85) 85 601::Lb) w := hc
     refine rThenK fun K25 h25 => rBlock ?_
     refine rSeq fun K26 h26 => rReg (fun _ _ h => h) rfl ?_
     refine sp 1 hf rfl fun a hf => cNil ?_
     refine h26 _ _ ?_
     refine rSeq fun K27 h27 => ?_
     have hj27 : ∀ (step : Int) (p_5 : Option Addr) (c_5 : Nat) a w,Has 76 a [(8,i6 r_3),(9,pq b_3),(10,pq b_4),(11,pq b_5),(12,pq b_6),(13,i6 xv),(14,i6 xv_1),(15,i6 step),(34,.slice (some ⟨g,0,none⟩) r_2.length c_2),(35,i6 ((r_2.length : Nat) : Int)),(36,i6 x)] → Ctx G (.box b_6 (catc [] 601 encI_i64 e_2 []) 85::.box b_5 [i6 x] 3::.row p_5 c_5 (x_4.map encI_i64) 3 1::.box b_4 [.slice p_5 x_4.length c_5] 30::.box b_3 [i6 x_3] 3::.row (some ⟨g,0,none⟩) c_2 (r_2.map encA_85) 85 601::Lb) w → shift_Least_j27 N e_2 x_3 x_4 xv xv_1 step = some oq → K27 a w := by
      repeat (clear hF)
      repeat (clear hc)
      repeat (clear hf)
      intro step p_5 c_5 a w hf hc hF
      unfold shift_Least_j27 at hF
      refine h27 _ _ ?_
      refine rSeq fun K28 h28 => ?_
      obtain ⟨rg,hrg,hF⟩ := bnd_some hF
      refine rCut (fun a w => Has 76 a [(8,i6 r_3),(9,pq b_3),(10,pq b_4),(11,pq b_5),(12,pq b_6),(13,i6 xv),(14,i6 xv_1),(34,.slice (some ⟨g,0,none⟩) r_2.length c_2),(35,i6 ((r_2.length : Nat) : Int)),(36,i6 x),(65,.bool rg)] ∧ Ctx G (.box b_6 (catc [] 601 encI_i64 e_2 []) 85::.box b_5 [i6 x] 3::.row p_5 c_5 (x_4.map encI_i64) 3 1::.box b_4 [.slice p_5 x_4.length c_5] 30::.box b_3 [i6 x_3] 3::.row (some ⟨g,0,none⟩) c_2 (r_2.map encA_85) 85 601::Lb) w) ?_ ?_
      ·clear hF
       have hF := hrg
       clear hrg
       obtain ⟨un,hun,hF⟩ := bnd_some hF
       cases hb : ((e_2 xv.toNat) != 1073741824)
       ·replace hF := condF hb hF
        try rw [hb] at hf
        try rw [hb] at hc
        have hb1 := hb
        clear hb
        refine rRegE (fun _ _ h => h) rfl (fun θ => [⟨none,none,8,i6 r_3⟩,⟨none,none,9,pq b_3⟩,⟨none,none,10,pq b_4⟩,⟨none,none,11,pq b_5⟩,⟨none,none,12,pq b_6⟩,⟨none,none,13,i6 xv⟩,⟨none,none,14,i6 xv_1⟩,⟨none,none,15,i6 step⟩,⟨none,none,34,.slice (some ⟨g,0,none⟩) r_2.length c_2⟩,⟨none,none,35,i6 ((r_2.length : Nat) : Int)⟩,⟨none,none,36,i6 x⟩,⟨some 0,none,53,i6 xv⟩,⟨some 1,none,54,.pointer (some ⟨b_6,0 + xv.toNat * 1,none⟩)⟩,⟨some 2,none,55,i6 (e_2 xv.toNat)⟩,⟨some 3,none,56,.bool false⟩,⟨some 4,none,57,.bool false⟩,⟨some 5,none,58,undef⟩,⟨some 6,none,59,undef⟩,⟨some 7,none,60,undef⟩,⟨some 8,none,61,undef⟩,⟨some 9,none,62,undef⟩,⟨some 10,none,63,undef⟩,⟨some 11,none,64,undef⟩,⟨some 12,none,65,.bool false⟩]) (fun E θ => .box b_6 (catc [] 601 encI_i64 e_2 []) 85::.box b_5 [i6 x] 3::.row p_5 c_5 (x_4.map encI_i64) 3 1::.box b_4 [.slice p_5 x_4.length c_5] 30::.box b_3 [i6 x_3] 3::.row (some ⟨g,0,none⟩) c_2 (r_2.map encA_85) 85 601::Lb) [] (fun a w => Has 76 a [(8,i6 r_3),(9,pq b_3),(10,pq b_4),(11,pq b_5),(12,pq b_6),(13,i6 xv),(14,i6 xv_1),(34,.slice (some ⟨g,0,none⟩) r_2.length c_2),(35,i6 ((r_2.length : Nat) : Int)),(36,i6 x),(58,undef),(59,undef),(60,undef),(61,undef),(62,undef),(63,undef),(64,undef),(65,.bool false)] ∧ Ctx G (.box b_6 (catc [] 601 encI_i64 e_2 []) 85::.box b_5 [i6 x] 3::.row p_5 c_5 (x_4.map encI_i64) 3 1::.box b_4 [.slice p_5 x_4.length c_5] 30::.box b_3 [i6 x_3] 3::.row (some ⟨g,0,none⟩) c_2 (r_2.map encA_85) 85 601::Lb) w) follows_mx (by kernel_rfl) (by kernel_rfl) (HasE.of hf ⟨rfl,rfl,rfl,rfl,rfl,rfl,rfl,rfl,rfl,rfl,rfl,trivial,trivial,trivial,trivial,trivial,trivial,trivial,trivial,trivial,trivial,trivial,trivial,trivial,trivial⟩) hc ⟨?_,?_,?_,?_,?_,?_,?_,?_,?_,?_,?_,?_,?_,trivial⟩ ?_ ?_
        ·intro E θ a w hD hi hp he hc
         have hf := he.h0.mT he 5 rfl
         refine sp 1 hf rfl fun a hf => zD θ he hi hf 11 rfl rfl rfl hc
        ·intro E θ a w hD hi hp he hc
         have e0 := hp.o 0 rfl
         have hf := (he.h0.mT he 4 rfl).mP he 11 rfl e0
         refine zP hf rfl (pIAA Try.underlying85 sz_3 rfl rfl (inR_spec hun).1 (inR_spec hun).2) fun a hf => zD θ he hi hf 12 rfl rfl rfl hc
        ·intro E θ a w hD hi hp he hc
         have e1 := hp.o 1 rfl
         have hf := he.h0.mP he 12 rfl e1
         refine zE hf hc rfl (eLd1 sc_3 rfl (cell_arr (j := 0) m0 (fun x => (one_encI_i64 x).1) rfl hun rfl)) fun a w hf hc => zD θ he hi hf 13 rfl rfl rfl hc
        ·intro E θ a w hD hi hp he hc
         have e2 := hp.o 2 rfl
         have hf := he.h0.mP he 13 rfl e2
         refine sp 1 hf rfl fun a hf => ?_
         rw [hb1] at hf
         exact zD θ he hi hf 14 rfl rfl rfl hc
        ·intro E θ a w hD hi hp he hc
         have e3 := hp.o 3 rfl
         have hf := he.h0.mP he 14 rfl e3
         refine sp 1 hf rfl fun a hf => zD θ he hi hf 15 rfl rfl rfl hc
        ·intro E θ a w hD hi hp he hc
         have e4 := hp.o 4 rfl
         have hf := (he.h0.mT he 7 rfl).mP he 15 rfl e4
         refine stS hf rfl rfl rfl fun a hf => zD θ he hi hf 16 rfl rfl rfl hc
        ·intro E θ a w hD hi hp he hc
         have e4 := hp.o 4 rfl
         have hf := (he.h0.mT he 5 rfl).mP he 15 rfl e4
         refine stS hf rfl rfl rfl fun a hf => zD θ he hi hf 17 rfl rfl rfl hc
        ·intro E θ a w hD hi hp he hc
         have e4 := hp.o 4 rfl
         have e6 := hp.o 6 rfl
         have hf := ((he.h0.mT he 4 rfl).mP he 15 rfl e4).mP he 17 rfl e6
         refine stS hf rfl rfl rfl fun a hf => zD θ he hi hf 18 rfl rfl rfl hc
        ·intro E θ a w hD hi hp he hc
         have e4 := hp.o 4 rfl
         have e7 := hp.o 7 rfl
         have hf := (he.h0.mP he 15 rfl e4).mP he 18 rfl e7
         refine stS hf rfl rfl rfl fun a hf => zD θ he hi hf 19 rfl rfl rfl hc
        ·intro E θ a w hD hi hp he hc
         have e4 := hp.o 4 rfl
         have e5 := hp.o 5 rfl
         have e8 := hp.o 8 rfl
         have hf := ((he.h0.mP he 15 rfl e4).mP he 16 rfl e5).mP he 19 rfl e8
         refine stS hf rfl rfl rfl fun a hf => zD θ he hi hf 20 rfl rfl rfl hc
        ·intro E θ a w hD hi hp he hc
         have e4 := hp.o 4 rfl
         have hf := (he.h0.mT he 1 rfl).mP he 15 rfl e4
         refine stS hf rfl rfl rfl fun a hf => zD θ he hi hf 21 rfl rfl rfl hc
        ·intro E θ a w hD hi hp he hc
         have e4 := hp.o 4 rfl
         have e9 := hp.o 9 rfl
         have e10 := hp.o 10 rfl
         have hf := ((he.h0.mP he 15 rfl e4).mP he 20 rfl e9).mP he 21 rfl e10
         refine stS hf rfl rfl rfl fun a hf => zD θ he hi hf 22 rfl rfl rfl hc
        ·intro E θ a w hD hi hp he hc
         have e4 := hp.o 4 rfl
         have e11 := hp.o 11 rfl
         have hf := (he.h0.mP he 15 rfl e4).mP he 22 rfl e11
         refine sp 1 hf rfl fun a hf => zD θ he hi hf 23 rfl rfl rfl hc
        ·intro E θ a w hall he hc
         have hf := he.h0
         have e5 := hall 5 rfl
         have e6 := hall 6 rfl
         have e7 := hall 7 rfl
         have e8 := hall 8 rfl
         have e9 := hall 9 rfl
         have e10 := hall 10 rfl
         have e11 := hall 11 rfl
         have e12 := hall 12 rfl
         replace hf := hf.more he 23 rfl (onP e12)
         replace hf := hf.more he 22 rfl (onP e11)
         replace hf := hf.more he 21 rfl (onP e10)
         replace hf := hf.more he 20 rfl (onP e9)
         replace hf := hf.more he 19 rfl (onP e8)
         replace hf := hf.more he 18 rfl (onP e7)
         replace hf := hf.more he 17 rfl (onP e6)
         replace hf := hf.more he 16 rfl (onP e5)
         replace hf := hf.more he 10 rfl (onT)
         replace hf := hf.more he 9 rfl (onT)
         replace hf := hf.more he 8 rfl (onT)
         replace hf := hf.more he 6 rfl (onT)
         replace hf := hf.more he 5 rfl (onT)
         replace hf := hf.more he 4 rfl (onT)
         replace hf := hf.more he 3 rfl (onT)
         replace hf := hf.more he 2 rfl (onT)
         replace hf := hf.more he 1 rfl (onT)
         replace hf := hf.more he 0 rfl (onT)
         exact ⟨hf.kp rfl,hc⟩
        rintro a w ⟨hf,hc⟩
        refine xThenN ?_
        obtain rfl := sj hF
        exact ⟨hf.kp rfl,hc⟩
       ·replace hF := condT hb hF
        try rw [hb] at hf
        try rw [hb] at hc
        have hb1 := hb
        clear hb
        refine rRegE (fun _ _ h => h) rfl (fun θ => [⟨none,none,8,i6 r_3⟩,⟨none,none,9,pq b_3⟩,⟨none,none,10,pq b_4⟩,⟨none,none,11,pq b_5⟩,⟨none,none,12,pq b_6⟩,⟨none,none,13,i6 xv⟩,⟨none,none,14,i6 xv_1⟩,⟨none,none,15,i6 step⟩,⟨none,none,34,.slice (some ⟨g,0,none⟩) r_2.length c_2⟩,⟨none,none,35,i6 ((r_2.length : Nat) : Int)⟩,⟨none,none,36,i6 x⟩,⟨some 0,none,53,i6 xv⟩,⟨some 1,none,54,.pointer (some ⟨b_6,0 + xv.toNat * 1,none⟩)⟩,⟨some 2,none,55,i6 (e_2 xv.toNat)⟩,⟨some 3,none,56,.bool true⟩,⟨some 4,none,57,.bool true⟩,⟨some 5,none,58,i6 step⟩,⟨some 6,none,59,i6 xv⟩,⟨some 7,none,60,.pointer (some ⟨b_6,0 + xv.toNat * 1,none⟩)⟩,⟨some 8,none,61,i6 (e_2 xv.toNat)⟩,⟨some 9,none,62,i6 (W (step + (e_2 xv.toNat)))⟩,⟨some 10,none,63,i6 x_3⟩,⟨some 11,none,64,.bool ((W (step + (e_2 xv.toNat))) == x_3)⟩,⟨some 12,none,65,.bool ((W (step + (e_2 xv.toNat))) == x_3)⟩]) (fun E θ => .box b_6 (catc [] 601 encI_i64 e_2 []) 85::.box b_5 [i6 x] 3::.row p_5 c_5 (x_4.map encI_i64) 3 1::.box b_4 [.slice p_5 x_4.length c_5] 30::.box b_3 [i6 x_3] 3::.row (some ⟨g,0,none⟩) c_2 (r_2.map encA_85) 85 601::Lb) [] (fun a w => Has 76 a [(8,i6 r_3),(9,pq b_3),(10,pq b_4),(11,pq b_5),(12,pq b_6),(13,i6 xv),(14,i6 xv_1),(34,.slice (some ⟨g,0,none⟩) r_2.length c_2),(35,i6 ((r_2.length : Nat) : Int)),(36,i6 x),(58,i6 step),(59,i6 xv),(60,.pointer (some ⟨b_6,0 + xv.toNat * 1,none⟩)),(61,i6 (e_2 xv.toNat)),(62,i6 (W (step + (e_2 xv.toNat)))),(63,i6 x_3),(64,.bool ((W (step + (e_2 xv.toNat))) == x_3)),(65,.bool ((W (step + (e_2 xv.toNat))) == x_3))] ∧ Ctx G (.box b_6 (catc [] 601 encI_i64 e_2 []) 85::.box b_5 [i6 x] 3::.row p_5 c_5 (x_4.map encI_i64) 3 1::.box b_4 [.slice p_5 x_4.length c_5] 30::.box b_3 [i6 x_3] 3::.row (some ⟨g,0,none⟩) c_2 (r_2.map encA_85) 85 601::Lb) w) follows_mx (by kernel_rfl) (by kernel_rfl) (HasE.of hf ⟨rfl,rfl,rfl,rfl,rfl,rfl,rfl,rfl,rfl,rfl,rfl,trivial,trivial,trivial,trivial,trivial,trivial,trivial,trivial,trivial,trivial,trivial,trivial,trivial,trivial⟩) hc ⟨?_,?_,?_,?_,?_,?_,?_,?_,?_,?_,?_,?_,?_,trivial⟩ ?_ ?_
        ·intro E θ a w hD hi hp he hc
         have hf := he.h0.mT he 5 rfl
         refine sp 1 hf rfl fun a hf => zD θ he hi hf 11 rfl rfl rfl hc
        ·intro E θ a w hD hi hp he hc
         have e0 := hp.o 0 rfl
         have hf := (he.h0.mT he 4 rfl).mP he 11 rfl e0
         refine zP hf rfl (pIAA Try.underlying85 sz_3 rfl rfl (inR_spec hun).1 (inR_spec hun).2) fun a hf => zD θ he hi hf 12 rfl rfl rfl hc
        ·intro E θ a w hD hi hp he hc
         have e1 := hp.o 1 rfl
         have hf := he.h0.mP he 12 rfl e1
         refine zE hf hc rfl (eLd1 sc_3 rfl (cell_arr (j := 0) m0 (fun x => (one_encI_i64 x).1) rfl hun rfl)) fun a w hf hc => zD θ he hi hf 13 rfl rfl rfl hc
        ·intro E θ a w hD hi hp he hc
         have e2 := hp.o 2 rfl
         have hf := he.h0.mP he 13 rfl e2
         refine sp 1 hf rfl fun a hf => ?_
         rw [hb1] at hf
         exact zD θ he hi hf 14 rfl rfl rfl hc
        ·intro E θ a w hD hi hp he hc
         have e3 := hp.o 3 rfl
         have hf := he.h0.mP he 14 rfl e3
         refine sp 1 hf rfl fun a hf => zD θ he hi hf 15 rfl rfl rfl hc
        ·intro E θ a w hD hi hp he hc
         have e4 := hp.o 4 rfl
         have hf := (he.h0.mT he 7 rfl).mP he 15 rfl e4
         refine sp 1 hf rfl fun a hf => zD θ he hi hf 16 rfl rfl rfl hc
        ·intro E θ a w hD hi hp he hc
         have e4 := hp.o 4 rfl
         have hf := (he.h0.mT he 5 rfl).mP he 15 rfl e4
         refine sp 1 hf rfl fun a hf => zD θ he hi hf 17 rfl rfl rfl hc
        ·intro E θ a w hD hi hp he hc
         have e4 := hp.o 4 rfl
         have e6 := hp.o 6 rfl
         have hf := ((he.h0.mT he 4 rfl).mP he 15 rfl e4).mP he 17 rfl e6
         refine zP hf rfl (pIAA Try.underlying85 sz_3 rfl rfl (inR_spec hun).1 (inR_spec hun).2) fun a hf => zD θ he hi hf 18 rfl rfl rfl hc
        ·intro E θ a w hD hi hp he hc
         have e4 := hp.o 4 rfl
         have e7 := hp.o 7 rfl
         have hf := (he.h0.mP he 15 rfl e4).mP he 18 rfl e7
         refine zE hf hc rfl (eLd1 sc_3 rfl (cell_arr (j := 0) m0 (fun x => (one_encI_i64 x).1) rfl hun rfl)) fun a w hf hc => zD θ he hi hf 19 rfl rfl rfl hc
        ·intro E θ a w hD hi hp he hc
         have e4 := hp.o 4 rfl
         have e5 := hp.o 5 rfl
         have e8 := hp.o 8 rfl
         have hf := ((he.h0.mP he 15 rfl e4).mP he 16 rfl e5).mP he 19 rfl e8
         refine sp 1 hf rfl fun a hf => zD θ he hi hf 20 rfl rfl rfl hc
        ·intro E θ a w hD hi hp he hc
         have e4 := hp.o 4 rfl
         have hf := (he.h0.mT he 1 rfl).mP he 15 rfl e4
         refine zL hf hc sc_3 m4 rfl fun a w hf hc => zD θ he hi hf 21 rfl rfl rfl hc
        ·intro E θ a w hD hi hp he hc
         have e4 := hp.o 4 rfl
         have e9 := hp.o 9 rfl
         have e10 := hp.o 10 rfl
         have hf := ((he.h0.mP he 15 rfl e4).mP he 20 rfl e9).mP he 21 rfl e10
         refine sp 1 hf rfl fun a hf => zD θ he hi hf 22 rfl rfl rfl hc
        ·intro E θ a w hD hi hp he hc
         have e4 := hp.o 4 rfl
         have e11 := hp.o 11 rfl
         have hf := (he.h0.mP he 15 rfl e4).mP he 22 rfl e11
         refine sp 1 hf rfl fun a hf => zD θ he hi hf 23 rfl rfl rfl hc
        ·intro E θ a w hall he hc
         have hf := he.h0
         have e5 := hall 5 rfl
         have e6 := hall 6 rfl
         have e7 := hall 7 rfl
         have e8 := hall 8 rfl
         have e9 := hall 9 rfl
         have e10 := hall 10 rfl
         have e11 := hall 11 rfl
         have e12 := hall 12 rfl
         replace hf := hf.more he 23 rfl (onP e12)
         replace hf := hf.more he 22 rfl (onP e11)
         replace hf := hf.more he 21 rfl (onP e10)
         replace hf := hf.more he 20 rfl (onP e9)
         replace hf := hf.more he 19 rfl (onP e8)
         replace hf := hf.more he 18 rfl (onP e7)
         replace hf := hf.more he 17 rfl (onP e6)
         replace hf := hf.more he 16 rfl (onP e5)
         replace hf := hf.more he 10 rfl (onT)
         replace hf := hf.more he 9 rfl (onT)
         replace hf := hf.more he 8 rfl (onT)
         replace hf := hf.more he 6 rfl (onT)
         replace hf := hf.more he 5 rfl (onT)
         replace hf := hf.more he 4 rfl (onT)
         replace hf := hf.more he 3 rfl (onT)
         replace hf := hf.more he 2 rfl (onT)
         replace hf := hf.more he 1 rfl (onT)
         replace hf := hf.more he 0 rfl (onT)
         exact ⟨hf.kp rfl,hc⟩
        rintro a w ⟨hf,hc⟩
        refine xThenN ?_
        obtain rfl := sj hF
        exact ⟨hf.kp rfl,hc⟩
      rintro a w ⟨hf,hc⟩
      refine h28 _ _ ?_
      refine rCond (b := rg) hf rfl (fun hb => ?_) (fun hb => ?_)
      ·replace hF := condT hb hF
       clear hb
       refine rSeq fun K29 h29 => ?_
       obtain ⟨un_1,hun_1,hF⟩ := bnd_some hF
       obtain ⟨un_2,hun_2,hF⟩ := bnd_some hF
       replace hc := hc.nilRow 0 0
       refine rRegE (fun _ _ h => h) rfl (fun θ => [⟨none,none,8,i6 r_3⟩,⟨none,none,9,pq b_3⟩,⟨none,none,10,pq b_4⟩,⟨none,none,12,pq b_6⟩,⟨none,none,13,i6 xv⟩,⟨none,none,14,i6 xv_1⟩,⟨none,none,34,.slice (some ⟨g,0,none⟩) r_2.length c_2⟩,⟨none,none,35,i6 ((r_2.length : Nat) : Int)⟩,⟨none,none,36,i6 x⟩,⟨some 0,none,66,.slice p_5 x_4.length c_5⟩,⟨some 1,none,67,i6 xv_1⟩,⟨some 2,none,68,.slice (some ⟨(θ 16).b,0,none⟩) 1 1⟩,⟨some 3,none,69,.slice ((θ 24).p) ((x_4 ++ [xv_1]).length) ((θ 24).c)⟩,⟨some 4,none,70,i6 xv⟩,⟨some 5,none,71,.pointer (some ⟨b_6,0 + xv.toNat * 1,none⟩)⟩,⟨some 6,none,72,i6 (e_2 xv.toNat)⟩]) (fun E θ => (bif E 2 then .row (some ⟨(θ 16).b,0,none⟩) 1 (([xv_1] : List Int).map encI_i64) 3 1 else .row none 0 [] 0 0)::.box b_6 (catc [] 601 encI_i64 e_2 []) 85::.box b_5 [i6 x] 3::(bif E 3 then .row ((θ 24).p) ((θ 24).c) ((x_4 ++ [xv_1]).map encI_i64) 3 1 else .row p_5 c_5 (x_4.map encI_i64) 3 1)::(bif E 7 then .box b_4 [.slice ((θ 24).p) ((x_4 ++ [xv_1]).length) ((θ 24).c)] 30 else .box b_4 [.slice p_5 x_4.length c_5] 30)::(bif E 8 then .box b_3 [i6 (e_2 xv.toNat)] 3 else .box b_3 [i6 x_3] 3)::.row (some ⟨g,0,none⟩) c_2 (r_2.map encA_85) 85 601::Lb) [(7,0),(7,3)] (fun a w => ∃ (b_8 : Nat) (p_7 : Option Addr) (c_7 : Nat),Has 76 a [(8,i6 r_3),(9,pq b_3),(10,pq b_4),(34,.slice (some ⟨g,0,none⟩) r_2.length c_2),(35,i6 ((r_2.length : Nat) : Int)),(36,i6 x)] ∧ Ctx G (.row (some ⟨b_8,0,none⟩) 1 (([xv_1] : List Int).map encI_i64) 3 1::.box b_6 (catc [] 601 encI_i64 e_2 []) 85::.box b_5 [i6 x] 3::.row p_7 c_7 ((x_4 ++ [xv_1]).map encI_i64) 3 1::.box b_4 [.slice p_7 ((x_4 ++ [xv_1]).length) c_7] 30::.box b_3 [i6 (e_2 xv.toNat)] 3::.row (some ⟨g,0,none⟩) c_2 (r_2.map encA_85) 85 601::Lb) w) follows_mx (by kernel_rfl) (by kernel_rfl) (HasE.of hf ⟨rfl,rfl,rfl,rfl,rfl,rfl,rfl,rfl,rfl,trivial,trivial,trivial,trivial,trivial,trivial,trivial,trivial⟩) hc ⟨?_,?_,?_,?_,?_,?_,?_,?_,?_,trivial⟩ ?_ ?_
       ·intro E θ a w hD hi hp he hc
        have e7 := hD.f 0 rfl hi
        try dsimp only at hc
        rw [e7] at hc
        have hf := he.h0.mT he 2 rfl
        refine zL hf hc sc_30 m4 rfl fun a w hf hc => zD θ he hi hf 9 rfl rfl rfl ?_
        try dsimp only
        rw [updE_fls 0 e7 rfl]
        exact hc
       ·intro E θ a w hD hi hp he hc
        have hf := he.h0.mT he 5 rfl
        refine sp 1 hf rfl fun a hf => zD θ he hi hf 10 rfl rfl rfl hc
       ·intro E θ a w hD hi hp he hc
        have e1 := hp.o 1 rfl
        try dsimp only at hc
        rw [hi] at hc
        have hf := he.h0.mP he 10 rfl e1
        refine stBS (rows := ([xv_1] : List Int).map encI_i64) (vs := [(0,i6 xv_1)]) hf hc rfl rfl sl_30 rfl ⟨rfl,rfl,rfl,trivial⟩ rfl rfl fun b_7 a w hf hc => cNil ?_
        refine xThenN ?_
        intro ds u hau
        replace hc := hc.drop k1
        refine ⟨(setT θ 16 ⟨b_7,none,0,(fun _ => (none,0))⟩),he.put hi hau hf rfl [] trivial ⟨qq,qq,qq,qq,qq,qq,qq,qq,qq,qq,qq,qq,qq,qq,qq,qq,trivial⟩,?_⟩
        try dsimp only
        rw [updE_self E 2]
        exact hc
       ·intro E θ a w hD hi hp he hc
        have e0 := hp.o 0 rfl
        have e2 := hp.o 2 rfl
        have e7 := hD.f 1 rfl hi
        try dsimp only at hc
        rw [e2,hi,e7] at hc
        have hf := (he.h0.mP he 9 rfl e0).mP he 11 rfl e2
        refine stApm (xs := x_4) (ys := ([xv_1] : List Int)) hf hc rfl rfl sl_30 rfl rfl rfl rfl rfl one_encI_i64 (src_row hc m0) (fun _ _ => u3) (by simpa using room_spec hun_1) fun p_6 c_6 a w hf hc => cNil ?_
        refine xThenN ?_
        intro ds u hau
        refine ⟨(setT θ 24 ⟨0,p_6,c_6,(fun _ => (none,0))⟩),he.put hi hau hf rfl [] trivial ⟨qq,qq,qq,qq,qq,qq,qq,qq,qq,qq,qq,qq,qq,qq,qq,qq,trivial⟩,?_⟩
        try dsimp only
        rw [updE_tru 3 e2,updE_self E 3,updE_fls 3 e7 rfl]
        exact hc
       ·intro E θ a w hD hi hp he hc
        have hf := he.h0.mT he 4 rfl
        refine sp 1 hf rfl fun a hf => zD θ he hi hf 13 rfl rfl rfl hc
       ·intro E θ a w hD hi hp he hc
        have e4 := hp.o 4 rfl
        have hf := (he.h0.mT he 3 rfl).mP he 13 rfl e4
        refine zP hf rfl (pIAA Try.underlying85 sz_3 rfl rfl (inR_spec hun_2).1 (inR_spec hun_2).2) fun a hf => zD θ he hi hf 14 rfl rfl rfl hc
       ·intro E θ a w hD hi hp he hc
        have e5 := hp.o 5 rfl
        have hf := he.h0.mP he 14 rfl e5
        refine zE hf hc rfl (eLd1 sc_3 rfl (cell_arr (j := 0) m1 (fun x => (one_encI_i64 x).1) rfl hun_2 rfl)) fun a w hf hc => zD θ he hi hf 15 rfl rfl rfl hc
       ·intro E θ a w hD hi hp he hc
        have e3 := hp.o 3 rfl
        try dsimp only at hc
        rw [hi] at hc
        have hf := (he.h0.mT he 2 rfl).mP he 12 rfl e3
        refine zW hf hc sz_30 u4 rfl fun w hc => zG θ he hi hf rfl ?_
        try dsimp only
        rw [updE_self E 7]
        exact hc
       ·intro E θ a w hD hi hp he hc
        have e6 := hp.o 6 rfl
        try dsimp only at hc
        rw [hi] at hc
        have hf := (he.h0.mT he 1 rfl).mP he 15 rfl e6
        refine zW hf hc sz_3 u5 rfl fun w hc => zG θ he hi hf rfl ?_
        try dsimp only
        rw [updE_self E 8]
        exact hc
       ·intro E θ a w hall he hc
        have hf := he.h0
        have e2 := hall 2 rfl
        have e3 := hall 3 rfl
        have e7 := hall 7 rfl
        have e8 := hall 8 rfl
        replace hf := hf.more he 8 rfl (onT)
        replace hf := hf.more he 7 rfl (onT)
        replace hf := hf.more he 6 rfl (onT)
        replace hf := hf.more he 2 rfl (onT)
        replace hf := hf.more he 1 rfl (onT)
        replace hf := hf.more he 0 rfl (onT)
        try dsimp only at hc
        rw [e2,e3,e7,e8] at hc
        exact ⟨(θ 16).b,(θ 24).p,(θ 24).c,hf.kp rfl,hc⟩
       rintro a w ⟨b_8,p_7,c_7,hf,hc⟩
       refine h29 _ _ ?_
       refine rExit ?_
       refine cMiss rfl ?_
       refine xThen ?_
       replace hc := hc.drop k0
       exact ⟨rfl,((e_2 xv.toNat),(x_4 ++ [xv_1])),_,(sj hF).symm,⟨p_7,c_7,rfl⟩,hc⟩
      ·replace hF := condF hb hF
       clear hb
       refine rSkip ?_
       refine h25 _ _ ?_
       exact ⟨(x_3,x_4),_,(sj hF).symm,⟨p_5,c_5,rfl⟩,hc⟩
     refine rSeq fun K30 h30 => rReg (fun _ _ h => h) rfl ?_
     refine zL hf hc sc_3 m1 rfl fun a w hf hc => sp 1 hf rfl fun a hf => cNil ?_
     refine h30 _ _ ?_
     refine rCond (b := (decide (0 < x))) hf rfl (fun hb => ?_) (fun hb => ?_)
     ·replace hF := condT hb hF
      clear hb
      refine rReg (fun _ _ h => h) rfl ?_
      refine sp 1 hf rfl fun a hf => zL hf hc sc_30 m3 rfl fun a w hf hc => zL hf hc sc_3 m1 rfl fun a w hf hc => sp 1 hf rfl fun a hf => ?_
      obtain ⟨e_3,he_3,hF⟩ := bnd_some hF
      obtain ⟨g_1,rfl,qa_2,qr_2⟩ := row_atm hc m2 he_3
      refine zP hf rfl (pIA Try.underlying30 sz_3 rfl rfl qa_2) fun a hf => zE hf hc rfl (eLd1 sc_3 rfl (cell_row (sz := 1) (i := (W (x - 1)).toNat) (j := 0) m2 qr_2 rfl)) fun a w hf hc => ?_
      obtain ⟨r_4,hr_4,hF⟩ := bnd_some hF
      refine zQ (v := i6 r_4) hf hc en_22 rfl (fun w hc => shift_apart_ok xv_1 e_3 hc hr_4) fun a w hf hc => sp 1 hf rfl fun a hf => cNil ?_
      exact hj27 r_4 (some ⟨g_1,0,none⟩) c_4 _ _  (hf.kp rfl) hc hF
     ·replace hF := condF hb hF
      clear hb
      refine rSkip ?_
      exact hj27 0 p_4 c_4 _ _  (hf.kp rfl) hc hF
    ·rintro D_1 ⟨x_3,x_4⟩ _ a w hsF ⟨p_4,c_4,rfl⟩ hf hc
     replace hf : Has ⟨76,markL (D_1::Ds)⟩ a [(8,i6 r_3),(9,pq b_3),(10,pq b_4),(11,pq b_5),(12,pq b_6),(34,.slice (some ⟨g,0,none⟩) r_2.length c_2),(35,i6 ((r_2.length : Nat) : Int)),(36,i6 x)] := hf.kp rfl
     replace hc : Ctx G (.box b_6 (catc [] 601 encI_i64 e_2 []) 85::.box b_5 [i6 x] 3::.row p_4 c_4 (x_4.map encI_i64) 3 1::.box b_4 [.slice p_4 x_4.length c_4] 30::.box b_3 [i6 x_3] 3::.row (some ⟨g,0,none⟩) c_2 (r_2.map encA_85) 85 601::(raws (D_1::Ds) ++ Lf)) w := rawsIn (C := []) (L := [.box b_6 (catc [] 601 encI_i64 e_2 []) 85,.box b_5 [i6 x] 3,.row p_4 c_4 (x_4.map encI_i64) 3 1,.box b_4 [.slice p_4 x_4.length c_4] 30,.box b_3 [i6 x_3] 3,.row (some ⟨g,0,none⟩) c_2 (r_2.map encA_85) 85 601]) hc
     replace hF : (some (.cont (W (x + 1),x_3,x_4))) = some st16 := by rcases hsF with rfl | rfl <;> exact hF
     refine h20 _ _ ?_
     refine cReg ?_
     refine sp 2 hf rfl fun a hf => cNil ?_
     replace hc := (hc.drop k1).drop k0
     exact hK16 (W (x + 1),x_3,x_4) _ _ (sj hF).symm ⟨p_4,c_4,(D_1::Ds),hf.kp rfl,hc⟩
    ·rintro D_1 ⟨x_3,x_4⟩ _ a w hsF ⟨p_4,c_4,rfl⟩ hf hc
     replace hf : Has ⟨76,markL (D_1::Ds)⟩ a [(8,i6 r_3),(9,pq b_3),(10,pq b_4),(11,pq b_5),(12,pq b_6),(34,.slice (some ⟨g,0,none⟩) r_2.length c_2),(35,i6 ((r_2.length : Nat) : Int)),(36,i6 x)] := hf.kp rfl
     replace hc : Ctx G (.box b_6 (catc [] 601 encI_i64 e_2 []) 85::.box b_5 [i6 x] 3::.row p_4 c_4 (x_4.map encI_i64) 3 1::.box b_4 [.slice p_4 x_4.length c_4] 30::.box b_3 [i6 x_3] 3::.row (some ⟨g,0,none⟩) c_2 (r_2.map encA_85) 85 601::(raws (D_1::Ds) ++ Lf)) w := rawsIn (C := []) (L := [.box b_6 (catc [] 601 encI_i64 e_2 []) 85,.box b_5 [i6 x] 3,.row p_4 c_4 (x_4.map encI_i64) 3 1,.box b_4 [.slice p_4 x_4.length c_4] 30,.box b_3 [i6 x_3] 3,.row (some ⟨g,0,none⟩) c_2 (r_2.map encA_85) 85 601]) hc
     replace hF : (none) = some st16 := by subst hsF; exact hF
     cases hF
   ·refine wp_exit ?_
    refine xThen ?_
    refine xThen ?_
    have he := sj hF
    rw [← he] at hfin16
    refine cHit ?_
    exact hr16 _ _ _ hfin16 ⟨p_3,c_3,Ds,hf.kp rfl,hc⟩

def law05_Three (N : Nat)  : Option (shift_Record) :=
 Option.bind (law05_span N 90 130) fun r =>
 Option.bind (law05_span N 95 100) fun r_1 =>
 Option.bind (law05_span N 70 160) fun r_2 =>
 some (⟨([(⟨0,0⟩ : shift_Mark),(⟨10,100⟩ : shift_Mark),(⟨20,400⟩ : shift_Mark)] : List shift_Mark),([(⟨1,13,r⟩ : shift_Gauging),(⟨5,10,r_1⟩ : shift_Gauging),(⟨9,15,r_2⟩ : shift_Gauging)] : List shift_Gauging)⟩ : shift_Record)
theorem law05_Three_ok {N : Nat} {G : Pers} {Lf : List Ent} {w : World}    (hc : Ctx G (Lf) w) {res : shift_Record} (hF : law05_Three N = some res) : Calls Try.prog 23 #[] w (fun e w => ∃ (p'1 : Option Addr) (c'1 : Nat) (p'2 : Option Addr) (c'2 : Nat),e = .returned (.agg #[.slice p'1 res.Rating.length c'1,.slice p'2 res.Gaugings.length c'2]) ∧ Ctx G (.row p'1 c'1 (res.Rating.map enc_shift_Mark) 61 2::.row p'2 c'2 (res.Gaugings.map enc_shift_Gauging) 50 4::Lf) w) := by
 unfold law05_Three at hF
 refine fnIn Try.func23 rfl Try.ntmps23 rfl fun a hf => zS fun K h => zA hf hc zr_29 rfl fun b_1 a w hf hc => zT h ?_
 refine zS fun K h => zP hf rfl (pBuildS (cells := [i6 0,i6 0]) bt_61 rfl rfl) fun a hf => zP hf rfl (pBuildS (cells := [i6 10,i6 100]) bt_61 rfl rfl) fun a hf => zP hf rfl (pBuildS (cells := [i6 20,i6 400]) bt_61 rfl rfl) fun a hf => stBS (rows := ([(⟨0,0⟩ : shift_Mark),(⟨10,100⟩ : shift_Mark),(⟨20,400⟩ : shift_Mark)] : List shift_Mark).map enc_shift_Mark) (vs := [(0,.agg #[i6 0,i6 0]),(1,.agg #[i6 10,i6 100]),(2,.agg #[i6 20,i6 400])]) hf hc rfl rfl sl_25 rfl ⟨rfl,rfl,rfl,rfl,rfl,rfl,rfl,rfl,rfl,trivial⟩ rfl rfl fun b_2 a w hf hc => ?_
 obtain ⟨r,hr,hF⟩ := bnd_some hF
 refine zQ (v := .agg #[i6 r.Lo,i6 r.Hi]) hf hc en_11 rfl (fun w hc => law05_span_ok 90 130 hc hr) fun a w hf hc => zP hf rfl (pBuildS (cells := [i6 1,i6 13,i6 r.Lo,i6 r.Hi]) bt_50 rfl rfl) fun a hf => ?_
 obtain ⟨r_1,hr_1,hF⟩ := bnd_some hF
 refine zQ (v := .agg #[i6 r_1.Lo,i6 r_1.Hi]) hf hc en_11 rfl (fun w hc => law05_span_ok 95 100 hc hr_1) fun a w hf hc => zP hf rfl (pBuildS (cells := [i6 5,i6 10,i6 r_1.Lo,i6 r_1.Hi]) bt_50 rfl rfl) fun a hf => ?_
 obtain ⟨r_2,hr_2,hF⟩ := bnd_some hF
 refine zQ (v := .agg #[i6 r_2.Lo,i6 r_2.Hi]) hf hc en_11 rfl (fun w hc => law05_span_ok 70 160 hc hr_2) fun a w hf hc => zP hf rfl (pBuildS (cells := [i6 9,i6 15,i6 r_2.Lo,i6 r_2.Hi]) bt_50 rfl rfl) fun a hf => stBS (rows := ([(⟨1,13,r⟩ : shift_Gauging),(⟨5,10,r_1⟩ : shift_Gauging),(⟨9,15,r_2⟩ : shift_Gauging)] : List shift_Gauging).map enc_shift_Gauging) (vs := [(0,.agg #[i6 1,i6 13,i6 r.Lo,i6 r.Hi]),(1,.agg #[i6 5,i6 10,i6 r_1.Lo,i6 r_1.Hi]),(2,.agg #[i6 9,i6 15,i6 r_2.Lo,i6 r_2.Hi])]) hf hc rfl rfl sl_27 rfl ⟨rfl,rfl,rfl,rfl,rfl,rfl,rfl,rfl,rfl,trivial⟩ rfl rfl fun b_3 a w hf hc => zP hf rfl (pBuildS (cells := [.slice (some ⟨b_2,0,none⟩) 3 3,.slice (some ⟨b_3,0,none⟩) 3 3]) bt_29 rfl rfl) fun a hf => zW hf hc sz_29 u2 rfl fun w hc => zT h ?_
 refine wp_ret ?_
 obtain rfl := sj hF
 replace hc := (hc.pick k0).pick k1
 exact fnOut1 (by simp) rfl Try.results23 hf hc (rv_cellN (vs := [.slice (some ⟨b_2,0,none⟩) 3 3,.slice (some ⟨b_3,0,none⟩) 3 3]) ag_29 rfl rfl (cells_box (n := 2) m2 rfl)) ⟨(some ⟨b_2,0,none⟩),3,(some ⟨b_3,0,none⟩),3,rfl,(hc.drop k2)⟩

def shift_Rising_j3 (N : Nat) (rating : List shift_Mark) (stage : Int) (shift : Int) (rise : Int) (per : Int) (e_1 : Int) : Option (api_Ratio × Int) :=
 cond (e_1 != 0)
 (some ((⟨0,0⟩ : api_Ratio),e_1))
 (Option.bind (shift_means N rating (W (stage - shift))) fun r_1 =>
 Option.bind (shift_ratio N (W (r_1.N * (max 0 (W (1000 + (W (rise * per))))))) (W (1000 * r_1.D))) fun r_2 =>
 some (r_2,0))
def shift_Rising (N : Nat) (rating : List shift_Mark) (stage : Int) (shift : Int) (rise : Int) (per : Int) : Option (api_Ratio × Int) :=
 Option.bind (shift_asked N rating stage shift) fun r =>
 cond ((r == 0) && ((!(shift_in rise (-1000) 1000)) || (!(shift_in per 0 1000))))
 (shift_Rising_j3 N rating stage shift rise per 4)
 (shift_Rising_j3 N rating stage shift rise per r)
theorem shift_Rising_ok {N : Nat} {G : Pers} {Lf : List Ent} {w : World} (rating : List shift_Mark) (stage : Int) (shift : Int) (rise : Int) (per : Int) {rating_p : Option Addr} {rating_c : Nat} (h_rating : Rd G 2 rating_p rating_c (rating.map enc_shift_Mark)) (hc : Ctx G (Lf) w) {res : api_Ratio × Int} (hF : shift_Rising N rating stage shift rise per = some res) : Calls Try.prog 24 #[.slice rating_p rating.length rating_c,i6 stage,i6 shift,i6 rise,i6 per] w (fun e w => e = .returned (.tuple #[.agg #[i6 res.1.N,i6 res.1.D],i6 res.2]) ∧ Ctx G (Lf) w) := by
 unfold shift_Rising at hF
 refine fnIn Try.func24 rfl Try.ntmps24 rfl fun a hf => zS fun K h => zA hf hc zr_45 rfl fun b_1 a w hf hc => sp 1 hf rfl fun a hf => zT h ?_
 refine zS fun K h => sp 3 hf rfl fun a hf => ?_
 obtain ⟨r,hr,hF⟩ := bnd_some hF
 refine zQ (v := i6 r) hf hc en_16 rfl (fun w hc => shift_asked_ok rating stage shift h_rating hc hr) fun a w hf hc => sp 1 hf rfl fun a hf => zT h ?_
 refine wp_seq_k fun K3 h3 => ?_
 have hj3 : ∀ (e_1 : Int) a w,Has 51 a [(0,.slice rating_p rating.length rating_c),(1,i6 stage),(2,i6 shift),(3,i6 rise),(4,i6 per),(10,pq b_1),(12,i6 e_1)] → Ctx G (.box b_1 [i6 0,i6 0] 45::Lf) w → shift_Rising_j3 N rating stage shift rise per e_1 = some res → K3 a w := by
  repeat (clear hF)
  repeat (clear hc)
  repeat (clear hf)
  intro e_1 a w hf hc hF
  unfold shift_Rising_j3 at hF
  refine h3 _ _ ?_
  refine wp_seq_k fun K4 h4 => zS fun K h => sp 2 hf rfl fun a hf => zT h ?_
  refine zI hf rfl hF ?_ ?_ <;> clear hF <;> intro hF
  ·refine zS fun K h => zP hf rfl (pBuildS (cells := [i6 0,i6 0]) bt_45 rfl rfl) fun a hf => sp 1 hf rfl fun a hf => zW hf hc sz_45 u0 rfl fun w hc => sp 1 hf rfl fun a hf => zT h ?_
   refine wp_ret ?_
   refine xThenR ?_
   obtain rfl := sj hF
   exact fnOut2 (by simp) rfl Try.results24 hf hc (rv_cellN (vs := [i6 0,i6 0]) ag_45 rfl rfl (cells_box (n := 2) m0 rfl)) (show look _ 11 = _ from rfl) ⟨rfl,(hc.drop k0)⟩
  ·refine wp_skip ?_
   refine h4 _ _ ?_
   refine zS fun K h => sp 4 hf rfl fun a hf => ?_
   obtain ⟨r_1,hr_1,hF⟩ := bnd_some hF
   refine zQ (v := .agg #[i6 r_1.N,i6 r_1.D]) hf hc en_17 rfl (fun w hc => shift_means_ok rating (W (stage - shift)) h_rating hc hr_1) fun a w hf hc => zA hf hc zr_45 rfl fun b_2 a w hf hc => zW hf hc sz_45 u0 rfl fun w hc => zT h ?_
   refine zS fun K h => zP hf rfl (pFA fa_45_0 rfl) fun a hf => zL hf hc sc_3 m0 rfl fun a w hf hc => sp 4 hf rfl fun a hf => zP hf rfl (pMax2 rfl rfl) fun a hf => sp 1 hf rfl fun a hf => zP hf rfl (pFA fa_45_1 rfl) fun a hf => zL hf hc sc_3 m0 rfl fun a w hf hc => sp 1 hf rfl fun a hf => ?_
   obtain ⟨r_2,hr_2,hF⟩ := bnd_some hF
   refine zQ (v := .agg #[i6 r_2.N,i6 r_2.D]) hf hc en_38 rfl (fun w hc => shift_ratio_ok (W (r_1.N * (max 0 (W (1000 + (W (rise * per))))))) (W (1000 * r_1.D)) hc hr_2) fun a w hf hc => zW hf hc sz_45 u1 rfl fun w hc => sp 1 hf rfl fun a hf => zT h ?_
   refine wp_ret ?_
   obtain rfl := sj hF
   replace hc := hc.drop k0
   exact fnOut2 (by simp) rfl Try.results24 hf hc (rv_cellN (vs := [i6 r_2.N,i6 r_2.D]) ag_45 rfl rfl (cells_box (n := 2) m0 rfl)) (show look _ 11 = _ from rfl) ⟨rfl,(hc.drop k0)⟩
 refine zS fun K h => sp 3 hf rfl fun a hf => stCc 9 (fun a => Has 51 a [(0,.slice rating_p rating.length rating_c),(1,i6 stage),(2,i6 shift),(3,i6 rise),(4,i6 per),(10,pq b_1),(12,i6 r),(18,i6 r),(19,.bool (r == 0)),(20,.bool (r == 0)),(29,.bool ((r == 0) && ((!(shift_in rise (-1000) 1000)) || (!(shift_in per 0 1000)))))]) hc ?_ ?_
 ·cases hb : (r == 0)
  ·rw [hb] at hf
   refine stS hf rfl rfl rfl fun a hf => stS hf rfl rfl rfl fun a hf => stS hf rfl rfl rfl fun a hf => stS hf rfl rfl rfl fun a hf => stS hf rfl rfl rfl fun a hf => stS hf rfl rfl rfl fun a hf => stS hf rfl rfl rfl fun a hf => stS hf rfl rfl rfl fun a hf => sp 1 hf rfl fun a hf => cNil ⟨hf.kp rfl,hc⟩
  ·rw [hb] at hf
   refine sp 1 hf rfl fun a hf => zQ (v := .bool (shift_in rise (-1000) 1000)) hf hc en_36 rfl (fun w hc => shift_in_ok rise (-1000) 1000 hc rfl) fun a w hf hc => sp 2 hf rfl fun a hf => stCc 4 (fun a => Has 51 a [(0,.slice rating_p rating.length rating_c),(1,i6 stage),(2,i6 shift),(3,i6 rise),(4,i6 per),(10,pq b_1),(12,i6 r),(18,i6 r),(19,.bool true),(20,.bool true),(21,i6 rise),(22,.bool (shift_in rise (-1000) 1000)),(23,.bool (!(shift_in rise (-1000) 1000))),(24,.bool (!(shift_in rise (-1000) 1000))),(28,.bool ((!(shift_in rise (-1000) 1000)) || (!(shift_in per 0 1000))))]) hc ?_ ?_
   ·cases hb : (!(shift_in rise (-1000) 1000))
    ·rw [hb] at hf
     refine sp 1 hf rfl fun a hf => zQ (v := .bool (shift_in per 0 1000)) hf hc en_36 rfl (fun w hc => shift_in_ok per 0 1000 hc rfl) fun a w hf hc => sp 2 hf rfl fun a hf => cNil ⟨hf.kp rfl,hc⟩
    ·rw [hb] at hf
     refine stS hf rfl rfl rfl fun a hf => stS hf rfl rfl rfl fun a hf => stS hf rfl rfl rfl fun a hf => sp 1 hf rfl fun a hf => cNil ⟨hf.kp rfl,hc⟩
   intro a w ⟨hf,hc⟩
   refine sp 1 hf rfl fun a hf => cNil ⟨hf.kp rfl,hc⟩
 intro a w ⟨hf,hc⟩
 refine zT h ?_
 refine zI hf rfl hF ?_ ?_ <;> clear hF <;> intro hF
 ·refine cReg ?_
  refine sp 1 hf rfl fun a hf => cNil ?_
  exact hj3 4 _ _  (hf.kp rfl) hc hF
 ·refine wp_skip ?_
  exact hj3 r _ _  (hf.kp rfl) hc hF

def shift_Proves_1 (t_ : shift_Turn) (x : shift_Record) : Bool :=
 (shift_in t_.Gauging 0 (W (((x.Gaugings.length : Nat) : Int) - 1)))
theorem shift_Proves_1_ok {G : Pers} {Lf : List Ent} {w : World} (t_ : shift_Turn) (x : shift_Record) {b_ : Nat} {x_Rating_p : Option Addr} {x_Rating_c : Nat} {x_Gaugings_p : Option Addr} {x_Gaugings_c : Nat} (h_x_Rating : Rd G 2 x_Rating_p x_Rating_c (x.Rating.map enc_shift_Mark)) (h_x_Gaugings : Rd G 4 x_Gaugings_p x_Gaugings_c (x.Gaugings.map enc_shift_Gauging)) (hc : Ctx G (.box b_ [.slice x_Rating_p x.Rating.length x_Rating_c,.slice x_Gaugings_p x.Gaugings.length x_Gaugings_c] 29::Lf) w) {res : Bool} (hF : shift_Proves_1 t_ x = res) : Calls Try.prog 50 #[.agg #[i6 t_.Gauging,.bool t_.Up],pq b_] w (fun e w => e = .returned (.bool res) ∧ Ctx G (.box b_ [.slice x_Rating_p x.Rating.length x_Rating_c,.slice x_Gaugings_p x.Gaugings.length x_Gaugings_c] 29::Lf) w) := by
 unfold shift_Proves_1 at hF
 refine fnIn Try.func50 rfl Try.ntmps50 rfl fun a hf => zS fun K h => zB hf hc rfl fun b_1 a w hf hc => sp 1 hf rfl fun a hf => zT h ?_
 refine zS fun K h => zP hf rfl (pFA fa_94_0 rfl) fun a hf => zL hf hc sc_3 m0 rfl fun a w hf hc => zP hf rfl (pFA fa_29_1 rfl) fun a hf => zL hf hc sc_27 m1 rfl fun a w hf hc => zP hf rfl (pLenS Try.underlying27 rfl) fun a hf => sp 1 hf rfl fun a hf => zQ (v := .bool (shift_in t_.Gauging 0 (W (((x.Gaugings.length : Nat) : Int) - 1)))) hf hc en_36 rfl (fun w hc => shift_in_ok t_.Gauging 0 (W (((x.Gaugings.length : Nat) : Int) - 1)) hc rfl) fun a w hf hc => sp 1 hf rfl fun a hf => zT h ?_
 refine wp_ret ?_
 obtain rfl := hF
 replace hc := hc.drop k0
 exact zO1 Try.results50 hf rfl ⟨rfl,hc⟩

def shift_every_shift_Turn_1 (x : shift_Turn) (x_1 : shift_Record) : Bool :=
 (!(shift_Proves_1 (⟨x.Gauging,x.Up⟩ : shift_Turn) x_1))
theorem shift_every_shift_Turn_1_ok {G : Pers} {Lf : List Ent} {w : World} (x : shift_Turn) (x_1 : shift_Record) {b_ : Nat} {b__1 : Nat} {x_1_Rating_p : Option Addr} {x_1_Rating_c : Nat} {x_1_Gaugings_p : Option Addr} {x_1_Gaugings_c : Nat} (h_x_1_Rating : Rd G 2 x_1_Rating_p x_1_Rating_c (x_1.Rating.map enc_shift_Mark)) (h_x_1_Gaugings : Rd G 4 x_1_Gaugings_p x_1_Gaugings_c (x_1.Gaugings.map enc_shift_Gauging)) (hc : Ctx G (.box b_ [.func (.func 50) #[] #[pq b__1]] 118::.box b__1 [.slice x_1_Rating_p x_1.Rating.length x_1_Rating_c,.slice x_1_Gaugings_p x_1.Gaugings.length x_1_Gaugings_c] 29::Lf) w) {res : Bool} (hF : shift_every_shift_Turn_1 x x_1 = res) : Calls Try.prog 67 #[.agg #[i6 x.Gauging,.bool x.Up],pq b_] w (fun e w => e = .returned (.bool res) ∧ Ctx G (.box b_ [.func (.func 50) #[] #[pq b__1]] 118::.box b__1 [.slice x_1_Rating_p x_1.Rating.length x_1_Rating_c,.slice x_1_Gaugings_p x_1.Gaugings.length x_1_Gaugings_c] 29::Lf) w) := by
 unfold shift_every_shift_Turn_1 at hF
 refine fnIn Try.func67 rfl Try.ntmps67 rfl fun a hf => zS fun K h => zB hf hc rfl fun b_1 a w hf hc => sp 1 hf rfl fun a hf => zT h ?_
 refine zS fun K h => zL hf hc sc_118 m1 rfl fun a w hf hc => zN hf hc ag_94 m0 rfl fun a w hf hc => zQ (v := .bool (shift_Proves_1 (⟨x.Gauging,x.Up⟩ : shift_Turn) x_1)) hf hc en_50 rfl (fun w hc => (shift_Proves_1_ok (⟨x.Gauging,x.Up⟩ : shift_Turn) x_1 h_x_1_Rating h_x_1_Gaugings (hc.pick k2) rfl).mono fun e w h => ⟨h.1,(h.2.unpick k2)⟩) fun a w hf hc => sp 2 hf rfl fun a hf => zT h ?_
 refine wp_ret ?_
 obtain rfl := hF
 replace hc := hc.drop k0
 exact zO1 Try.results67 hf rfl ⟨rfl,hc⟩

def slices_IndexFunc_Lshift_Turn_shift_Turn_b4 (N : Nat) (s_ : List shift_Turn) (f_ : shift_Record) (x : Int) : Option (Step (Int) (Int)) :=
 cond (decide (x < ((s_.length : Nat) : Int)))
 (Option.bind (getI s_ x) fun e_1 =>
 cond (shift_every_shift_Turn_1 e_1 f_)
 (some (.ret x))
 (some (.cont (W (x + 1)))))
 (some (.brk x))
def slices_IndexFunc_Lshift_Turn_shift_Turn (N : Nat) (s_ : List shift_Turn) (f_ : shift_Record) : Option (Int) :=
 Option.bind (loopO (fun s4 => slices_IndexFunc_Lshift_Turn_shift_Turn_b4 N s_ f_ s4) N 0) fun x4 =>
 exK x4 (fun s4 => some (-1)) some
theorem slices_IndexFunc_Lshift_Turn_shift_Turn_ok {N : Nat} {G : Pers} {Lf : List Ent} {w : World} (s_ : List shift_Turn) (f_ : shift_Record) {s__p : Option Addr} {s__c : Nat} {b_ : Nat} {b__1 : Nat} {f__Rating_p : Option Addr} {f__Rating_c : Nat} {f__Gaugings_p : Option Addr} {f__Gaugings_c : Nat} (h_s_ : Rd G 2 s__p s__c (s_.map enc_shift_Turn)) (h_f__Rating : Rd G 2 f__Rating_p f__Rating_c (f_.Rating.map enc_shift_Mark)) (h_f__Gaugings : Rd G 4 f__Gaugings_p f__Gaugings_c (f_.Gaugings.map enc_shift_Gauging)) (hc : Ctx G (.box b_ [.func (.func 50) #[] #[pq b__1]] 118::.box b__1 [.slice f__Rating_p f_.Rating.length f__Rating_c,.slice f__Gaugings_p f_.Gaugings.length f__Gaugings_c] 29::Lf) w) {res : Int} (hF : slices_IndexFunc_Lshift_Turn_shift_Turn N s_ f_ = some res) : Calls Try.prog 82 #[.slice s__p s_.length s__c,.func (.func 67) #[] #[pq b_]] w (fun e w => e = .returned (i6 res) ∧ Ctx G (.box b_ [.func (.func 50) #[] #[pq b__1]] 118::.box b__1 [.slice f__Rating_p f_.Rating.length f__Rating_c,.slice f__Gaugings_p f_.Gaugings.length f__Gaugings_c] 29::Lf) w) := by
 unfold slices_IndexFunc_Lshift_Turn_shift_Turn at hF
 refine fnIn Try.func82 rfl Try.ntmps82 rfl fun a hf => zS fun K h => sp 1 hf rfl fun a hf => zT h ?_
 refine wp_seq_k fun K2 h2 => zS fun K h => sp 1 hf rfl fun a hf => zP hf rfl (pLenS Try.underlying95 rfl) fun a hf => sp 1 hf rfl fun a hf => zT h ?_
 refine wp_block ?_
 obtain ⟨x4,hx4,hF⟩ := bnd_some hF
 let S4 : Int → Act → World → Prop := (fun (zz : Int) a w => Has 19 a [(0,.slice s__p s_.length s__c),(1,.func (.func 67) #[] #[pq b_]),(7,i6 ((s_.length : Nat) : Int)),(8,i6 zz)] ∧ Ctx G (.box b_ [.func (.func 50) #[] #[pq b__1]] 118::.box b__1 [.slice f__Rating_p f_.Rating.length f__Rating_c,.slice f__Gaugings_p f_.Gaugings.length f__Gaugings_c] 29::Lf) w)
 have hr4 : ∀ (zz : Int) a w,x4 = .go zz → S4 zz a w → K2 a w := by
  rintro x a w rfl ⟨hf,hc⟩
  replace hF := exK_go hF
  refine h2 _ _ ?_
  refine zS fun K h => sp 1 hf rfl fun a hf => zT h ?_
  refine wp_ret ?_
  obtain rfl := sj hF
  exact zO1 Try.results82 hf rfl ⟨rfl,hc⟩
 have ho4 : ∀ r,x4 = .out r → r = res := by
  rintro r rfl
  exact sj hF
 refine cLoop N (loopW (S := S4) (x := x4) ?_ N 0 _ _ ⟨hf.kp rfl,hc⟩ hx4)
 clear hF hf hc
 rintro x st4 a w KB4 ⟨hf,hc⟩ hF hfin4 hK4
 unfold slices_IndexFunc_Lshift_Turn_shift_Turn_b4 at hF
 refine zS fun K h => sp 1 hf rfl fun a hf => zT h ?_
 refine wp_seq_k fun K7 h7 => zI hf rfl hF ?_ ?_ <;> clear hF <;> intro hF
 ·refine wp_skip ?_
  refine h7 _ _ ?_
  refine wp_seq_k fun K8 h8 => wp_block ?_
  refine zS fun K h => sp 2 hf rfl fun a hf => zT h ?_
  refine zS fun K h => sp 3 hf rfl fun a hf => ?_
  obtain ⟨e_1,he_1,hF⟩ := bnd_some hF
  obtain ⟨b_1,o,qa,qp⟩ := h_s_.atm he_1
  refine zP hf rfl (pIA Try.underlying95 sz_94 rfl rfl qa) fun a hf => zE hf hc rfl (eLdN (vs := [i6 e_1.Gauging,.bool e_1.Up]) ag_94 rfl rfl (cells_pc qp (n := 2) (o' := 0) rfl)) fun a w hf hc => zQ (v := .bool (shift_every_shift_Turn_1 e_1 f_)) hf hc en_67 rfl (fun w hc => (shift_every_shift_Turn_1_ok e_1 f_ h_f__Rating h_f__Gaugings ((hc.pick k1).pick k1) rfl).mono fun e w h => ⟨h.1,((h.2.unpick k1).unpick k1)⟩) fun a w hf hc => zT h ?_
  refine zI hf rfl hF ?_ ?_ <;> clear hF <;> intro hF
  ·refine zS fun K h => sp 2 hf rfl fun a hf => zT h ?_
   refine wp_ret ?_
   refine xBlkR ?_
   refine xThenR ?_
   refine xThenR ?_
   have he := sj hF
   rw [← he] at hfin4
   replace hF := ho4 _ hfin4
   refine xBlkR ?_
   refine xThenR ?_
   obtain rfl := hF
   exact zO1 Try.results82 hf rfl ⟨rfl,hc⟩
  ·refine wp_skip ?_
   refine h8 _ _ ?_
   refine cReg ?_
   refine sp 2 hf rfl fun a hf => cNil ?_
   exact hK4 (W (x + 1)) _ _ (sj hF).symm ⟨hf.kp rfl,hc⟩
 ·refine wp_exit ?_
  refine xThen ?_
  refine xThen ?_
  have he := sj hF
  rw [← he] at hfin4
  refine cHit ?_
  exact hr4 _ _ _ hfin4 ⟨hf.kp rfl,hc⟩

def slices_ContainsFunc_Lshift_Turn_shift_Turn (N : Nat) (s_ : List shift_Turn) (f_ : shift_Record) : Option (Bool) :=
 Option.bind (slices_IndexFunc_Lshift_Turn_shift_Turn N s_ f_) fun r =>
 some (decide (0 ≤ r))
theorem slices_ContainsFunc_Lshift_Turn_shift_Turn_ok {N : Nat} {G : Pers} {Lf : List Ent} {w : World} (s_ : List shift_Turn) (f_ : shift_Record) {s__p : Option Addr} {s__c : Nat} {b_ : Nat} {b__1 : Nat} {f__Rating_p : Option Addr} {f__Rating_c : Nat} {f__Gaugings_p : Option Addr} {f__Gaugings_c : Nat} (h_s_ : Rd G 2 s__p s__c (s_.map enc_shift_Turn)) (h_f__Rating : Rd G 2 f__Rating_p f__Rating_c (f_.Rating.map enc_shift_Mark)) (h_f__Gaugings : Rd G 4 f__Gaugings_p f__Gaugings_c (f_.Gaugings.map enc_shift_Gauging)) (hc : Ctx G (.box b_ [.func (.func 50) #[] #[pq b__1]] 118::.box b__1 [.slice f__Rating_p f_.Rating.length f__Rating_c,.slice f__Gaugings_p f_.Gaugings.length f__Gaugings_c] 29::Lf) w) {res : Bool} (hF : slices_ContainsFunc_Lshift_Turn_shift_Turn N s_ f_ = some res) : Calls Try.prog 66 #[.slice s__p s_.length s__c,.func (.func 67) #[] #[pq b_]] w (fun e w => e = .returned (.bool res) ∧ Ctx G (.box b_ [.func (.func 50) #[] #[pq b__1]] 118::.box b__1 [.slice f__Rating_p f_.Rating.length f__Rating_c,.slice f__Gaugings_p f_.Gaugings.length f__Gaugings_c] 29::Lf) w) := by
 unfold slices_ContainsFunc_Lshift_Turn_shift_Turn at hF
 refine fnIn Try.func66 rfl Try.ntmps66 rfl fun a hf => zS fun K h => sp 1 hf rfl fun a hf => zT h ?_
 refine zS fun K h => sp 2 hf rfl fun a hf => ?_
 obtain ⟨r,hr,hF⟩ := bnd_some hF
 refine zQ (v := i6 r) hf hc en_82 rfl (fun w hc => (slices_IndexFunc_Lshift_Turn_shift_Turn_ok s_ f_ h_s_ h_f__Rating h_f__Gaugings ((hc.pick k1).pick k1) hr).mono fun e w h => ⟨h.1,((h.2.unpick k1).unpick k1)⟩) fun a w hf hc => sp 2 hf rfl fun a hf => zT h ?_
 refine wp_ret ?_
 obtain rfl := sj hF
 exact zO1 Try.results66 hf rfl ⟨rfl,hc⟩

def shift_every_shift_Turn (N : Nat) (l : List shift_Turn) (so : shift_Record) : Option (Bool) :=
 Option.bind (slices_ContainsFunc_Lshift_Turn_shift_Turn N l so) fun r =>
 some (!r)
theorem shift_every_shift_Turn_ok {N : Nat} {G : Pers} {Lf : List Ent} {w : World} (l : List shift_Turn) (so : shift_Record) {l_p : Option Addr} {l_c : Nat} {b_ : Nat} {so_Rating_p : Option Addr} {so_Rating_c : Nat} {so_Gaugings_p : Option Addr} {so_Gaugings_c : Nat} (h_l : Rd G 2 l_p l_c (l.map enc_shift_Turn)) (h_so_Rating : Rd G 2 so_Rating_p so_Rating_c (so.Rating.map enc_shift_Mark)) (h_so_Gaugings : Rd G 4 so_Gaugings_p so_Gaugings_c (so.Gaugings.map enc_shift_Gauging)) (hc : Ctx G (.box b_ [.slice so_Rating_p so.Rating.length so_Rating_c,.slice so_Gaugings_p so.Gaugings.length so_Gaugings_c] 29::Lf) w) {res : Bool} (hF : shift_every_shift_Turn N l so = some res) : Calls Try.prog 49 #[.slice l_p l.length l_c,.func (.func 50) #[] #[pq b_]] w (fun e w => e = .returned (.bool res) ∧ Ctx G (.box b_ [.slice so_Rating_p so.Rating.length so_Rating_c,.slice so_Gaugings_p so.Gaugings.length so_Gaugings_c] 29::Lf) w) := by
 unfold shift_every_shift_Turn at hF
 refine fnIn Try.func49 rfl Try.ntmps49 rfl fun a hf => zS fun K h => zB hf hc rfl fun b_1 a w hf hc => sp 1 hf rfl fun a hf => zT h ?_
 refine zS fun K h => sp 1 hf rfl fun a hf => zP hf rfl (pMF (us := [pq b_1]) rfl rfl) fun a hf => ?_
 obtain ⟨r,hr,hF⟩ := bnd_some hF
 refine zQ (v := .bool r) hf hc en_66 rfl (fun w hc => (slices_ContainsFunc_Lshift_Turn_shift_Turn_ok l so h_l h_so_Rating h_so_Gaugings ((hc.pick k1).pick k1) hr).mono fun e w h => ⟨h.1,((h.2.unpick k1).unpick k1)⟩) fun a w hf hc => sp 2 hf rfl fun a hf => zT h ?_
 refine wp_ret ?_
 obtain rfl := sj hF
 replace hc := hc.drop k0
 exact zO1 Try.results49 hf rfl ⟨rfl,hc⟩

def shift_Turn_ends (t_ : shift_Turn) : Bool :=
 cond t_.Up
 (true)
 (false)
theorem shift_Turn_ends_ok {G : Pers} {Lf : List Ent} {w : World} (t_ : shift_Turn)   (hc : Ctx G (Lf) w) {res : Bool} (hF : shift_Turn_ends t_ = res) : Calls Try.prog 51 #[.agg #[i6 t_.Gauging,.bool t_.Up]] w (fun e w => e = .returned (.agg #[(bif res then .func (.func 68) #[] #[] else .func (.func 69) #[] #[])]) ∧ Ctx G (Lf) w) := by
 unfold shift_Turn_ends at hF
 refine fnIn Try.func51 rfl Try.ntmps51 rfl fun a hf => zS fun K h => zB hf hc rfl fun b_1 a w hf hc => zA hf hc zr_121 rfl fun b_2 a w hf hc => zT h ?_
 refine wp_seq_k fun K2 h2 => zS fun K h => zP hf rfl (pFA fa_94_1 rfl) fun a hf => zL hf hc sc_4 m1 rfl fun a w hf hc => zT h ?_
 refine zI hf rfl hF ?_ ?_ <;> clear hF <;> intro hF
 ·refine zS fun K h => zP hf rfl (pBuildS (cells := [.func (.func 68) #[] #[]]) bt_121 rfl rfl) fun a hf => zW hf hc sz_121 u0 rfl fun w hc => zT h ?_
  refine wp_ret ?_
  refine xThenR ?_
  obtain rfl := hF
  replace hc := hc.drop k1
  exact fnOut1 (by simp) rfl Try.results51 hf hc (rv_cellN (vs := [.func (.func 68) #[] #[]]) ag_121 rfl rfl (cells_box (n := 1) m0 rfl)) ⟨rfl,(hc.drop k0)⟩
 ·refine wp_skip ?_
  refine h2 _ _ ?_
  refine zS fun K h => zP hf rfl (pBuildS (cells := [.func (.func 69) #[] #[]]) bt_121 rfl rfl) fun a hf => zW hf hc sz_121 u0 rfl fun w hc => zT h ?_
  refine wp_ret ?_
  obtain rfl := hF
  replace hc := hc.drop k1
  exact fnOut1 (by simp) rfl Try.results51 hf hc (rv_cellN (vs := [.func (.func 69) #[] #[]]) ag_121 rfl rfl (cells_box (n := 1) m0 rfl)) ⟨rfl,(hc.drop k0)⟩

def shift_Turn_ends_1 (s_ : api_Span) : Int :=
 s_.Hi
theorem shift_Turn_ends_1_ok {G : Pers} {Lf : List Ent} {w : World} (s_ : api_Span)   (hc : Ctx G (Lf) w) {res : Int} (hF : shift_Turn_ends_1 s_ = res) : Calls Try.prog 68 #[.agg #[i6 s_.Lo,i6 s_.Hi]] w (fun e w => e = .returned (i6 res) ∧ Ctx G (Lf) w) := by
 unfold shift_Turn_ends_1 at hF
 refine fnIn Try.func68 rfl Try.ntmps68 rfl fun a hf => zS fun K h => zB hf hc rfl fun b_1 a w hf hc => sp 1 hf rfl fun a hf => zT h ?_
 refine zS fun K h => zP hf rfl (pFA fa_38_1 rfl) fun a hf => zL hf hc sc_3 m0 rfl fun a w hf hc => sp 1 hf rfl fun a hf => zT h ?_
 refine wp_ret ?_
 obtain rfl := hF
 replace hc := hc.drop k0
 exact zO1 Try.results68 hf rfl ⟨rfl,hc⟩

def shift_Turn_ends_2 (s_ : api_Span) : Int :=
 s_.Lo
theorem shift_Turn_ends_2_ok {G : Pers} {Lf : List Ent} {w : World} (s_ : api_Span)   (hc : Ctx G (Lf) w) {res : Int} (hF : shift_Turn_ends_2 s_ = res) : Calls Try.prog 69 #[.agg #[i6 s_.Lo,i6 s_.Hi]] w (fun e w => e = .returned (i6 res) ∧ Ctx G (Lf) w) := by
 unfold shift_Turn_ends_2 at hF
 refine fnIn Try.func69 rfl Try.ntmps69 rfl fun a hf => zS fun K h => zB hf hc rfl fun b_1 a w hf hc => sp 1 hf rfl fun a hf => zT h ?_
 refine zS fun K h => zP hf rfl (pFA fa_38_0 rfl) fun a hf => zL hf hc sc_3 m0 rfl fun a w hf hc => sp 1 hf rfl fun a hf => zT h ?_
 refine wp_ret ?_
 obtain rfl := hF
 replace hc := hc.drop k0
 exact zO1 Try.results69 hf rfl ⟨rfl,hc⟩

def shift_Proves_j15 (N : Nat) (x : Int) : Option (Step (Int) (Int × Int)) :=
 some (.cont (W (x + 1)))
def shift_Proves_b11 (N : Nat) (l : List shift_Turn) (x : Int) : Option (Step (Int) (Int × Int)) :=
 cond (decide (x < ((l.length : Nat) : Int)))
 (Option.bind (getI l x) fun e_1 =>
 cond (x == 0)
 (shift_Proves_j15 N x)
 (Option.bind (getI l (W (x - 1))) fun e_2 =>
 cond ((decide (e_1.Gauging ≤ e_2.Gauging)) || (e_1.Up == e_2.Up))
 (some (.ret (0,9)))
 (none)))
 (some (.brk x))
def shift_Proves_j36 (N : Nat) (x_1 : Int) (sum_1 : Int) : Option (Step (Int × Int) (Int × Int)) :=
 some (.cont (sum_1,W (x_1 + 1)))
def shift_Proves_b32 (N : Nat) (l : List shift_Turn) (r_2 : (List api_Span) × Int) (sum : Int) (x_1 : Int) : Option (Step (Int × Int) (Int × Int)) :=
 cond (decide (x_1 < ((l.length : Nat) : Int)))
 (Option.bind (getI l x_1) fun e_3 =>
 cond (x_1 == 0)
 (shift_Proves_j36 N x_1 sum)
 (Option.bind (getI l (W (x_1 - 1))) fun e_4 =>
 cond ((decide (e_3.Gauging ≤ e_4.Gauging)) || (e_3.Up == e_4.Up))
 (some (.ret (0,9)))
 (Option.bind (getI r_2.1 e_4.Gauging) fun e_5 =>
 Option.bind (getI r_2.1 e_3.Gauging) fun e_6 =>
 cond e_3.Up
 (shift_Proves_j36 N x_1 (W (sum + (W ((bif (shift_Turn_ends e_4) then (shift_Turn_ends_1 e_5) else (shift_Turn_ends_2 e_5)) - (bif (shift_Turn_ends e_3) then (shift_Turn_ends_1 e_6) else (shift_Turn_ends_2 e_6)))))))
 (shift_Proves_j36 N x_1 (W (sum + (W ((bif (shift_Turn_ends e_3) then (shift_Turn_ends_1 e_6) else (shift_Turn_ends_2 e_6)) - (bif (shift_Turn_ends e_4) then (shift_Turn_ends_1 e_5) else (shift_Turn_ends_2 e_5))))))))))
 (some (.brk (sum,x_1)))
def shift_Proves (N : Nat) (r : shift_Record) (l : List shift_Turn) : Option (Int × Int) :=
 Option.bind (shift_opened N r) (sumK (fun r_0 => cond (r_0 != 0)
 (some (0,r_0))
 (Option.bind (shift_every_shift_Turn N l r) fun r_1 =>
 cond (!r_1)
 (some (0,2))
 (Option.bind (loopO (fun s11 => shift_Proves_b11 N l s11) N 0) fun x11 =>
 exK x11 (fun s11 => some (0,0)) some)))
 (fun r_2 => cond (r_2.2 != 0)
 (some (0,r_2.2))
 (Option.bind (shift_every_shift_Turn N l r) fun r_3 =>
 cond (!r_3)
 (some (0,2))
 (Option.bind (loopO (fun s32 => shift_Proves_b32 N l r_2 s32.1 s32.2) N (0,0)) fun x32 =>
 exK x32 (fun s32 => some (s32.1,0)) some))))
theorem shift_Proves_ok {N : Nat} {G : Pers} {Lf : List Ent} {w : World} (r : shift_Record) (l : List shift_Turn) {r_Rating_p : Option Addr} {r_Rating_c : Nat} {r_Gaugings_p : Option Addr} {r_Gaugings_c : Nat} {l_p : Option Addr} {l_c : Nat} (h_r_Rating : Rd G 2 r_Rating_p r_Rating_c (r.Rating.map enc_shift_Mark)) (h_r_Gaugings : Rd G 4 r_Gaugings_p r_Gaugings_c (r.Gaugings.map enc_shift_Gauging)) (h_l : Rd G 2 l_p l_c (l.map enc_shift_Turn)) (hc : Ctx G (Lf) w) {res : Int × Int} (hF : shift_Proves N r l = some res) : Calls Try.prog 25 #[.agg #[.slice r_Rating_p r.Rating.length r_Rating_c,.slice r_Gaugings_p r.Gaugings.length r_Gaugings_c],.slice l_p l.length l_c] w (fun e w => e = .returned (.tuple #[i6 res.1,i6 res.2]) ∧ Ctx G (Lf) w) := by
 unfold shift_Proves at hF
 refine fnIn Try.func25 rfl Try.ntmps25 rfl fun a hf => zS fun K h => zB hf hc rfl fun b_1 a w hf hc => sp 2 hf rfl fun a hf => zT h ?_
 refine zS fun K h => zN hf hc ag_29 m0 rfl fun a w hf hc => ?_
 obtain ⟨r_0,hr_0,hF⟩ := bnd_some hF
 cases r_0 with
 | inl r_0 =>
  replace hF := sumKl hF
  refine zC hf en_18 rfl (shift_opened_ok r h_r_Rating h_r_Gaugings hc hr_0) ?_
  rintro _ w ⟨rfl,hc⟩
  refine ⟨_,rfl,fun a hf => ?_⟩
  refine sp 5 hf rfl fun a hf => zT h ?_
  refine wp_seq_k fun K3 h3 => wp_block ?_
  refine zS fun K h => sp 3 hf rfl fun a hf => zT h ?_
  refine zI hf rfl hF ?_ ?_ <;> clear hF <;> intro hF
  ·refine zS fun K h => sp 3 hf rfl fun a hf => zT h ?_
   refine wp_ret ?_
   refine xBlkR ?_
   refine xThenR ?_
   obtain rfl := sj hF
   replace hc := hc.drop k0
   exact zO2 Try.results25 hf rfl rfl ⟨rfl,hc⟩
  ·refine zS fun K h => sp 1 hf rfl fun a hf => zP hf rfl (pMF (us := [pq b_1]) rfl rfl) fun a hf => ?_
   obtain ⟨r_1,hr_1,hF⟩ := bnd_some hF
   refine zQ (v := .bool r_1) hf hc en_49 rfl (fun w hc => (shift_every_shift_Turn_ok l r h_l h_r_Rating h_r_Gaugings (hc.pick k0) hr_1).mono fun e w h => ⟨h.1,(h.2.unpick k0)⟩) fun a w hf hc => sp 2 hf rfl fun a hf => zT h ?_
   refine zI hf rfl hF ?_ ?_ <;> clear hF <;> intro hF
   ·refine zS fun K h => sp 2 hf rfl fun a hf => zT h ?_
    refine wp_ret ?_
    refine xBlkR ?_
    refine xThenR ?_
    obtain rfl := sj hF
    replace hc := hc.drop k0
    exact zO2 Try.results25 hf rfl rfl ⟨rfl,hc⟩
   ·refine wp_skip ?_
    refine h3 _ _ ?_
    refine zS fun K h => sp 1 hf rfl fun a hf => zT h ?_
    refine wp_seq_k fun K9 h9 => zS fun K h => sp 1 hf rfl fun a hf => zP hf rfl (pLenS Try.underlying95 rfl) fun a hf => sp 1 hf rfl fun a hf => zT h ?_
    refine wp_block ?_
    obtain ⟨x11,hx11,hF⟩ := bnd_some hF
    let S11 : Int → Act → World → Prop := (fun (zz : Int) a w => Has 92 a [(1,.slice l_p l.length l_c),(6,.pointer none),(8,i6 0),(28,.slice l_p l.length l_c),(29,i6 ((l.length : Nat) : Int)),(30,i6 zz)] ∧ Ctx G (Lf) w)
    have hr11 : ∀ (zz : Int) a w,x11 = .go zz → S11 zz a w → K9 a w := by
     rintro x a w rfl ⟨hf,hc⟩
     replace hF := exK_go hF
     refine h9 _ _ ?_
     refine zS fun K h => sp 3 hf rfl fun a hf => zT h ?_
     refine wp_ret ?_
     obtain rfl := sj hF
     exact zO2 Try.results25 hf rfl rfl ⟨rfl,hc⟩
    have ho11 : ∀ r,x11 = .out r → r = res := by
     rintro r rfl
     exact sj hF
    replace hc := hc.drop k0
    refine cLoop N (loopW (S := S11) (x := x11) ?_ N 0 _ _ ⟨hf.kp rfl,hc⟩ hx11)
    clear hF hf hc
    rintro x st11 a w KB11 ⟨hf,hc⟩ hF hfin11 hK11
    unfold shift_Proves_b11 at hF
    refine zS fun K h => sp 1 hf rfl fun a hf => zT h ?_
    refine wp_seq_k fun K14 h14 => zI hf rfl hF ?_ ?_ <;> clear hF <;> intro hF
    ·refine wp_skip ?_
     refine h14 _ _ ?_
     refine wp_seq_k fun K15 h15 => ?_
     have hj15 : ∀ a w,Has 92 a [(1,.slice l_p l.length l_c),(6,.pointer none),(8,i6 0),(28,.slice l_p l.length l_c),(29,i6 ((l.length : Nat) : Int)),(30,i6 x)] → Ctx G (Lf) w → shift_Proves_j15 N x = some st11 → K15 a w := by
      repeat (clear hF)
      repeat (clear hc)
      repeat (clear hf)
      intro a w hf hc hF
      unfold shift_Proves_j15 at hF
      refine h15 _ _ ?_
      refine cReg ?_
      refine sp 2 hf rfl fun a hf => cNil ?_
      exact hK11 (W (x + 1)) _ _ (sj hF).symm ⟨hf.kp rfl,hc⟩
     refine wp_block ?_
     refine zS fun K h => sp 1 hf rfl fun a hf => ?_
     obtain ⟨e_1,he_1,hF⟩ := bnd_some hF
     obtain ⟨b_2,o,qa,qp⟩ := h_l.atm he_1
     refine zP hf rfl (pIA Try.underlying95 sz_94 rfl rfl qa) fun a hf => zE hf hc rfl (eLdN (vs := [i6 e_1.Gauging,.bool e_1.Up]) ag_94 rfl rfl (cells_pc qp (n := 2) (o' := 0) rfl)) fun a w hf hc => zA hf hc zr_94 rfl fun b_3 a w hf hc => sp 1 hf rfl fun a hf => zW hf hc sz_94 u0 rfl fun w hc => zT h ?_
     refine wp_seq_k fun K17 h17 => zS fun K h => sp 2 hf rfl fun a hf => zT h ?_
     refine zI hf rfl hF ?_ ?_ <;> clear hF <;> intro hF
     ·refine wp_exit ?_
      refine xThen ?_
      refine cHit ?_
      replace hc := hc.drop k0
      exact hj15  _ _  (hf.kp rfl) hc hF
     ·refine wp_skip ?_
      refine h17 _ _ ?_
      refine zS fun K h => sp 3 hf rfl fun a hf => ?_
      obtain ⟨e_2,he_2,hF⟩ := bnd_some hF
      obtain ⟨b_4,o_1,qa_1,qp_1⟩ := h_l.atm he_2
      refine zP hf rfl (pIA Try.underlying95 sz_94 rfl rfl qa_1) fun a hf => zE hf hc rfl (eLdN (vs := [i6 e_2.Gauging,.bool e_2.Up]) ag_94 rfl rfl (cells_pc qp_1 (n := 2) (o' := 0) rfl)) fun a w hf hc => zA hf hc zr_94 rfl fun b_5 a w hf hc => zW hf hc sz_94 u0 rfl fun w hc => zT h ?_
      refine wp_seq_k fun K20 h20 => zS fun K h => zP hf rfl (pFA fa_94_0 rfl) fun a hf => zL hf hc sc_3 m1 rfl fun a w hf hc => zP hf rfl (pFA fa_94_0 rfl) fun a hf => zL hf hc sc_3 m0 rfl fun a w hf hc => sp 2 hf rfl fun a hf => stCc 6 (fun a => Has 92 a [(1,.slice l_p l.length l_c),(6,.pointer none),(8,i6 0),(28,.slice l_p l.length l_c),(29,i6 ((l.length : Nat) : Int)),(30,i6 x),(10,pq b_3),(11,pq b_5),(42,pq b_3),(43,i6 e_1.Gauging),(44,pq b_5),(45,i6 e_2.Gauging),(46,.bool (decide (e_1.Gauging ≤ e_2.Gauging))),(47,.bool (decide (e_1.Gauging ≤ e_2.Gauging))),(53,.bool ((decide (e_1.Gauging ≤ e_2.Gauging)) || (e_1.Up == e_2.Up)))]) hc ?_ ?_
      ·cases hb : (decide (e_1.Gauging ≤ e_2.Gauging))
       ·rw [hb] at hf
        refine zP hf rfl (pFA fa_94_1 rfl) fun a hf => zL hf hc sc_4 m1 rfl fun a w hf hc => zP hf rfl (pFA fa_94_1 rfl) fun a hf => zL hf hc sc_4 m0 rfl fun a w hf hc => zP hf rfl (pEqB Try.underlying4 rfl rfl) fun a hf => sp 1 hf rfl fun a hf => cNil ⟨hf.kp rfl,hc⟩
       ·rw [hb] at hf
        refine stS hf rfl rfl rfl fun a hf => stS hf rfl rfl rfl fun a hf => stS hf rfl rfl rfl fun a hf => stS hf rfl rfl rfl fun a hf => stS hf rfl rfl rfl fun a hf => sp 1 hf rfl fun a hf => cNil ⟨hf.kp rfl,hc⟩
      intro a w ⟨hf,hc⟩
      refine zT h ?_
      refine zI hf rfl hF ?_ ?_ <;> clear hF <;> intro hF
      ·refine zS fun K h => sp 2 hf rfl fun a hf => zT h ?_
       refine wp_ret ?_
       refine xThenR ?_
       refine xBlkR ?_
       refine xThenR ?_
       refine xThenR ?_
       have he := sj hF
       rw [← he] at hfin11
       replace hF := ho11 _ hfin11
       refine xBlkR ?_
       refine xThenR ?_
       obtain rfl := hF
       replace hc := (hc.drop k1).drop k0
       exact zO2 Try.results25 hf rfl rfl ⟨rfl,hc⟩
      ·refine wp_skip ?_
       refine h20 _ _ ?_
       refine wp_seq_k fun K23 h23 => noneO hF
    ·refine wp_exit ?_
     refine xThen ?_
     refine xThen ?_
     have he := sj hF
     rw [← he] at hfin11
     refine cHit ?_
     exact hr11 _ _ _ hfin11 ⟨hf.kp rfl,hc⟩
 | inr r_2 =>
  replace hF := sumKr hF
  have hr_2 := hr_0
  refine zC hf en_18 rfl (shift_opened_ok r h_r_Rating h_r_Gaugings hc hr_2) ?_
  rintro _ w ⟨b_6,p_1,c_1,rfl,hc⟩
  refine ⟨_,rfl,fun a hf => ?_⟩
  refine sp 5 hf rfl fun a hf => zT h ?_
  refine wp_seq_k fun K24 h24 => wp_block ?_
  refine zS fun K h => sp 3 hf rfl fun a hf => zT h ?_
  refine zI hf rfl hF ?_ ?_ <;> clear hF <;> intro hF
  ·refine zS fun K h => sp 3 hf rfl fun a hf => zT h ?_
   refine wp_ret ?_
   refine xBlkR ?_
   refine xThenR ?_
   obtain rfl := sj hF
   replace hc := ((hc.drop k2).drop k1).drop k0
   exact zO2 Try.results25 hf rfl rfl ⟨rfl,hc⟩
  ·refine zS fun K h => sp 1 hf rfl fun a hf => zP hf rfl (pMF (us := [pq b_1]) rfl rfl) fun a hf => ?_
   obtain ⟨r_3,hr_3,hF⟩ := bnd_some hF
   refine zQ (v := .bool r_3) hf hc en_49 rfl (fun w hc => (shift_every_shift_Turn_ok l r h_l h_r_Rating h_r_Gaugings (hc.pick k2) hr_3).mono fun e w h => ⟨h.1,(h.2.unpick k2)⟩) fun a w hf hc => sp 2 hf rfl fun a hf => zT h ?_
   refine zI hf rfl hF ?_ ?_ <;> clear hF <;> intro hF
   ·refine zS fun K h => sp 2 hf rfl fun a hf => zT h ?_
    refine wp_ret ?_
    refine xBlkR ?_
    refine xThenR ?_
    obtain rfl := sj hF
    replace hc := ((hc.drop k2).drop k1).drop k0
    exact zO2 Try.results25 hf rfl rfl ⟨rfl,hc⟩
   ·refine wp_skip ?_
    refine h24 _ _ ?_
    refine zS fun K h => sp 1 hf rfl fun a hf => zT h ?_
    refine wp_seq_k fun K30 h30 => zS fun K h => sp 1 hf rfl fun a hf => zP hf rfl (pLenS Try.underlying95 rfl) fun a hf => sp 1 hf rfl fun a hf => zT h ?_
    refine wp_block ?_
    obtain ⟨x32,hx32,hF⟩ := bnd_some hF
    let S32 : (Int × Int) → Act → World → Prop := (fun (zz : Int × Int) a w => ∃ (p_2 : Option Addr) (c_2 : Nat),Has 92 a [(1,.slice l_p l.length l_c),(6,pq b_6),(8,i6 zz.1),(28,.slice l_p l.length l_c),(29,i6 ((l.length : Nat) : Int)),(30,i6 zz.2)] ∧ Ctx G (.row p_2 c_2 (r_2.1.map enc_api_Span) 38 2::.box b_6 [.slice r_Rating_p r.Rating.length r_Rating_c,.slice r_Gaugings_p r.Gaugings.length r_Gaugings_c,.slice p_2 r_2.1.length c_2] 80::Lf) w)
    have hr32 : ∀ (zz : Int × Int) a w,x32 = .go zz → S32 zz a w → K30 a w := by
     rintro ⟨sum,x_1⟩ a w rfl ⟨p_2,c_2,hf,hc⟩
     replace hF := exK_go hF
     refine h30 _ _ ?_
     refine zS fun K h => sp 3 hf rfl fun a hf => zT h ?_
     refine wp_ret ?_
     obtain rfl := sj hF
     replace hc := (hc.drop k1).drop k0
     exact zO2 Try.results25 hf rfl rfl ⟨rfl,hc⟩
    have ho32 : ∀ r,x32 = .out r → r = res := by
     rintro r rfl
     exact sj hF
    replace hc := hc.drop k2
    refine cLoop N (loopW (S := S32) (x := x32) ?_ N (0,0) _ _ ⟨p_1,c_1,hf.kp rfl,hc⟩ hx32)
    clear hF hf hc
    rintro ⟨sum,x_1⟩ st32 a w KB32 ⟨p_2,c_2,hf,hc⟩ hF hfin32 hK32
    unfold shift_Proves_b32 at hF
    refine zS fun K h => sp 1 hf rfl fun a hf => zT h ?_
    refine wp_seq_k fun K35 h35 => zI hf rfl hF ?_ ?_ <;> clear hF <;> intro hF
    ·refine wp_skip ?_
     refine h35 _ _ ?_
     refine wp_seq_k fun K36 h36 => ?_
     have hj36 : ∀ (sum_1 : Int) (p_3 : Option Addr) (c_3 : Nat) a w,Has 92 a [(1,.slice l_p l.length l_c),(6,pq b_6),(8,i6 sum_1),(28,.slice l_p l.length l_c),(29,i6 ((l.length : Nat) : Int)),(30,i6 x_1)] → Ctx G (.row p_3 c_3 (r_2.1.map enc_api_Span) 38 2::.box b_6 [.slice r_Rating_p r.Rating.length r_Rating_c,.slice r_Gaugings_p r.Gaugings.length r_Gaugings_c,.slice p_3 r_2.1.length c_3] 80::Lf) w → shift_Proves_j36 N x_1 sum_1 = some st32 → K36 a w := by
      repeat (clear hF)
      repeat (clear hc)
      repeat (clear hf)
      intro sum_1 p_3 c_3 a w hf hc hF
      unfold shift_Proves_j36 at hF
      refine h36 _ _ ?_
      refine cReg ?_
      refine sp 2 hf rfl fun a hf => cNil ?_
      exact hK32 (sum_1,W (x_1 + 1)) _ _ (sj hF).symm ⟨p_3,c_3,hf.kp rfl,hc⟩
     refine wp_block ?_
     refine zS fun K h => sp 1 hf rfl fun a hf => ?_
     obtain ⟨e_3,he_3,hF⟩ := bnd_some hF
     obtain ⟨b_7,o_2,qa_2,qp_2⟩ := h_l.atm he_3
     refine zP hf rfl (pIA Try.underlying95 sz_94 rfl rfl qa_2) fun a hf => zE hf hc rfl (eLdN (vs := [i6 e_3.Gauging,.bool e_3.Up]) ag_94 rfl rfl (cells_pc qp_2 (n := 2) (o' := 0) rfl)) fun a w hf hc => zA hf hc zr_94 rfl fun b_8 a w hf hc => sp 1 hf rfl fun a hf => zW hf hc sz_94 u0 rfl fun w hc => zT h ?_
     refine wp_seq_k fun K38 h38 => zS fun K h => sp 2 hf rfl fun a hf => zT h ?_
     refine zI hf rfl hF ?_ ?_ <;> clear hF <;> intro hF
     ·refine wp_exit ?_
      refine xThen ?_
      refine cHit ?_
      replace hc := hc.drop k0
      exact hj36 sum p_2 c_2 _ _  (hf.kp rfl) hc hF
     ·refine wp_skip ?_
      refine h38 _ _ ?_
      refine zS fun K h => sp 3 hf rfl fun a hf => ?_
      obtain ⟨e_4,he_4,hF⟩ := bnd_some hF
      obtain ⟨b_9,o_3,qa_3,qp_3⟩ := h_l.atm he_4
      refine zP hf rfl (pIA Try.underlying95 sz_94 rfl rfl qa_3) fun a hf => zE hf hc rfl (eLdN (vs := [i6 e_4.Gauging,.bool e_4.Up]) ag_94 rfl rfl (cells_pc qp_3 (n := 2) (o' := 0) rfl)) fun a w hf hc => zA hf hc zr_94 rfl fun b_10 a w hf hc => zW hf hc sz_94 u0 rfl fun w hc => zT h ?_
      refine wp_seq_k fun K41 h41 => zS fun K h => zP hf rfl (pFA fa_94_0 rfl) fun a hf => zL hf hc sc_3 m1 rfl fun a w hf hc => zP hf rfl (pFA fa_94_0 rfl) fun a hf => zL hf hc sc_3 m0 rfl fun a w hf hc => sp 2 hf rfl fun a hf => stCc 6 (fun a => Has 92 a [(1,.slice l_p l.length l_c),(6,pq b_6),(8,i6 sum),(28,.slice l_p l.length l_c),(29,i6 ((l.length : Nat) : Int)),(30,i6 x_1),(10,pq b_8),(11,pq b_10),(42,pq b_8),(43,i6 e_3.Gauging),(44,pq b_10),(45,i6 e_4.Gauging),(46,.bool (decide (e_3.Gauging ≤ e_4.Gauging))),(47,.bool (decide (e_3.Gauging ≤ e_4.Gauging))),(53,.bool ((decide (e_3.Gauging ≤ e_4.Gauging)) || (e_3.Up == e_4.Up)))]) hc ?_ ?_
      ·cases hb : (decide (e_3.Gauging ≤ e_4.Gauging))
       ·rw [hb] at hf
        refine zP hf rfl (pFA fa_94_1 rfl) fun a hf => zL hf hc sc_4 m1 rfl fun a w hf hc => zP hf rfl (pFA fa_94_1 rfl) fun a hf => zL hf hc sc_4 m0 rfl fun a w hf hc => zP hf rfl (pEqB Try.underlying4 rfl rfl) fun a hf => sp 1 hf rfl fun a hf => cNil ⟨hf.kp rfl,hc⟩
       ·rw [hb] at hf
        refine stS hf rfl rfl rfl fun a hf => stS hf rfl rfl rfl fun a hf => stS hf rfl rfl rfl fun a hf => stS hf rfl rfl rfl fun a hf => stS hf rfl rfl rfl fun a hf => sp 1 hf rfl fun a hf => cNil ⟨hf.kp rfl,hc⟩
      intro a w ⟨hf,hc⟩
      refine zT h ?_
      refine zI hf rfl hF ?_ ?_ <;> clear hF <;> intro hF
      ·refine zS fun K h => sp 2 hf rfl fun a hf => zT h ?_
       refine wp_ret ?_
       refine xThenR ?_
       refine xBlkR ?_
       refine xThenR ?_
       refine xThenR ?_
       have he := sj hF
       rw [← he] at hfin32
       replace hF := ho32 _ hfin32
       refine xBlkR ?_
       refine xThenR ?_
       obtain rfl := hF
       replace hc := (((hc.drop k3).drop k2).drop k1).drop k0
       exact zO2 Try.results25 hf rfl rfl ⟨rfl,hc⟩
      ·refine wp_skip ?_
       refine h41 _ _ ?_
       refine wp_seq_k fun K44 h44 => ?_
       obtain ⟨e_5,he_5,hF⟩ := bnd_some hF
       obtain ⟨g,rfl,qa_4,qr⟩ := row_atm hc m2 he_5
       obtain ⟨e_6,he_6,hF⟩ := bnd_some hF
       obtain ⟨qa_5,qr_1⟩ := row_atk hc m2 he_6
       refine cQ hc follows_mx (by kernel_rfl) ?_
       refine qE hf rfl rfl rfl (eLdN (vs := [i6 e_4.Gauging,.bool e_4.Up]) ag_94 rfl rfl (cells_box (n := 2) m0 rfl)) fun a hf => qE hf rfl rfl rfl (eC (v := .agg #[(bif (shift_Turn_ends e_4) then .func (.func 68) #[] #[] else .func (.func 69) #[] #[])]) (vs := [.agg #[i6 e_4.Gauging,.bool e_4.Up]]) (caps := []) en_51 rfl rfl rfl rfl (fun w hc => shift_Turn_ends_ok e_4 hc rfl)) fun a hf => qE hf rfl rfl rfl (Pu.ev (pField1 Try.underlying121 rfl sc_119 rfl rfl)) fun a hf => qE hf rfl rfl rfl (Pu.ev (pM rfl)) fun a hf => qE hf rfl rfl rfl (Pu.ev (pNC rfl)) fun a hf => qE hf rfl rfl rfl (Pu.ev (pFA fa_80_1 rfl)) fun a hf => qE hf rfl rfl rfl (eLd1 sc_51 rfl (cell_box m3 rfl)) fun a hf => qE hf rfl rfl rfl (Pu.ev (pFA fa_94_0 rfl)) fun a hf => qE hf rfl rfl rfl (eLd1 sc_3 rfl (cell_box m0 rfl)) fun a hf => qE hf rfl rfl rfl (Pu.ev (pIA Try.underlying51 sz_38 rfl rfl qa_4)) fun a hf => qE hf rfl rfl rfl (eLdN (vs := [i6 e_5.Lo,i6 e_5.Hi]) ag_38 rfl rfl (cells_rw (sz := 2) (i := e_4.Gauging.toNat) m2 qr (n := 2) (o' := 0) rfl)) fun a hf => qE hf rfl rfl rfl (eCsel (c := (shift_Turn_ends e_4)) (v := i6 (bif (shift_Turn_ends e_4) then (shift_Turn_ends_1 e_5) else (shift_Turn_ends_2 e_5))) (v1 := i6 (shift_Turn_ends_1 e_5)) (v2 := i6 (shift_Turn_ends_2 e_5)) (vs := [.agg #[i6 e_5.Lo,i6 e_5.Hi]]) en_68 en_69 rfl rfl rfl rfl (fun hb => congrArg (Value.int .i64) (bifT hb)) (fun hb => congrArg (Value.int .i64) (bifF hb)) (fun w hc => shift_Turn_ends_1_ok e_5 hc rfl) (fun w hc => shift_Turn_ends_2_ok e_5 hc rfl)) fun a hf => qE hf rfl rfl rfl (eLdN (vs := [i6 e_3.Gauging,.bool e_3.Up]) ag_94 rfl rfl (cells_box (n := 2) m1 rfl)) fun a hf => ?_
       refine qE hf rfl rfl rfl (eC (v := .agg #[(bif (shift_Turn_ends e_3) then .func (.func 68) #[] #[] else .func (.func 69) #[] #[])]) (vs := [.agg #[i6 e_3.Gauging,.bool e_3.Up]]) (caps := []) en_51 rfl rfl rfl rfl (fun w hc => shift_Turn_ends_ok e_3 hc rfl)) fun a hf => qE hf rfl rfl rfl (Pu.ev (pField1 Try.underlying121 rfl sc_119 rfl rfl)) fun a hf => qE hf rfl rfl rfl (Pu.ev (pM rfl)) fun a hf => qE hf rfl rfl rfl (Pu.ev (pNC rfl)) fun a hf => qE hf rfl rfl rfl (Pu.ev (pFA fa_80_1 rfl)) fun a hf => qE hf rfl rfl rfl (eLd1 sc_51 rfl (cell_box m3 rfl)) fun a hf => qE hf rfl rfl rfl (Pu.ev (pFA fa_94_0 rfl)) fun a hf => qE hf rfl rfl rfl (eLd1 sc_3 rfl (cell_box m1 rfl)) fun a hf => qE hf rfl rfl rfl (Pu.ev (pIA Try.underlying51 sz_38 rfl rfl qa_5)) fun a hf => qE hf rfl rfl rfl (eLdN (vs := [i6 e_6.Lo,i6 e_6.Hi]) ag_38 rfl rfl (cells_rw (sz := 2) (i := e_3.Gauging.toNat) m2 qr_1 (n := 2) (o' := 0) rfl)) fun a hf => qE hf rfl rfl rfl (eCsel (c := (shift_Turn_ends e_3)) (v := i6 (bif (shift_Turn_ends e_3) then (shift_Turn_ends_1 e_6) else (shift_Turn_ends_2 e_6))) (v1 := i6 (shift_Turn_ends_1 e_6)) (v2 := i6 (shift_Turn_ends_2 e_6)) (vs := [.agg #[i6 e_6.Lo,i6 e_6.Hi]]) en_68 en_69 rfl rfl rfl rfl (fun hb => congrArg (Value.int .i64) (bifT hb)) (fun hb => congrArg (Value.int .i64) (bifF hb)) (fun w hc => shift_Turn_ends_1_ok e_6 hc rfl) (fun w hc => shift_Turn_ends_2_ok e_6 hc rfl)) fun a hf => qE hf rfl rfl rfl (Pu.ev (pA rfl)) fun a hf => qE hf rfl rfl rfl (Pu.ev (pA rfl)) fun a hf => ?_
       intro w hc
       refine h44 _ _ ?_
       refine zS fun K h => zP hf rfl (pFA fa_94_1 rfl) fun a hf => zL hf hc sc_4 m1 rfl fun a w hf hc => zT h ?_
       refine zI hf rfl hF ?_ ?_ <;> clear hF <;> intro hF
       ·refine cReg ?_
        refine sp 6 hf rfl fun a hf => cNil ?_
        replace hc := (hc.drop k1).drop k0
        exact hj36 (W (sum + (W ((bif (shift_Turn_ends e_4) then (shift_Turn_ends_1 e_5) else (shift_Turn_ends_2 e_5)) - (bif (shift_Turn_ends e_3) then (shift_Turn_ends_1 e_6) else (shift_Turn_ends_2 e_6)))))) (some ⟨g,0,none⟩) c_2 _ _  (hf.kp rfl) hc hF
       ·refine cReg ?_
        refine sp 6 hf rfl fun a hf => cNil ?_
        replace hc := (hc.drop k1).drop k0
        exact hj36 (W (sum + (W ((bif (shift_Turn_ends e_3) then (shift_Turn_ends_1 e_6) else (shift_Turn_ends_2 e_6)) - (bif (shift_Turn_ends e_4) then (shift_Turn_ends_1 e_5) else (shift_Turn_ends_2 e_5)))))) (some ⟨g,0,none⟩) c_2 _ _  (hf.kp rfl) hc hF
    ·refine wp_exit ?_
     refine xThen ?_
     refine xThen ?_
     have he := sj hF
     rw [← he] at hfin32
     refine cHit ?_
     exact hr32 _ _ _ hfin32 ⟨p_2,c_2,hf.kp rfl,hc⟩

end Go.Nilo
