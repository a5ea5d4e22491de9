/-
 What functions of the Go text compute, as plain functions, and that they do, part 2 of 4. Conditions: what each theorem names.
-/
import Derived.Test.YtpfmkhhhamdpeaaGreatPl1
import Derived.Test.YtpfmkhhhamdpeaaGreatProg
set_option linter.unusedVariables false
set_option linter.unusedSimpArgs false
set_option maxRecDepth 100000
set_option maxHeartbeats 4000000
namespace Go.Nilo
open Go.Proofs


def crew_Hours_b12 (N : Nat) (l : List crew_Visit) (r_1 : (List Int)) (r_2 : (List Int)) (out : List api_Span) (x : Int) : Option (Step ((List api_Span) × Int) ((List api_Span) × Int)) :=
 cond (decide (x < ((l.length : Nat) : Int)))
 (Option.bind (getI r_1 x) fun e_1 =>
 Option.bind (getI r_2 x) fun e_2 =>
 Option.bind (room ((out ++ [(⟨e_1,e_2⟩ : api_Span)])).length) fun un =>
 some (.cont ((out ++ [(⟨e_1,e_2⟩ : api_Span)]),W (x + 1))))
 (some (.brk (out,x)))
def crew_Hours (N : Nat) (start : Int) (l : List crew_Visit) : Option ((List api_Span) × Int) :=
 Option.bind (crew_rounded N l) fun r =>
 cond (r != 0)
 (some (([] : List api_Span),r))
 (cond (!(crew_minute start))
 (some (([] : List api_Span),4))
 (Option.bind (crew_begins N start l) fun r_1 =>
 Option.bind (crew_begins_s2 N start l) fun r_2 =>
 Option.bind (loopO (fun s12 => crew_Hours_b12 N l r_1 r_2 s12.1 s12.2) N (([] : List api_Span),0)) fun x12 =>
 exK x12 (fun s12 => some (s12.1,0)) some))
theorem crew_Hours_ok {N : Nat} {G : Pers} {Lf : List Ent} {w : World} (start : Int) (l : List crew_Visit) {l_p : Option Addr} {l_c : Nat} (h_l : Rd G 6 l_p l_c (l.map enc_crew_Visit)) (hc : Ctx G (Lf) w) {res : (List api_Span) × Int} (hF : crew_Hours N start l = some res) : Calls Tryz.prog 18 #[i6 start,.slice l_p l.length l_c] w (fun e w => ∃ (p'1 : Option Addr) (c'1 : Nat),e = .returned (.tuple #[.slice p'1 res.1.length c'1,i6 res.2]) ∧ Ctx G (.row p'1 c'1 (res.1.map enc_api_Span) 29 2::Lf) w) := by
 unfold crew_Hours at hF
 refine fnIn Tryz.func18 rfl Tryz.ntmps18 rfl fun a hf => zS fun K h => sp 2 hf rfl fun a hf => zT h ?_
 refine zS fun K h => sp 1 hf rfl fun a hf => ?_
 obtain ⟨r,hr,hF⟩ := bnd_some hF
 refine zQ (v := i6 r) hf hc en_79 rfl (fun w hc => crew_rounded_ok l h_l hc hr) fun a w hf hc => sp 1 hf rfl fun a hf => zT h ?_
 refine wp_seq_k fun K3 h3 => wp_block ?_
 refine zS fun K h => sp 3 hf rfl fun a hf => zT h ?_
 refine zI hf rfl hF ?_ ?_ <;> clear hF <;> intro hF
 ·refine zS fun K h => sp 3 hf rfl fun a hf => zT h ?_
  refine wp_ret ?_
  refine xBlkR ?_
  refine xThenR ?_
  obtain rfl := sj hF
  replace hc := hc.nilRow 29 2
  exact zO2 Tryz.results18 hf rfl rfl ⟨none,0,rfl,hc⟩
 ·refine zS fun K h => sp 1 hf rfl fun a hf => zQ (v := .bool (crew_minute start)) hf hc en_80 rfl (fun w hc => crew_minute_ok start hc rfl) fun a w hf hc => sp 2 hf rfl fun a hf => zT h ?_
  refine zI hf rfl hF ?_ ?_ <;> clear hF <;> intro hF
  ·refine zS fun K h => sp 2 hf rfl fun a hf => zT h ?_
   refine wp_ret ?_
   refine xBlkR ?_
   refine xThenR ?_
   obtain rfl := sj hF
   replace hc := hc.nilRow 29 2
   exact zO2 Tryz.results18 hf rfl rfl ⟨none,0,rfl,hc⟩
  ·refine wp_skip ?_
   refine h3 _ _ ?_
   refine zS fun K h => sp 2 hf rfl fun a hf => zQ (v := .agg #[.func (.func 155) #[] #[]]) hf hc en_82 rfl (fun w hc => crew_low_ok hc rfl) fun a w hf hc => ?_
   obtain ⟨r_1,hr_1,hF⟩ := bnd_some hF
   refine zC hf en_81 rfl (crew_begins_ok start l h_l hc hr_1) ?_
   rintro _ w ⟨p_1,c_1,rfl,hc⟩
   refine ⟨_,rfl,fun a hf => ?_⟩
   refine sp 2 hf rfl fun a hf => zQ (v := .agg #[.func (.func 156) #[] #[]]) hf hc en_83 rfl (fun w hc => crew_high_ok hc rfl) fun a w hf hc => ?_
   obtain ⟨r_2,hr_2,hF⟩ := bnd_some hF
   refine zC hf en_81 rfl (crew_begins_s2_ok start l h_l hc hr_2) ?_
   rintro _ w ⟨p_2,c_2,rfl,hc⟩
   refine ⟨_,rfl,fun a hf => ?_⟩
   refine sp 2 hf rfl fun a hf => zT h ?_
   refine zS fun K h => sp 1 hf rfl fun a hf => zT h ?_
   refine wp_seq_k fun K10 h10 => zS fun K h => sp 1 hf rfl fun a hf => zP hf rfl (pLenS Tryz.underlying22 rfl) fun a hf => sp 1 hf rfl fun a hf => zT h ?_
   refine wp_block ?_
   obtain ⟨x12,hx12,hF⟩ := bnd_some hF
   let S12 : ((List api_Span) × Int) → Act → World → Prop := (fun (zz : (List api_Span) × Int) a w => ∃ (p_3 : Option Addr) (c_3 : Nat) (p_4 : Option Addr) (c_4 : Nat) (p_5 : Option Addr) (c_5 : Nat),Has 48 a [(7,.slice p_3 r_1.length c_3),(8,.slice p_4 r_2.length c_4),(9,.slice p_5 zz.1.length c_5),(30,i6 ((l.length : Nat) : Int)),(31,i6 zz.2)] ∧ Ctx G (.row p_5 c_5 (zz.1.map enc_api_Span) 29 2::.row p_4 c_4 (r_2.map encI_i64) 3 1::.row p_3 c_3 (r_1.map encI_i64) 3 1::Lf) w)
   have hr12 : ∀ (zz : (List api_Span) × Int) a w,x12 = .go zz → S12 zz a w → K10 a w := by
    rintro ⟨out,x⟩ a w rfl ⟨p_3,c_3,p_4,c_4,p_5,c_5,hf,hc⟩
    replace hF := exK_go hF
    refine h10 _ _ ?_
    refine zS fun K h => sp 3 hf rfl fun a hf => zT h ?_
    refine wp_ret ?_
    obtain rfl := sj hF
    replace hc := (hc.drop k2).drop k1
    exact zO2 Tryz.results18 hf rfl rfl ⟨p_5,c_5,rfl,hc⟩
   have ho12 : ∀ r,x12 = .out r → r = res := by
    rintro r rfl
    exact sj hF
   replace hc := hc.nilRow 29 2
   refine cLoop N (loopW (S := S12) (x := x12) ?_ N (([] : List api_Span),0) _ _ ⟨p_1,c_1,p_2,c_2,none,0,hf.kp rfl,hc⟩ hx12)
   clear hF hf hc
   rintro ⟨out,x⟩ st12 a w KB12 ⟨p_3,c_3,p_4,c_4,p_5,c_5,hf,hc⟩ hF hfin12 hK12
   unfold crew_Hours_b12 at hF
   refine zS fun K h => sp 1 hf rfl fun a hf => zT h ?_
   refine wp_seq_k fun K15 h15 => zI hf rfl hF ?_ ?_ <;> clear hF <;> intro hF
   ·refine wp_skip ?_
    refine h15 _ _ ?_
    refine wp_seq_k fun K16 h16 => wp_block ?_
    refine zS fun K h => sp 2 hf rfl fun a hf => zT h ?_
    obtain ⟨e_1,he_1,hF⟩ := bnd_some hF
    obtain ⟨g,rfl,qa,qr⟩ := row_atm hc m2 he_1
    obtain ⟨e_2,he_2,hF⟩ := bnd_some hF
    obtain ⟨g_1,rfl,qa_1,qr_1⟩ := row_atm hc m1 he_2
    obtain ⟨un,hun,hF⟩ := bnd_some hF
    replace hc := hc.nilRow 0 0
    refine regionE (fun θ => [⟨none,none,7,.slice (some ⟨g,0,none⟩) r_1.length c_3⟩,⟨none,none,8,.slice (some ⟨g_1,0,none⟩) r_2.length c_4⟩,⟨none,some 12,9,.slice p_5 out.length c_5⟩,⟨none,none,10,i6 x⟩,⟨none,none,30,i6 ((l.length : Nat) : Int)⟩,⟨none,none,31,i6 x⟩,⟨some 0,none,34,.slice p_5 out.length c_5⟩,⟨some 1,none,35,.slice (some ⟨g,0,none⟩) r_1.length c_3⟩,⟨some 2,none,36,i6 x⟩,⟨some 3,none,37,.pointer (some ⟨g,x.toNat * 1,none⟩)⟩,⟨some 4,none,38,i6 e_1⟩,⟨some 5,none,39,.slice (some ⟨g_1,0,none⟩) r_2.length c_4⟩,⟨some 6,none,40,i6 x⟩,⟨some 7,none,41,.pointer (some ⟨g_1,x.toNat * 1,none⟩)⟩,⟨some 8,none,42,i6 e_2⟩,⟨some 9,none,43,.agg #[i6 e_1,i6 e_2]⟩,⟨some 10,none,44,.slice (some ⟨(θ 80).b,0,none⟩) 1 1⟩,⟨some 11,none,45,.slice ((θ 88).p) ((out ++ [(⟨e_1,e_2⟩ : api_Span)]).length) ((θ 88).c)⟩,⟨some 12,none,9,.slice ((θ 88).p) ((out ++ [(⟨e_1,e_2⟩ : api_Span)]).length) ((θ 88).c)⟩]) (fun E θ => (bif E 10 then .row (some ⟨(θ 80).b,0,none⟩) 1 (([(⟨e_1,e_2⟩ : api_Span)] : List api_Span).map enc_api_Span) 29 2 else .row none 0 [] 0 0)::(bif E 11 then .row ((θ 88).p) ((θ 88).c) ((out ++ [(⟨e_1,e_2⟩ : api_Span)]).map enc_api_Span) 29 2 else .row p_5 c_5 (out.map enc_api_Span) 29 2)::.row (some ⟨g_1,0,none⟩) c_4 (r_2.map encI_i64) 3 1::.row (some ⟨g,0,none⟩) c_3 (r_1.map encI_i64) 3 1::Lf) [(12,0),(12,11)] (fun a w => ∃ (p_7 : Option Addr) (c_7 : Nat) (b_2 : Nat),Has 48 a [(7,.slice (some ⟨g,0,none⟩) r_1.length c_3),(8,.slice (some ⟨g_1,0,none⟩) r_2.length c_4),(30,i6 ((l.length : Nat) : Int)),(31,i6 x),(9,.slice p_7 ((out ++ [(⟨e_1,e_2⟩ : api_Span)]).length) c_7)] ∧ Ctx G (.row (some ⟨b_2,0,none⟩) 1 (([(⟨e_1,e_2⟩ : api_Span)] : List api_Span).map enc_api_Span) 29 2::.row p_7 c_7 ((out ++ [(⟨e_1,e_2⟩ : api_Span)]).map enc_api_Span) 29 2::.row (some ⟨g_1,0,none⟩) c_4 (r_2.map encI_i64) 3 1::.row (some ⟨g,0,none⟩) c_3 (r_1.map encI_i64) 3 1::Lf) w) follows_mx (by kernel_rfl) (by kernel_rfl) (HasE.of hf ⟨rfl,rfl,rfl,rfl,rfl,rfl,trivial,trivial,trivial,trivial,trivial,trivial,trivial,trivial,trivial,trivial,trivial,trivial,trivial,trivial⟩) hc ⟨?_,?_,?_,?_,?_,?_,?_,?_,?_,?_,?_,?_,?_,trivial⟩ ?_ ?_
    ·intro E θ a w hD hi hp he hc
     have e12 := hD.f 0 rfl hi
     have hf := he.h0.mN he 2 rfl e12
     refine sp 1 hf rfl fun a hf => zD θ he hi hf 6 rfl rfl rfl hc
    ·intro E θ a w hD hi hp he hc
     have hf := he.h0.mT he 0 rfl
     refine sp 1 hf rfl fun a hf => zD θ he hi hf 7 rfl rfl rfl hc
    ·intro E θ a w hD hi hp he hc
     have hf := he.h0.mT he 3 rfl
     refine sp 1 hf rfl fun a hf => zD θ he hi hf 8 rfl rfl rfl hc
    ·intro E θ a w hD hi hp he hc
     have e1 := hp.o 1 rfl
     have e2 := hp.o 2 rfl
     have hf := (he.h0.mP he 7 rfl e1).mP he 8 rfl e2
     refine zP hf rfl (pIA Tryz.underlying25 sz_3 rfl rfl qa) fun a hf => zD θ he hi hf 9 rfl rfl rfl hc
    ·intro E θ a w hD hi hp he hc
     have e3 := hp.o 3 rfl
     have hf := he.h0.mP he 9 rfl e3
     refine zE hf hc rfl (eLd1 sc_3 rfl (cell_row (sz := 1) (i := x.toNat) (j := 0) m3 qr rfl)) fun a w hf hc => zD θ he hi hf 10 rfl rfl rfl hc
    ·intro E θ a w hD hi hp he hc
     have hf := he.h0.mT he 1 rfl
     refine sp 1 hf rfl fun a hf => zD θ he hi hf 11 rfl rfl rfl hc
    ·intro E θ a w hD hi hp he hc
     have hf := he.h0.mT he 3 rfl
     refine sp 1 hf rfl fun a hf => zD θ he hi hf 12 rfl rfl rfl hc
    ·intro E θ a w hD hi hp he hc
     have e5 := hp.o 5 rfl
     have e6 := hp.o 6 rfl
     have hf := (he.h0.mP he 11 rfl e5).mP he 12 rfl e6
     refine zP hf rfl (pIA Tryz.underlying25 sz_3 rfl rfl qa_1) fun a hf => zD θ he hi hf 13 rfl rfl rfl hc
    ·intro E θ a w hD hi hp he hc
     have e7 := hp.o 7 rfl
     have hf := he.h0.mP he 13 rfl e7
     refine zE hf hc rfl (eLd1 sc_3 rfl (cell_row (sz := 1) (i := x.toNat) (j := 0) m2 qr_1 rfl)) fun a w hf hc => zD θ he hi hf 14 rfl rfl rfl hc
    ·intro E θ a w hD hi hp he hc
     have e4 := hp.o 4 rfl
     have e8 := hp.o 8 rfl
     have hf := (he.h0.mP he 10 rfl e4).mP he 14 rfl e8
     refine zP hf rfl (pBuildS (cells := [i6 e_1,i6 e_2]) bt_29 rfl rfl) fun a hf => zD θ he hi hf 15 rfl rfl rfl hc
    ·intro E θ a w hD hi hp he hc
     have e9 := hp.o 9 rfl
     try dsimp only at hc
     rw [hi] at hc
     have hf := he.h0.mP he 15 rfl e9
     refine stBS (rows := ([(⟨e_1,e_2⟩ : api_Span)] : List api_Span).map enc_api_Span) (vs := [(0,.agg #[i6 e_1,i6 e_2])]) hf hc rfl rfl sl_33 rfl ⟨rfl,rfl,rfl,trivial⟩ rfl rfl fun b_1 a w hf hc => cNil ?_
     refine xThenN ?_
     intro ds u hau
     replace hc := hc.drop k1
     refine ⟨(setT θ 80 ⟨b_1,none,0,(fun _ => (none,0))⟩),he.put hi hau hf rfl [] trivial ⟨qq,qq,qq,qq,qq,qq,qq,qq,qq,qq,qq,qq,qq,qq,qq,qq,qq,qq,qq,trivial⟩,?_⟩
     try dsimp only
     rw [updE_self E 10]
     exact hc
    ·intro E θ a w hD hi hp he hc
     have e0 := hp.o 0 rfl
     have e10 := hp.o 10 rfl
     have e12 := hD.f 1 rfl hi
     try dsimp only at hc
     rw [e10,hi] at hc
     have hf := (he.h0.mP he 6 rfl e0).mP he 16 rfl e10
     refine stApm (xs := out) (ys := ([(⟨e_1,e_2⟩ : api_Span)] : List api_Span)) hf hc rfl rfl sl_33 rfl rfl rfl rfl rfl one_enc_api_Span (src_row hc m0) (fun _ _ => u1) (by simpa using room_spec hun) fun p_6 c_6 a w hf hc => cNil ?_
     refine xThenN ?_
     intro ds u hau
     refine ⟨(setT θ 88 ⟨0,p_6,c_6,(fun _ => (none,0))⟩),he.put hi hau hf rfl [12] ⟨⟨e12,rfl⟩,trivial⟩ ⟨qq,qq,qq,qq,qq,qq,qq,qq,qq,qq,qq,qq,qq,qq,qq,qq,qq,qq,trivial,trivial⟩,?_⟩
     try dsimp only
     rw [updE_tru 11 e10,updE_self E 11]
     exact hc
    ·intro E θ a w hD hi hp he hc
     have e11 := hp.o 11 rfl
     have hf := he.h0.mP he 17 rfl e11
     refine sp 1 hf rfl fun a hf => zD θ he hi hf 18 rfl rfl rfl hc
    ·intro E θ a w hall he hc
     have hf := he.h0
     have e10 := hall 10 rfl
     have e11 := hall 11 rfl
     have e12 := hall 12 rfl
     replace hf := hf.more he 18 rfl (onP e12)
     replace hf := hf.more he 5 rfl (onT)
     replace hf := hf.more he 4 rfl (onT)
     replace hf := hf.more he 1 rfl (onT)
     replace hf := hf.more he 0 rfl (onT)
     try dsimp only at hc
     rw [e10,e11] at hc
     exact ⟨(θ 88).p,(θ 88).c,(θ 80).b,hf.kp rfl,hc⟩
    rintro a w ⟨p_7,c_7,b_2,hf,hc⟩
    refine h16 _ _ ?_
    refine cReg ?_
    refine sp 2 hf rfl fun a hf => cNil ?_
    replace hc := hc.drop k0
    exact hK12 ((out ++ [(⟨e_1,e_2⟩ : api_Span)]),W (x + 1)) _ _ (sj hF).symm ⟨(some ⟨g,0,none⟩),c_3,(some ⟨g_1,0,none⟩),c_4,p_7,c_7,hf.kp rfl,hc⟩
   ·refine wp_exit ?_
    refine xThen ?_
    refine xThen ?_
    have he := sj hF
    rw [← he] at hfin12
    refine cHit ?_
    exact hr12 _ _ _ hfin12 ⟨p_3,c_3,p_4,c_4,p_5,c_5,hf.kp rfl,hc⟩

def crew_Late_j13 (N : Nat) (i_1 : Int) (can_1 : Int) (surely_1 : Int) : Option (Step (Int × Int × Int) (Int × Int × Int)) :=
 some (.cont (can_1,surely_1,W (i_1 - 1)))
def crew_Late_j14 (N : Nat) (l : List crew_Visit) (r : (List api_Span) × Int) (surely : Int) (i_1 : Int) (can_2 : Int) : Option (Step (Int × Int × Int) (Int × Int × Int)) :=
 Option.bind (getI r.1 i_1) fun e_1 =>
 Option.bind (getI l i_1) fun e_2 =>
 cond (decide (e_2.Close < e_1.Lo))
 (crew_Late_j13 N i_1 can_2 i_1)
 (crew_Late_j13 N i_1 can_2 surely)
def crew_Late_b9 (N : Nat) (l : List crew_Visit) (r : (List api_Span) × Int) (can : Int) (surely : Int) (i_1 : Int) : Option (Step (Int × Int × Int) (Int × Int × Int)) :=
 cond (decide (0 ≤ i_1))
 (Option.bind (getI r.1 i_1) fun e_3 =>
 Option.bind (getI l i_1) fun e_4 =>
 cond (decide (e_4.Close < e_3.Hi))
 (crew_Late_j14 N l r surely i_1 i_1)
 (crew_Late_j14 N l r surely i_1 can))
 (some (.brk (can,surely,i_1)))
def crew_Late (N : Nat) (start : Int) (l : List crew_Visit) : Option (Int × Int × Int) :=
 Option.bind (crew_Hours N start l) fun r =>
 cond (r.2 != 0)
 (some (0,0,r.2))
 (Option.bind (loopO (fun s9 => crew_Late_b9 N l r s9.1 s9.2.1 s9.2.2) N ((-1),(-1),W (((l.length : Nat) : Int) - 1))) fun x9 =>
 exK x9 (fun s9 => some (s9.1,s9.2.1,0)) some)
theorem crew_Late_ok {N : Nat} {G : Pers} {Lf : List Ent} {w : World} (start : Int) (l : List crew_Visit) {l_p : Option Addr} {l_c : Nat} (h_l : Rd G 6 l_p l_c (l.map enc_crew_Visit)) (hc : Ctx G (Lf) w) {res : Int × Int × Int} (hF : crew_Late N start l = some res) : Calls Tryz.prog 22 #[i6 start,.slice l_p l.length l_c] w (fun e w => e = .returned (.tuple #[i6 res.1,i6 res.2.1,i6 res.2.2]) ∧ Ctx G (Lf) w) := by
 unfold crew_Late at hF
 refine fnIn Tryz.func22 rfl Tryz.ntmps22 rfl fun a hf => zS fun K h => sp 3 hf rfl fun a hf => zT h ?_
 refine zS fun K h => sp 2 hf rfl fun a hf => ?_
 obtain ⟨r,hr,hF⟩ := bnd_some hF
 refine zC hf en_18 rfl (crew_Hours_ok start l h_l hc hr) ?_
 rintro _ w ⟨p_1,c_1,rfl,hc⟩
 refine ⟨_,rfl,fun a hf => ?_⟩
 refine sp 5 hf rfl fun a hf => zT h ?_
 refine wp_seq_k fun K3 h3 => zS fun K h => sp 2 hf rfl fun a hf => zT h ?_
 refine zI hf rfl hF ?_ ?_ <;> clear hF <;> intro hF
 ·refine zS fun K h => sp 4 hf rfl fun a hf => zT h ?_
  refine wp_ret ?_
  refine xThenR ?_
  obtain rfl := sj hF
  replace hc := hc.drop k0
  exact zO3 Tryz.results22 hf rfl rfl rfl ⟨rfl,hc⟩
 ·refine wp_skip ?_
  refine h3 _ _ ?_
  refine zS fun K h => sp 2 hf rfl fun a hf => zT h ?_
  refine wp_seq_k fun K7 h7 => zS fun K h => sp 1 hf rfl fun a hf => zP hf rfl (pLenS Tryz.underlying22 rfl) fun a hf => sp 2 hf rfl fun a hf => zT h ?_
  refine wp_block ?_
  obtain ⟨x9,hx9,hF⟩ := bnd_some hF
  let S9 : (Int × Int × Int) → Act → World → Prop := (fun (zz : Int × Int × Int) a w => ∃ (p_2 : Option Addr) (c_2 : Nat),Has 51 a [(1,.slice l_p l.length l_c),(4,i6 zz.1),(5,i6 zz.2.1),(7,.slice p_2 r.1.length c_2),(8,i6 zz.2.2)] ∧ Ctx G (.row p_2 c_2 (r.1.map enc_api_Span) 29 2::Lf) w)
  have hr9 : ∀ (zz : Int × Int × Int) a w,x9 = .go zz → S9 zz a w → K7 a w := by
   rintro ⟨can,surely,i_1⟩ a w rfl ⟨p_2,c_2,hf,hc⟩
   replace hF := exK_go hF
   refine h7 _ _ ?_
   refine zS fun K h => sp 5 hf rfl fun a hf => zT h ?_
   refine wp_ret ?_
   obtain rfl := sj hF
   replace hc := hc.drop k0
   exact zO3 Tryz.results22 hf rfl rfl rfl ⟨rfl,hc⟩
  have ho9 : ∀ r,x9 = .out r → r = res := by
   rintro r rfl
   exact sj hF
  refine cLoop N (loopW (S := S9) (x := x9) ?_ N ((-1),(-1),W (((l.length : Nat) : Int) - 1)) _ _ ⟨p_1,c_1,hf.kp rfl,hc⟩ hx9)
  clear hF hf hc
  rintro ⟨can,surely,i_1⟩ st9 a w KB9 ⟨p_2,c_2,hf,hc⟩ hF hfin9 hK9
  unfold crew_Late_b9 at hF
  refine wp_seq_k fun K11 h11 => zS fun K h => sp 2 hf rfl fun a hf => zT h ?_
  refine zI hf rfl hF ?_ ?_ <;> clear hF <;> intro hF
  ·refine wp_skip ?_
   refine h11 _ _ ?_
   refine wp_seq_k fun K13 h13 => ?_
   have hj13 : ∀ (can_1 : Int) (surely_1 : Int) (p_3 : Option Addr) (c_3 : Nat) a w,Has 51 a [(1,.slice l_p l.length l_c),(4,i6 can_1),(5,i6 surely_1),(7,.slice p_3 r.1.length c_3),(8,i6 i_1)] → Ctx G (.row p_3 c_3 (r.1.map enc_api_Span) 29 2::Lf) w → crew_Late_j13 N i_1 can_1 surely_1 = some st9 → K13 a w := by
    repeat (clear hF)
    repeat (clear hc)
    repeat (clear hf)
    intro can_1 surely_1 p_3 c_3 a w hf hc hF
    unfold crew_Late_j13 at hF
    refine h13 _ _ ?_
    refine cReg ?_
    refine sp 3 hf rfl fun a hf => cNil ?_
    exact hK9 (can_1,surely_1,W (i_1 - 1)) _ _ (sj hF).symm ⟨p_3,c_3,hf.kp rfl,hc⟩
   refine wp_block ?_
   refine wp_seq_k fun K14 h14 => ?_
   have hj14 : ∀ (can_2 : Int) (p_4 : Option Addr) (c_4 : Nat) a w,Has 51 a [(1,.slice l_p l.length l_c),(4,i6 can_2),(5,i6 surely),(7,.slice p_4 r.1.length c_4),(8,i6 i_1)] → Ctx G (.row p_4 c_4 (r.1.map enc_api_Span) 29 2::Lf) w → crew_Late_j14 N l r surely i_1 can_2 = some st9 → K14 a w := by
    repeat (clear hF)
    repeat (clear hc)
    repeat (clear hf)
    intro can_2 p_4 c_4 a w hf hc hF
    unfold crew_Late_j14 at hF
    refine h14 _ _ ?_
    refine wp_seq_k fun K15 h15 => ?_
    obtain ⟨e_1,he_1,hF⟩ := bnd_some hF
    obtain ⟨g,rfl,qa,qr⟩ := row_atm hc m0 he_1
    obtain ⟨e_2,he_2,hF⟩ := bnd_some hF
    obtain ⟨b_1,o,qa_1,qp⟩ := h_l.atm he_2
    refine cQ hc follows_mx (by kernel_rfl) ?_
    refine qE hf rfl rfl rfl (Pu.ev (pM rfl)) fun a hf => qE hf rfl rfl rfl (Pu.ev (pM rfl)) fun a hf => qE hf rfl rfl rfl (Pu.ev (pIA Tryz.underlying33 sz_29 rfl rfl qa)) fun a hf => qE hf rfl rfl rfl (Pu.ev (pFA fa_29_0 rfl)) fun a hf => qE hf rfl rfl rfl (eLd1 sc_3 rfl (cell_row (sz := 2) (i := i_1.toNat) (j := 0) m0 qr rfl)) fun a hf => qE hf rfl rfl rfl (Pu.ev (pM rfl)) fun a hf => qE hf rfl rfl rfl (Pu.ev (pM rfl)) fun a hf => qE hf rfl rfl rfl (Pu.ev (pIA Tryz.underlying22 sz_31 rfl rfl qa_1)) fun a hf => qE hf rfl rfl rfl (Pu.ev (pFA fa_31_3 rfl)) fun a hf => qE hf rfl rfl rfl (eLd1 sc_3 rfl (cell_pc (j := 5) qp rfl)) fun a hf => qE hf rfl rfl rfl (Pu.ev (pGt rfl rfl)) fun a hf => ?_
    intro w hc
    refine h15 _ _ ?_
    refine zI hf rfl hF ?_ ?_ <;> clear hF <;> intro hF
    ·refine cReg ?_
     refine sp 2 hf rfl fun a hf => cNil ?_
     exact hj13 can_2 i_1 (some ⟨g,0,none⟩) c_4 _ _  (hf.kp rfl) hc hF
    ·refine wp_skip ?_
     exact hj13 can_2 surely (some ⟨g,0,none⟩) c_4 _ _  (hf.kp rfl) hc hF
   refine wp_seq_k fun K16 h16 => ?_
   obtain ⟨e_3,he_3,hF⟩ := bnd_some hF
   obtain ⟨g_1,rfl,qa_2,qr_1⟩ := row_atm hc m0 he_3
   obtain ⟨e_4,he_4,hF⟩ := bnd_some hF
   obtain ⟨b_2,o_1,qa_3,qp_1⟩ := h_l.atm he_4
   refine cQ hc follows_mx (by kernel_rfl) ?_
   refine qE hf rfl rfl rfl (Pu.ev (pM rfl)) fun a hf => qE hf rfl rfl rfl (Pu.ev (pM rfl)) fun a hf => qE hf rfl rfl rfl (Pu.ev (pIA Tryz.underlying33 sz_29 rfl rfl qa_2)) fun a hf => qE hf rfl rfl rfl (Pu.ev (pFA fa_29_1 rfl)) fun a hf => qE hf rfl rfl rfl (eLd1 sc_3 rfl (cell_row (sz := 2) (i := i_1.toNat) (j := 1) m0 qr_1 rfl)) fun a hf => qE hf rfl rfl rfl (Pu.ev (pM rfl)) fun a hf => qE hf rfl rfl rfl (Pu.ev (pM rfl)) fun a hf => qE hf rfl rfl rfl (Pu.ev (pIA Tryz.underlying22 sz_31 rfl rfl qa_3)) fun a hf => qE hf rfl rfl rfl (Pu.ev (pFA fa_31_3 rfl)) fun a hf => qE hf rfl rfl rfl (eLd1 sc_3 rfl (cell_pc (j := 5) qp_1 rfl)) fun a hf => qE hf rfl rfl rfl (Pu.ev (pGt rfl rfl)) fun a hf => ?_
   intro w hc
   refine h16 _ _ ?_
   refine zI hf rfl hF ?_ ?_ <;> clear hF <;> intro hF
   ·refine cReg ?_
    refine sp 2 hf rfl fun a hf => cNil ?_
    exact hj14 i_1 (some ⟨g_1,0,none⟩) c_2 _ _  (hf.kp rfl) hc hF
   ·refine wp_skip ?_
    exact hj14 can (some ⟨g_1,0,none⟩) c_2 _ _  (hf.kp rfl) hc hF
  ·refine wp_exit ?_
   refine xThen ?_
   refine xThen ?_
   have he := sj hF
   rw [← he] at hfin9
   refine cHit ?_
   exact hr9 _ _ _ hfin9 ⟨p_2,c_2,hf.kp rfl,hc⟩

def crew_Latest_b9 (N : Nat) (l : List crew_Visit) (by_ : Int) (i_1 : Int) : Option (Step (Int × Int) (Int × Int)) :=
 cond (decide (0 ≤ i_1))
 (Option.bind (getI l i_1) fun e_1 =>
 Option.bind (getI l i_1) fun e_2 =>
 Option.bind (getI l i_1) fun e_3 =>
 cond (decide ((min e_1.Close (W (by_ - e_2.Work.Hi))) < e_3.Open))
 (some (.ret (0,5)))
 (Option.bind (getI l i_1) fun e_4 =>
 some (.cont (W ((min e_1.Close (W (by_ - e_2.Work.Hi))) - e_4.Way.Hi),W (i_1 - 1)))))
 (some (.brk (by_,i_1)))
def crew_Latest (N : Nat) (l : List crew_Visit) : Option (Int × Int) :=
 Option.bind (crew_rounded N l) fun r =>
 cond (r != 0)
 (some (0,r))
 (Option.bind (loopO (fun s9 => crew_Latest_b9 N l s9.1 s9.2) N (200000,W (((l.length : Nat) : Int) - 1))) fun x9 =>
 exK x9 (fun s9 => cond (decide (s9.1 < 0))
 (some (0,5))
 (some (s9.1,0))) some)
theorem crew_Latest_ok {N : Nat} {G : Pers} {Lf : List Ent} {w : World} (l : List crew_Visit) {l_p : Option Addr} {l_c : Nat} (h_l : Rd G 6 l_p l_c (l.map enc_crew_Visit)) (hc : Ctx G (Lf) w) {res : Int × Int} (hF : crew_Latest N l = some res) : Calls Tryz.prog 24 #[.slice l_p l.length l_c] w (fun e w => e = .returned (.tuple #[i6 res.1,i6 res.2]) ∧ Ctx G (Lf) w) := by
 unfold crew_Latest at hF
 refine fnIn Tryz.func24 rfl Tryz.ntmps24 rfl fun a hf => zS fun K h => sp 2 hf rfl fun a hf => zT h ?_
 refine wp_seq_k fun K2 h2 => zS fun K h => sp 1 hf rfl fun a hf => ?_
 obtain ⟨r,hr,hF⟩ := bnd_some hF
 refine zQ (v := i6 r) hf hc en_79 rfl (fun w hc => crew_rounded_ok l h_l hc hr) fun a w hf hc => sp 1 hf rfl fun a hf => zT h ?_
 refine zS fun K h => sp 2 hf rfl fun a hf => zT h ?_
 refine zI hf rfl hF ?_ ?_ <;> clear hF <;> intro hF
 ·refine zS fun K h => sp 3 hf rfl fun a hf => zT h ?_
  refine wp_ret ?_
  refine xThenR ?_
  obtain rfl := sj hF
  exact zO2 Tryz.results24 hf rfl rfl ⟨rfl,hc⟩
 ·refine wp_skip ?_
  refine h2 _ _ ?_
  refine zS fun K h => sp 1 hf rfl fun a hf => zT h ?_
  refine wp_seq_k fun K7 h7 => zS fun K h => sp 1 hf rfl fun a hf => zP hf rfl (pLenS Tryz.underlying22 rfl) fun a hf => sp 2 hf rfl fun a hf => zT h ?_
  refine wp_block ?_
  obtain ⟨x9,hx9,hF⟩ := bnd_some hF
  let S9 : (Int × Int) → Act → World → Prop := (fun (zz : Int × Int) a w => Has 51 a [(0,.slice l_p l.length l_c),(5,i6 zz.1),(6,i6 zz.2)] ∧ Ctx G (Lf) w)
  have hr9 : ∀ (zz : Int × Int) a w,x9 = .go zz → S9 zz a w → K7 a w := by
   rintro ⟨by_,i_1⟩ a w rfl ⟨hf,hc⟩
   replace hF := exK_go hF
   refine h7 _ _ ?_
   refine wp_seq_k fun K10 h10 => zS fun K h => sp 2 hf rfl fun a hf => zT h ?_
   refine zI hf rfl hF ?_ ?_ <;> clear hF <;> intro hF
   ·refine zS fun K h => sp 2 hf rfl fun a hf => zT h ?_
    refine wp_ret ?_
    refine xThenR ?_
    obtain rfl := sj hF
    exact zO2 Tryz.results24 hf rfl rfl ⟨rfl,hc⟩
   ·refine wp_skip ?_
    refine h10 _ _ ?_
    refine zS fun K h => sp 3 hf rfl fun a hf => zT h ?_
    refine wp_ret ?_
    obtain rfl := sj hF
    exact zO2 Tryz.results24 hf rfl rfl ⟨rfl,hc⟩
  have ho9 : ∀ r,x9 = .out r → r = res := by
   rintro r rfl
   exact sj hF
  refine cLoop N (loopW (S := S9) (x := x9) ?_ N (200000,W (((l.length : Nat) : Int) - 1)) _ _ ⟨hf.kp rfl,hc⟩ hx9)
  clear hF hf hc
  rintro ⟨by_,i_1⟩ st9 a w KB9 ⟨hf,hc⟩ hF hfin9 hK9
  unfold crew_Latest_b9 at hF
  refine wp_seq_k fun K14 h14 => zS fun K h => sp 2 hf rfl fun a hf => zT h ?_
  refine zI hf rfl hF ?_ ?_ <;> clear hF <;> intro hF
  ·refine wp_skip ?_
   refine h14 _ _ ?_
   refine wp_seq_k fun K16 h16 => wp_block ?_
   refine wp_seq_k fun K17 h17 => ?_
   obtain ⟨e_1,he_1,hF⟩ := bnd_some hF
   obtain ⟨b_1,o,qa,qp⟩ := h_l.atm he_1
   obtain ⟨e_2,he_2,hF⟩ := bnd_some hF
   obtain ⟨b_2,o_1,qa_1,qp_1⟩ := h_l.atm he_2
   refine cQ hc follows_mx (by kernel_rfl) ?_
   refine qE hf rfl rfl rfl (Pu.ev (pM rfl)) fun a hf => qE hf rfl rfl rfl (Pu.ev (pM rfl)) fun a hf => qE hf rfl rfl rfl (Pu.ev (pIA Tryz.underlying22 sz_31 rfl rfl qa)) fun a hf => qE hf rfl rfl rfl (Pu.ev (pFA fa_31_3 rfl)) fun a hf => qE hf rfl rfl rfl (eLd1 sc_3 rfl (cell_pc (j := 5) qp rfl)) fun a hf => qE hf rfl rfl rfl (Pu.ev (pM rfl)) fun a hf => qE hf rfl rfl rfl (Pu.ev (pM rfl)) fun a hf => qE hf rfl rfl rfl (Pu.ev (pM rfl)) fun a hf => qE hf rfl rfl rfl (Pu.ev (pIA Tryz.underlying22 sz_31 rfl rfl qa_1)) fun a hf => qE hf rfl rfl rfl (Pu.ev (pFA fa_31_1 rfl)) fun a hf => qE hf rfl rfl rfl (Pu.ev (pFA fa_29_1 rfl)) fun a hf => qE hf rfl rfl rfl (eLd1 sc_3 rfl (cell_pc (j := 3) qp_1 rfl)) fun a hf => qE hf rfl rfl rfl (Pu.ev (pSub rfl rfl)) fun a hf => ?_
   refine qE hf rfl rfl rfl (Pu.ev (pMin2 rfl rfl)) fun a hf => qE hf rfl rfl rfl (Pu.ev (pA rfl)) fun a hf => ?_
   intro w hc
   refine h17 _ _ ?_
   refine wp_seq_k fun K18 h18 => zS fun K h => sp 3 hf rfl fun a hf => ?_
   obtain ⟨e_3,he_3,hF⟩ := bnd_some hF
   obtain ⟨b_3,o_2,qa_2,qp_2⟩ := h_l.atm he_3
   refine zP hf rfl (pIA Tryz.underlying22 sz_31 rfl rfl qa_2) fun a hf => zP hf rfl (pFA fa_31_2 rfl) fun a hf => zE hf hc rfl (eLd1 sc_3 rfl (cell_pc (j := 4) qp_2 rfl)) fun a w hf hc => sp 1 hf rfl fun a hf => zT h ?_
   refine zI hf rfl hF ?_ ?_ <;> clear hF <;> intro hF
   ·refine zS fun K h => sp 2 hf rfl fun a hf => zT h ?_
    refine wp_ret ?_
    refine xThenR ?_
    refine xBlkR ?_
    refine xThenR ?_
    refine xThenR ?_
    have he := sj hF
    rw [← he] at hfin9
    replace hF := ho9 _ hfin9
    refine xBlkR ?_
    refine xThenR ?_
    obtain rfl := hF
    exact zO2 Tryz.results24 hf rfl rfl ⟨rfl,hc⟩
   ·refine wp_skip ?_
    refine h18 _ _ ?_
    refine cReg ?_
    refine sp 3 hf rfl fun a hf => ?_
    obtain ⟨e_4,he_4,hF⟩ := bnd_some hF
    obtain ⟨b_4,o_3,qa_3,qp_3⟩ := h_l.atm he_4
    refine zP hf rfl (pIA Tryz.underlying22 sz_31 rfl rfl qa_3) fun a hf => zP hf rfl (pFA fa_31_0 rfl) fun a hf => zP hf rfl (pFA fa_29_1 rfl) fun a hf => zE hf hc rfl (eLd1 sc_3 rfl (cell_pc (j := 1) qp_3 rfl)) fun a w hf hc => sp 2 hf rfl fun a hf => cNil ?_
    refine h16 _ _ ?_
    refine cReg ?_
    refine sp 3 hf rfl fun a hf => cNil ?_
    exact hK9 (W ((min e_1.Close (W (by_ - e_2.Work.Hi))) - e_4.Way.Hi),W (i_1 - 1)) _ _ (sj hF).symm ⟨hf.kp rfl,hc⟩
  ·refine wp_exit ?_
   refine xThen ?_
   refine xThen ?_
   have he := sj hF
   rw [← he] at hfin9
   refine cHit ?_
   exact hr9 _ _ _ hfin9 ⟨hf.kp rfl,hc⟩

def law11_Two (N : Nat)  : Option (crew_Roster) :=
 some (⟨([([0,1] : List Int),([0,1] : List Int)] : List (List Int)),([(⟨1,([1,0] : List Int)⟩ : crew_Station),(⟨1,([0,1] : List Int)⟩ : crew_Station)] : List crew_Station)⟩ : crew_Roster)
theorem law11_Two_ok {N : Nat} {G : Pers} {Lf : List Ent} {w : World}    (hc : Ctx G (Lf) w) {res : crew_Roster} (hF : law11_Two N = some res) : Calls Tryz.prog 67 #[] w (fun e w => ∃ (p'1 : Option Addr) (tcq'1 : TabH) (p'2 : Option Addr) (tcq'2 : TabH),e = .returned (.agg #[.slice p'1 res.People.length tcq'1.1,.slice p'2 res.Stations.length tcq'2.1]) ∧ Ctx G (.row p'1 tcq'1.1 ((tabR tcq'1.2 res.People).map (Kd.v kd_25)) 25 1::tabI kd_25 (tabR tcq'1.2 res.People)::.row p'2 tcq'2.1 ((tabR tcq'2.2 res.Stations).map (Kd.v kd_101)) 101 2::tabI kd_101 (tabR tcq'2.2 res.Stations)::Lf) w) := by
 unfold law11_Two at hF
 refine fnIn Tryz.func67 rfl Tryz.ntmps67 rfl fun a hf => zS fun K h => zA hf hc zr_78 rfl fun b_1 a w hf hc => zT h ?_
 refine wp_seq_k fun K2 h2 => cReg ?_
 refine stBS (rows := ([0,1] : List Int).map encI_i64) (vs := [(0,i6 0),(1,i6 1)]) hf hc rfl rfl sl_25 rfl ⟨rfl,rfl,rfl,rfl,rfl,rfl,trivial⟩ rfl rfl fun b_2 a w hf hc => stBS (rows := ([0,1] : List Int).map encI_i64) (vs := [(0,i6 0),(1,i6 1)]) hf hc rfl rfl sl_25 rfl ⟨rfl,rfl,rfl,rfl,rfl,rfl,trivial⟩ rfl rfl fun b_3 a w hf hc => stBS (rows := ([(((some ⟨b_2,0,none⟩),2),([0,1] : List Int)),(((some ⟨b_3,0,none⟩),2),([0,1] : List Int))] : List (H2 × (List Int))).map (Kd.v kd_25)) (vs := [(0,.slice (some ⟨b_2,0,none⟩) 2 2),(1,.slice (some ⟨b_3,0,none⟩) 2 2)]) hf hc rfl rfl sl_75 rfl ⟨rfl,rfl,rfl,rfl,rfl,rfl,trivial⟩ rfl rfl fun b_4 a w hf hc => stBS (rows := ([1,0] : List Int).map encI_i64) (vs := [(0,i6 1),(1,i6 0)]) hf hc rfl rfl sl_25 rfl ⟨rfl,rfl,rfl,rfl,rfl,rfl,trivial⟩ rfl rfl fun b_5 a w hf hc => zP hf rfl (pBuildS (cells := [i6 1,.slice (some ⟨b_5,0,none⟩) 2 2]) bt_101 rfl rfl) fun a hf => stBS (rows := ([0,1] : List Int).map encI_i64) (vs := [(0,i6 0),(1,i6 1)]) hf hc rfl rfl sl_25 rfl ⟨rfl,rfl,rfl,rfl,rfl,rfl,trivial⟩ rfl rfl fun b_6 a w hf hc => zP hf rfl (pBuildS (cells := [i6 1,.slice (some ⟨b_6,0,none⟩) 2 2]) bt_101 rfl rfl) fun a hf => stBS (rows := ([(((some ⟨b_5,0,none⟩),2),(⟨1,([1,0] : List Int)⟩ : crew_Station)),(((some ⟨b_6,0,none⟩),2),(⟨1,([0,1] : List Int)⟩ : crew_Station))] : List (H2 × crew_Station)).map (Kd.v kd_101)) (vs := [(0,.agg #[i6 1,.slice (some ⟨b_5,0,none⟩) 2 2]),(1,.agg #[i6 1,.slice (some ⟨b_6,0,none⟩) 2 2])]) hf hc rfl rfl sl_76 rfl ⟨rfl,rfl,rfl,rfl,rfl,rfl,trivial⟩ rfl rfl fun b_7 a w hf hc => zP hf rfl (pBuildS (cells := [.slice (some ⟨b_4,0,none⟩) 2 2,.slice (some ⟨b_7,0,none⟩) 2 2]) bt_78 rfl rfl) fun a hf => zW hf hc sz_78 u6 rfl fun w hc => cNil ?_
 replace hc := ((hc.pick k1).pick k2).pick k2
 obtain ⟨hsq,hc⟩ := tab_mk (K := kd_101) ([(((some ⟨b_5,0,none⟩),2),(⟨1,([1,0] : List Int)⟩ : crew_Station)),(((some ⟨b_6,0,none⟩),2),(⟨1,([0,1] : List Int)⟩ : crew_Station))] : List (H2 × crew_Station)) hc
 replace hc : Ctx G (.row (some ⟨b_7,0,none⟩) 2 ((tabR hsq ([(⟨1,([1,0] : List Int)⟩ : crew_Station),(⟨1,([0,1] : List Int)⟩ : crew_Station)] : List crew_Station)).map (Kd.v kd_101)) 101 2::tabI kd_101 (tabR hsq ([(⟨1,([1,0] : List Int)⟩ : crew_Station),(⟨1,([0,1] : List Int)⟩ : crew_Station)] : List crew_Station))::.row (some ⟨b_4,0,none⟩) 2 (([(((some ⟨b_2,0,none⟩),2),([0,1] : List Int)),(((some ⟨b_3,0,none⟩),2),([0,1] : List Int))] : List (H2 × (List Int))).map (Kd.v kd_25)) 25 1::.row (some ⟨b_3,0,none⟩) 2 (([0,1] : List Int).map encI_i64) 3 1::.row (some ⟨b_2,0,none⟩) 2 (([0,1] : List Int).map encI_i64) 3 1::.box b_1 [.slice (some ⟨b_4,0,none⟩) 2 2,.slice (some ⟨b_7,0,none⟩) 2 2] 78::Lf) w := hc
 replace hc := ((((hc.pick k1).pick k1).pick k3).pick k4).pick k4
 obtain ⟨hsq_1,hc⟩ := tab_mk (K := kd_25) ([(((some ⟨b_2,0,none⟩),2),([0,1] : List Int)),(((some ⟨b_3,0,none⟩),2),([0,1] : List Int))] : List (H2 × (List Int))) hc
 replace hc : Ctx G (.row (some ⟨b_4,0,none⟩) 2 ((tabR hsq_1 ([([0,1] : List Int),([0,1] : List Int)] : List (List Int))).map (Kd.v kd_25)) 25 1::tabI kd_25 (tabR hsq_1 ([([0,1] : List Int),([0,1] : List Int)] : List (List Int)))::.row (some ⟨b_7,0,none⟩) 2 ((tabR hsq ([(⟨1,([1,0] : List Int)⟩ : crew_Station),(⟨1,([0,1] : List Int)⟩ : crew_Station)] : List crew_Station)).map (Kd.v kd_101)) 101 2::tabI kd_101 (tabR hsq ([(⟨1,([1,0] : List Int)⟩ : crew_Station),(⟨1,([0,1] : List Int)⟩ : crew_Station)] : List crew_Station))::.box b_1 [.slice (some ⟨b_4,0,none⟩) 2 2,.slice (some ⟨b_7,0,none⟩) 2 2] 78::Lf) w := hc
 refine h2 _ _ ?_
 refine wp_ret ?_
 obtain rfl := sj hF
 exact fnOut1 (by simp) rfl Tryz.results67 hf hc (rv_cellN (vs := [.slice (some ⟨b_4,0,none⟩) 2 2,.slice (some ⟨b_7,0,none⟩) 2 2]) ag_78 rfl rfl (cells_box (n := 2) m4 rfl)) ⟨(some ⟨b_4,0,none⟩),(2,hsq_1),(some ⟨b_7,0,none⟩),(2,hsq),rfl,(hc.drop k4)⟩

def crew_Check_1_1 (s_ : Int) (x : crew_Roster) : Bool :=
 (crew_in s_ 0 (W (((x.Stations.length : Nat) : Int) - 1)))
theorem crew_Check_1_1_ok {G : Pers} {Lf : List Ent} {w : World} (s_ : Int) (x : crew_Roster) {b_ : Nat} {x_People_p : Option Addr} {x_People_c : Nat} {x_Stations_p : Option Addr} {x_Stations_c : Nat} (h_x_People : RdT kd_25 G 1 x_People_p x_People_c x.People) (h_x_Stations : RdT kd_101 G 2 x_Stations_p x_Stations_c x.Stations) (hc : Ctx G (.box b_ [.slice x_People_p x.People.length x_People_c,.slice x_Stations_p x.Stations.length x_Stations_c] 78::Lf) w) {res : Bool} (hF : crew_Check_1_1 s_ x = res) : Calls Tryz.prog 118 #[i6 s_,pq b_] w (fun e w => e = .returned (.bool res) ∧ Ctx G (.box b_ [.slice x_People_p x.People.length x_People_c,.slice x_Stations_p x.Stations.length x_Stations_c] 78::Lf) w) := by
 unfold crew_Check_1_1 at hF
 refine fnIn Tryz.func118 rfl Tryz.ntmps118 rfl fun a hf => zS fun K h => sp 1 hf rfl fun a hf => zT h ?_
 refine zS fun K h => sp 1 hf rfl fun a hf => zP hf rfl (pFA fa_78_1 rfl) fun a hf => zL hf hc sc_76 m0 rfl fun a w hf hc => zP hf rfl (pLenS Tryz.underlying76 rfl) fun a hf => sp 1 hf rfl fun a hf => zQ (v := .bool (crew_in s_ 0 (W (((x.Stations.length : Nat) : Int) - 1)))) hf hc en_86 rfl (fun w hc => crew_in_ok s_ 0 (W (((x.Stations.length : Nat) : Int) - 1)) hc rfl) fun a w hf hc => sp 1 hf rfl fun a hf => zT h ?_
 refine wp_ret ?_
 obtain rfl := hF
 exact zO1 Tryz.results118 hf rfl ⟨rfl,hc⟩

def crew_every_int_1 (x : Int) (x_1 : crew_Roster) : Bool :=
 (!(crew_Check_1_1 x x_1))
theorem crew_every_int_1_ok {G : Pers} {Lf : List Ent} {w : World} (x : Int) (x_1 : crew_Roster) {b_ : Nat} {b__1 : Nat} {x_1_People_p : Option Addr} {x_1_People_c : Nat} {x_1_Stations_p : Option Addr} {x_1_Stations_c : Nat} (h_x_1_People : RdT kd_25 G 1 x_1_People_p x_1_People_c x_1.People) (h_x_1_Stations : RdT kd_101 G 2 x_1_Stations_p x_1_Stations_c x_1.Stations) (hc : Ctx G (.box b_ [.func (.func 118) #[] #[pq b__1]] 143::.box b__1 [.slice x_1_People_p x_1.People.length x_1_People_c,.slice x_1_Stations_p x_1.Stations.length x_1_Stations_c] 78::Lf) w) {res : Bool} (hF : crew_every_int_1 x x_1 = res) : Calls Tryz.prog 157 #[i6 x,pq b_] w (fun e w => e = .returned (.bool res) ∧ Ctx G (.box b_ [.func (.func 118) #[] #[pq b__1]] 143::.box b__1 [.slice x_1_People_p x_1.People.length x_1_People_c,.slice x_1_Stations_p x_1.Stations.length x_1_Stations_c] 78::Lf) w) := by
 unfold crew_every_int_1 at hF
 refine fnIn Tryz.func157 rfl Tryz.ntmps157 rfl fun a hf => zS fun K h => sp 1 hf rfl fun a hf => zT h ?_
 refine zS fun K h => zL hf hc sc_143 m0 rfl fun a w hf hc => sp 1 hf rfl fun a hf => zQ (v := .bool (crew_Check_1_1 x x_1)) hf hc en_118 rfl (fun w hc => (crew_Check_1_1_ok x x_1 h_x_1_People h_x_1_Stations (hc.pick k1) rfl).mono fun e w h => ⟨h.1,(h.2.unpick k1)⟩) fun a w hf hc => sp 2 hf rfl fun a hf => zT h ?_
 refine wp_ret ?_
 obtain rfl := hF
 exact zO1 Tryz.results157 hf rfl ⟨rfl,hc⟩

def slices_IndexFunc_Lint_int_s2_b4 (N : Nat) (s_ : List Int) (f_ : crew_Roster) (x : Int) : Option (Step (Int) (Int)) :=
 cond (decide (x < ((s_.length : Nat) : Int)))
 (Option.bind (getI s_ x) fun e_1 =>
 cond (crew_every_int_1 e_1 f_)
 (some (.ret x))
 (some (.cont (W (x + 1)))))
 (some (.brk x))
def slices_IndexFunc_Lint_int_s2 (N : Nat) (s_ : List Int) (f_ : crew_Roster) : Option (Int) :=
 Option.bind (loopO (fun s4 => slices_IndexFunc_Lint_int_s2_b4 N s_ f_ s4) N 0) fun x4 =>
 exK x4 (fun s4 => some (-1)) some
theorem slices_IndexFunc_Lint_int_s2_ok {N : Nat} {G : Pers} {Lf : List Ent} {w : World} (s_ : List Int) (f_ : crew_Roster) {s__p : Option Addr} {s__c : Nat} {b_ : Nat} {b__1 : Nat} {f__People_p : Option Addr} {f__People_c : Nat} {f__Stations_p : Option Addr} {f__Stations_c : Nat} (h_s_ : Rd G 1 s__p s__c (s_.map encI_i64)) (h_f__People : RdT kd_25 G 1 f__People_p f__People_c f_.People) (h_f__Stations : RdT kd_101 G 2 f__Stations_p f__Stations_c f_.Stations) (hc : Ctx G (.box b_ [.func (.func 118) #[] #[pq b__1]] 143::.box b__1 [.slice f__People_p f_.People.length f__People_c,.slice f__Stations_p f_.Stations.length f__Stations_c] 78::Lf) w) {res : Int} (hF : slices_IndexFunc_Lint_int_s2 N s_ f_ = some res) : Calls Tryz.prog 97 #[.slice s__p s_.length s__c,.func (.func 157) #[] #[pq b_]] w (fun e w => e = .returned (i6 res) ∧ Ctx G (.box b_ [.func (.func 118) #[] #[pq b__1]] 143::.box b__1 [.slice f__People_p f_.People.length f__People_c,.slice f__Stations_p f_.Stations.length f__Stations_c] 78::Lf) w) := by
 unfold slices_IndexFunc_Lint_int_s2 at hF
 refine fnIn Tryz.func97 rfl Tryz.ntmps97 rfl fun a hf => zS fun K h => sp 1 hf rfl fun a hf => zT h ?_
 refine wp_seq_k fun K2 h2 => zS fun K h => sp 1 hf rfl fun a hf => zP hf rfl (pLenS Tryz.underlying25 rfl) fun a hf => sp 1 hf rfl fun a hf => zT h ?_
 refine wp_block ?_
 obtain ⟨x4,hx4,hF⟩ := bnd_some hF
 let S4 : Int → Act → World → Prop := (fun (zz : Int) a w => Has 19 a [(0,.slice s__p s_.length s__c),(1,.func (.func 157) #[] #[pq b_]),(7,i6 ((s_.length : Nat) : Int)),(8,i6 zz)] ∧ Ctx G (.box b_ [.func (.func 118) #[] #[pq b__1]] 143::.box b__1 [.slice f__People_p f_.People.length f__People_c,.slice f__Stations_p f_.Stations.length f__Stations_c] 78::Lf) w)
 have hr4 : ∀ (zz : Int) a w,x4 = .go zz → S4 zz a w → K2 a w := by
  rintro x a w rfl ⟨hf,hc⟩
  replace hF := exK_go hF
  refine h2 _ _ ?_
  refine zS fun K h => sp 1 hf rfl fun a hf => zT h ?_
  refine wp_ret ?_
  obtain rfl := sj hF
  exact zO1 Tryz.results97 hf rfl ⟨rfl,hc⟩
 have ho4 : ∀ r,x4 = .out r → r = res := by
  rintro r rfl
  exact sj hF
 refine cLoop N (loopW (S := S4) (x := x4) ?_ N 0 _ _ ⟨hf.kp rfl,hc⟩ hx4)
 clear hF hf hc
 rintro x st4 a w KB4 ⟨hf,hc⟩ hF hfin4 hK4
 unfold slices_IndexFunc_Lint_int_s2_b4 at hF
 refine zS fun K h => sp 1 hf rfl fun a hf => zT h ?_
 refine wp_seq_k fun K7 h7 => zI hf rfl hF ?_ ?_ <;> clear hF <;> intro hF
 ·refine wp_skip ?_
  refine h7 _ _ ?_
  refine wp_seq_k fun K8 h8 => wp_block ?_
  refine zS fun K h => sp 2 hf rfl fun a hf => zT h ?_
  refine zS fun K h => sp 3 hf rfl fun a hf => ?_
  obtain ⟨e_1,he_1,hF⟩ := bnd_some hF
  obtain ⟨b_1,o,qa,qp⟩ := h_s_.atm he_1
  refine zP hf rfl (pIA Tryz.underlying25 sz_3 rfl rfl qa) fun a hf => zE hf hc rfl (eLd1 sc_3 rfl (cell_pc (j := 0) qp rfl)) fun a w hf hc => zQ (v := .bool (crew_every_int_1 e_1 f_)) hf hc en_157 rfl (fun w hc => (crew_every_int_1_ok e_1 f_ h_f__People h_f__Stations ((hc.pick k1).pick k1) rfl).mono fun e w h => ⟨h.1,((h.2.unpick k1).unpick k1)⟩) fun a w hf hc => zT h ?_
  refine zI hf rfl hF ?_ ?_ <;> clear hF <;> intro hF
  ·refine zS fun K h => sp 2 hf rfl fun a hf => zT h ?_
   refine wp_ret ?_
   refine xBlkR ?_
   refine xThenR ?_
   refine xThenR ?_
   have he := sj hF
   rw [← he] at hfin4
   replace hF := ho4 _ hfin4
   refine xBlkR ?_
   refine xThenR ?_
   obtain rfl := hF
   exact zO1 Tryz.results97 hf rfl ⟨rfl,hc⟩
  ·refine wp_skip ?_
   refine h8 _ _ ?_
   refine cReg ?_
   refine sp 2 hf rfl fun a hf => cNil ?_
   exact hK4 (W (x + 1)) _ _ (sj hF).symm ⟨hf.kp rfl,hc⟩
 ·refine wp_exit ?_
  refine xThen ?_
  refine xThen ?_
  have he := sj hF
  rw [← he] at hfin4
  refine cHit ?_
  exact hr4 _ _ _ hfin4 ⟨hf.kp rfl,hc⟩

def slices_ContainsFunc_Lint_int_s2 (N : Nat) (s_ : List Int) (f_ : crew_Roster) : Option (Bool) :=
 Option.bind (slices_IndexFunc_Lint_int_s2 N s_ f_) fun r =>
 some (decide (0 ≤ r))
theorem slices_ContainsFunc_Lint_int_s2_ok {N : Nat} {G : Pers} {Lf : List Ent} {w : World} (s_ : List Int) (f_ : crew_Roster) {s__p : Option Addr} {s__c : Nat} {b_ : Nat} {b__1 : Nat} {f__People_p : Option Addr} {f__People_c : Nat} {f__Stations_p : Option Addr} {f__Stations_c : Nat} (h_s_ : Rd G 1 s__p s__c (s_.map encI_i64)) (h_f__People : RdT kd_25 G 1 f__People_p f__People_c f_.People) (h_f__Stations : RdT kd_101 G 2 f__Stations_p f__Stations_c f_.Stations) (hc : Ctx G (.box b_ [.func (.func 118) #[] #[pq b__1]] 143::.box b__1 [.slice f__People_p f_.People.length f__People_c,.slice f__Stations_p f_.Stations.length f__Stations_c] 78::Lf) w) {res : Bool} (hF : slices_ContainsFunc_Lint_int_s2 N s_ f_ = some res) : Calls Tryz.prog 113 #[.slice s__p s_.length s__c,.func (.func 157) #[] #[pq b_]] w (fun e w => e = .returned (.bool res) ∧ Ctx G (.box b_ [.func (.func 118) #[] #[pq b__1]] 143::.box b__1 [.slice f__People_p f_.People.length f__People_c,.slice f__Stations_p f_.Stations.length f__Stations_c] 78::Lf) w) := by
 unfold slices_ContainsFunc_Lint_int_s2 at hF
 refine fnIn Tryz.func113 rfl Tryz.ntmps113 rfl fun a hf => zS fun K h => sp 1 hf rfl fun a hf => zT h ?_
 refine zS fun K h => sp 2 hf rfl fun a hf => ?_
 obtain ⟨r,hr,hF⟩ := bnd_some hF
 refine zQ (v := i6 r) hf hc en_97 rfl (fun w hc => (slices_IndexFunc_Lint_int_s2_ok s_ f_ h_s_ h_f__People h_f__Stations ((hc.pick k1).pick k1) hr).mono fun e w h => ⟨h.1,((h.2.unpick k1).unpick k1)⟩) fun a w hf hc => sp 2 hf rfl fun a hf => zT h ?_
 refine wp_ret ?_
 obtain rfl := sj hF
 exact zO1 Tryz.results113 hf rfl ⟨rfl,hc⟩

def crew_every_int (N : Nat) (l : List Int) (so : crew_Roster) : Option (Bool) :=
 Option.bind (slices_ContainsFunc_Lint_int_s2 N l so) fun r =>
 some (!r)
theorem crew_every_int_ok {N : Nat} {G : Pers} {Lf : List Ent} {w : World} (l : List Int) (so : crew_Roster) {l_p : Option Addr} {l_c : Nat} {b_ : Nat} {so_People_p : Option Addr} {so_People_c : Nat} {so_Stations_p : Option Addr} {so_Stations_c : Nat} (h_l : Rd G 1 l_p l_c (l.map encI_i64)) (h_so_People : RdT kd_25 G 1 so_People_p so_People_c so.People) (h_so_Stations : RdT kd_101 G 2 so_Stations_p so_Stations_c so.Stations) (hc : Ctx G (.box b_ [.slice so_People_p so.People.length so_People_c,.slice so_Stations_p so.Stations.length so_Stations_c] 78::Lf) w) {res : Bool} (hF : crew_every_int N l so = some res) : Calls Tryz.prog 87 #[.slice l_p l.length l_c,.func (.func 118) #[] #[pq b_]] w (fun e w => e = .returned (.bool res) ∧ Ctx G (.box b_ [.slice so_People_p so.People.length so_People_c,.slice so_Stations_p so.Stations.length so_Stations_c] 78::Lf) w) := by
 unfold crew_every_int at hF
 refine fnIn Tryz.func87 rfl Tryz.ntmps87 rfl fun a hf => zS fun K h => zB hf hc rfl fun b_1 a w hf hc => sp 1 hf rfl fun a hf => zT h ?_
 refine zS fun K h => sp 1 hf rfl fun a hf => zP hf rfl (pMF (us := [pq b_1]) rfl rfl) fun a hf => ?_
 obtain ⟨r,hr,hF⟩ := bnd_some hF
 refine zQ (v := .bool r) hf hc en_113 rfl (fun w hc => (slices_ContainsFunc_Lint_int_s2_ok l so h_l h_so_People h_so_Stations ((hc.pick k1).pick k1) hr).mono fun e w h => ⟨h.1,((h.2.unpick k1).unpick k1)⟩) fun a w hf hc => sp 2 hf rfl fun a hf => zT h ?_
 refine wp_ret ?_
 obtain rfl := sj hF
 replace hc := hc.drop k0
 exact zO1 Tryz.results87 hf rfl ⟨rfl,hc⟩

def crew_Check_1 (N : Nat) (l : List Int) (x : crew_Roster) : Option (Bool) :=
 Option.bind (crew_every_int N l (⟨x.People,x.Stations⟩ : crew_Roster)) fun r =>
 some r
theorem crew_Check_1_ok {N : Nat} {G : Pers} {Lf : List Ent} {w : World} (l : List Int) (x : crew_Roster) {l_p : Option Addr} {l_c : Nat} {b_ : Nat} {x_People_p : Option Addr} {x_People_c : Nat} {x_Stations_p : Option Addr} {x_Stations_c : Nat} (h_l : Rd G 1 l_p l_c (l.map encI_i64)) (h_x_People : RdT kd_25 G 1 x_People_p x_People_c x.People) (h_x_Stations : RdT kd_101 G 2 x_Stations_p x_Stations_c x.Stations) (hc : Ctx G (.box b_ [.slice x_People_p x.People.length x_People_c,.slice x_Stations_p x.Stations.length x_Stations_c] 78::Lf) w) {res : Bool} (hF : crew_Check_1 N l x = some res) : Calls Tryz.prog 117 #[.slice l_p l.length l_c,pq b_] w (fun e w => e = .returned (.bool res) ∧ Ctx G (.box b_ [.slice x_People_p x.People.length x_People_c,.slice x_Stations_p x.Stations.length x_Stations_c] 78::Lf) w) := by
 unfold crew_Check_1 at hF
 refine fnIn Tryz.func117 rfl Tryz.ntmps117 rfl fun a hf => zS fun K h => sp 1 hf rfl fun a hf => zT h ?_
 refine zS fun K h => sp 1 hf rfl fun a hf => zP hf rfl (pMF (us := [pq b_]) rfl rfl) fun a hf => ?_
 obtain ⟨r,hr,hF⟩ := bnd_some hF
 refine zQ (v := .bool r) hf hc en_87 rfl (fun w hc => (crew_every_int_ok l (⟨x.People,x.Stations⟩ : crew_Roster) h_l h_x_People h_x_Stations (hc.pick k0) hr).mono fun e w h => ⟨h.1,(h.2.unpick k0)⟩) fun a w hf hc => sp 1 hf rfl fun a hf => zT h ?_
 refine wp_ret ?_
 obtain rfl := sj hF
 exact zO1 Tryz.results117 hf rfl ⟨rfl,hc⟩

def crew_every_Lint_1 (N : Nat) (x : List Int) (x_1 : crew_Roster) : Option (Bool) :=
 Option.bind (crew_Check_1 N x x_1) fun r =>
 some (!r)
theorem crew_every_Lint_1_ok {N : Nat} {G : Pers} {Lf : List Ent} {w : World} (x : List Int) (x_1 : crew_Roster) {x_p : Option Addr} {x_c : Nat} {b_ : Nat} {b__1 : Nat} {x_1_People_p : Option Addr} {x_1_People_c : Nat} {x_1_Stations_p : Option Addr} {x_1_Stations_c : Nat} (h_x : Rd G 1 x_p x_c (x.map encI_i64)) (h_x_1_People : RdT kd_25 G 1 x_1_People_p x_1_People_c x_1.People) (h_x_1_Stations : RdT kd_101 G 2 x_1_Stations_p x_1_Stations_c x_1.Stations) (hc : Ctx G (.box b_ [.func (.func 117) #[] #[pq b__1]] 185::.box b__1 [.slice x_1_People_p x_1.People.length x_1_People_c,.slice x_1_Stations_p x_1.Stations.length x_1_Stations_c] 78::Lf) w) {res : Bool} (hF : crew_every_Lint_1 N x x_1 = some res) : Calls Tryz.prog 169 #[.slice x_p x.length x_c,pq b_] w (fun e w => e = .returned (.bool res) ∧ Ctx G (.box b_ [.func (.func 117) #[] #[pq b__1]] 185::.box b__1 [.slice x_1_People_p x_1.People.length x_1_People_c,.slice x_1_Stations_p x_1.Stations.length x_1_Stations_c] 78::Lf) w) := by
 unfold crew_every_Lint_1 at hF
 refine fnIn Tryz.func169 rfl Tryz.ntmps169 rfl fun a hf => zS fun K h => sp 1 hf rfl fun a hf => zT h ?_
 refine zS fun K h => zL hf hc sc_185 m0 rfl fun a w hf hc => sp 1 hf rfl fun a hf => ?_
 obtain ⟨r,hr,hF⟩ := bnd_some hF
 refine zQ (v := .bool r) hf hc en_117 rfl (fun w hc => (crew_Check_1_ok x x_1 h_x h_x_1_People h_x_1_Stations (hc.pick k1) hr).mono fun e w h => ⟨h.1,(h.2.unpick k1)⟩) fun a w hf hc => sp 2 hf rfl fun a hf => zT h ?_
 refine wp_ret ?_
 obtain rfl := sj hF
 exact zO1 Tryz.results169 hf rfl ⟨rfl,hc⟩

def slices_IndexFunc_LLint_Lint_b4 (N : Nat) (s_ : List (List Int)) (f_ : crew_Roster) (x : Int) : Option (Step (Int) (Int)) :=
 cond (decide (x < ((s_.length : Nat) : Int)))
 (Option.bind (getI s_ x) fun e_1 =>
 Option.bind (crew_every_Lint_1 N e_1 f_) fun r =>
 cond r
 (some (.ret x))
 (some (.cont (W (x + 1)))))
 (some (.brk x))
def slices_IndexFunc_LLint_Lint (N : Nat) (s_ : List (List Int)) (f_ : crew_Roster) : Option (Int) :=
 Option.bind (loopO (fun s4 => slices_IndexFunc_LLint_Lint_b4 N s_ f_ s4) N 0) fun x4 =>
 exK x4 (fun s4 => some (-1)) some
theorem slices_IndexFunc_LLint_Lint_ok {N : Nat} {G : Pers} {Lf : List Ent} {w : World} (s_ : List (List Int)) (f_ : crew_Roster) {s__p : Option Addr} {s__c : Nat} {b_ : Nat} {b__1 : Nat} {f__People_p : Option Addr} {f__People_c : Nat} {f__Stations_p : Option Addr} {f__Stations_c : Nat} (h_s_ : RdT kd_25 G 1 s__p s__c s_) (h_f__People : RdT kd_25 G 1 f__People_p f__People_c f_.People) (h_f__Stations : RdT kd_101 G 2 f__Stations_p f__Stations_c f_.Stations) (hc : Ctx G (.box b_ [.func (.func 117) #[] #[pq b__1]] 185::.box b__1 [.slice f__People_p f_.People.length f__People_c,.slice f__Stations_p f_.Stations.length f__Stations_c] 78::Lf) w) {res : Int} (hF : slices_IndexFunc_LLint_Lint N s_ f_ = some res) : Calls Tryz.prog 191 #[.slice s__p s_.length s__c,.func (.func 169) #[] #[pq b_]] w (fun e w => e = .returned (i6 res) ∧ Ctx G (.box b_ [.func (.func 117) #[] #[pq b__1]] 185::.box b__1 [.slice f__People_p f_.People.length f__People_c,.slice f__Stations_p f_.Stations.length f__Stations_c] 78::Lf) w) := by
 unfold slices_IndexFunc_LLint_Lint at hF
 refine fnIn Tryz.func191 rfl Tryz.ntmps191 rfl fun a hf => zS fun K h => sp 1 hf rfl fun a hf => zT h ?_
 refine wp_seq_k fun K2 h2 => zS fun K h => sp 1 hf rfl fun a hf => zP hf rfl (pLenS Tryz.underlying75 rfl) fun a hf => sp 1 hf rfl fun a hf => zT h ?_
 refine wp_block ?_
 obtain ⟨x4,hx4,hF⟩ := bnd_some hF
 let S4 : Int → Act → World → Prop := (fun (zz : Int) a w => Has 19 a [(0,.slice s__p s_.length s__c),(1,.func (.func 169) #[] #[pq b_]),(7,i6 ((s_.length : Nat) : Int)),(8,i6 zz)] ∧ Ctx G (.box b_ [.func (.func 117) #[] #[pq b__1]] 185::.box b__1 [.slice f__People_p f_.People.length f__People_c,.slice f__Stations_p f_.Stations.length f__Stations_c] 78::Lf) w)
 have hr4 : ∀ (zz : Int) a w,x4 = .go zz → S4 zz a w → K2 a w := by
  rintro x a w rfl ⟨hf,hc⟩
  replace hF := exK_go hF
  refine h2 _ _ ?_
  refine zS fun K h => sp 1 hf rfl fun a hf => zT h ?_
  refine wp_ret ?_
  obtain rfl := sj hF
  exact zO1 Tryz.results191 hf rfl ⟨rfl,hc⟩
 have ho4 : ∀ r,x4 = .out r → r = res := by
  rintro r rfl
  exact sj hF
 refine cLoop N (loopW (S := S4) (x := x4) ?_ N 0 _ _ ⟨hf.kp rfl,hc⟩ hx4)
 clear hF hf hc
 rintro x st4 a w KB4 ⟨hf,hc⟩ hF hfin4 hK4
 unfold slices_IndexFunc_LLint_Lint_b4 at hF
 refine zS fun K h => sp 1 hf rfl fun a hf => zT h ?_
 refine wp_seq_k fun K7 h7 => zI hf rfl hF ?_ ?_ <;> clear hF <;> intro hF
 ·refine wp_skip ?_
  refine h7 _ _ ?_
  refine wp_seq_k fun K8 h8 => wp_block ?_
  refine zS fun K h => sp 2 hf rfl fun a hf => zT h ?_
  refine zS fun K h => sp 3 hf rfl fun a hf => ?_
  obtain ⟨e_1,he_1,hF⟩ := bnd_some hF
  obtain ⟨b_1,o,hd,qa,qp,qr⟩ := h_s_.atm he_1
  refine zP hf rfl (pIA Tryz.underlying75 sz_25 rfl rfl qa) fun a hf => zE hf hc rfl (eLd1 sc_25 rfl (cell_pc (j := 0) qp rfl)) fun a w hf hc => ?_
  obtain ⟨r,hr,hF⟩ := bnd_some hF
  refine zQ (v := .bool r) hf hc en_169 rfl (fun w hc => (crew_every_Lint_1_ok e_1 f_ qr h_f__People h_f__Stations ((hc.pick k1).pick k1) hr).mono fun e w h => ⟨h.1,((h.2.unpick k1).unpick k1)⟩) fun a w hf hc => zT h ?_
  refine zI hf rfl hF ?_ ?_ <;> clear hF <;> intro hF
  ·refine zS fun K h => sp 2 hf rfl fun a hf => zT h ?_
   refine wp_ret ?_
   refine xBlkR ?_
   refine xThenR ?_
   refine xThenR ?_
   have he := sj hF
   rw [← he] at hfin4
   replace hF := ho4 _ hfin4
   refine xBlkR ?_
   refine xThenR ?_
   obtain rfl := hF
   exact zO1 Tryz.results191 hf rfl ⟨rfl,hc⟩
  ·refine wp_skip ?_
   refine h8 _ _ ?_
   refine cReg ?_
   refine sp 2 hf rfl fun a hf => cNil ?_
   exact hK4 (W (x + 1)) _ _ (sj hF).symm ⟨hf.kp rfl,hc⟩
 ·refine wp_exit ?_
  refine xThen ?_
  refine xThen ?_
  have he := sj hF
  rw [← he] at hfin4
  refine cHit ?_
  exact hr4 _ _ _ hfin4 ⟨hf.kp rfl,hc⟩

def slices_ContainsFunc_LLint_Lint (N : Nat) (s_ : List (List Int)) (f_ : crew_Roster) : Option (Bool) :=
 Option.bind (slices_IndexFunc_LLint_Lint N s_ f_) fun r =>
 some (decide (0 ≤ r))
theorem slices_ContainsFunc_LLint_Lint_ok {N : Nat} {G : Pers} {Lf : List Ent} {w : World} (s_ : List (List Int)) (f_ : crew_Roster) {s__p : Option Addr} {s__c : Nat} {b_ : Nat} {b__1 : Nat} {f__People_p : Option Addr} {f__People_c : Nat} {f__Stations_p : Option Addr} {f__Stations_c : Nat} (h_s_ : RdT kd_25 G 1 s__p s__c s_) (h_f__People : RdT kd_25 G 1 f__People_p f__People_c f_.People) (h_f__Stations : RdT kd_101 G 2 f__Stations_p f__Stations_c f_.Stations) (hc : Ctx G (.box b_ [.func (.func 117) #[] #[pq b__1]] 185::.box b__1 [.slice f__People_p f_.People.length f__People_c,.slice f__Stations_p f_.Stations.length f__Stations_c] 78::Lf) w) {res : Bool} (hF : slices_ContainsFunc_LLint_Lint N s_ f_ = some res) : Calls Tryz.prog 168 #[.slice s__p s_.length s__c,.func (.func 169) #[] #[pq b_]] w (fun e w => e = .returned (.bool res) ∧ Ctx G (.box b_ [.func (.func 117) #[] #[pq b__1]] 185::.box b__1 [.slice f__People_p f_.People.length f__People_c,.slice f__Stations_p f_.Stations.length f__Stations_c] 78::Lf) w) := by
 unfold slices_ContainsFunc_LLint_Lint at hF
 refine fnIn Tryz.func168 rfl Tryz.ntmps168 rfl fun a hf => zS fun K h => sp 1 hf rfl fun a hf => zT h ?_
 refine zS fun K h => sp 2 hf rfl fun a hf => ?_
 obtain ⟨r,hr,hF⟩ := bnd_some hF
 refine zQ (v := i6 r) hf hc en_191 rfl (fun w hc => (slices_IndexFunc_LLint_Lint_ok s_ f_ h_s_ h_f__People h_f__Stations ((hc.pick k1).pick k1) hr).mono fun e w h => ⟨h.1,((h.2.unpick k1).unpick k1)⟩) fun a w hf hc => sp 2 hf rfl fun a hf => zT h ?_
 refine wp_ret ?_
 obtain rfl := sj hF
 exact zO1 Tryz.results168 hf rfl ⟨rfl,hc⟩

def crew_every_Lint (N : Nat) (l : List (List Int)) (so : crew_Roster) : Option (Bool) :=
 Option.bind (slices_ContainsFunc_LLint_Lint N l so) fun r =>
 some (!r)
theorem crew_every_Lint_ok {N : Nat} {G : Pers} {Lf : List Ent} {w : World} (l : List (List Int)) (so : crew_Roster) {l_p : Option Addr} {l_c : Nat} {b_ : Nat} {so_People_p : Option Addr} {so_People_c : Nat} {so_Stations_p : Option Addr} {so_Stations_c : Nat} (h_l : RdT kd_25 G 1 l_p l_c l) (h_so_People : RdT kd_25 G 1 so_People_p so_People_c so.People) (h_so_Stations : RdT kd_101 G 2 so_Stations_p so_Stations_c so.Stations) (hc : Ctx G (.box b_ [.slice so_People_p so.People.length so_People_c,.slice so_Stations_p so.Stations.length so_Stations_c] 78::Lf) w) {res : Bool} (hF : crew_every_Lint N l so = some res) : Calls Tryz.prog 116 #[.slice l_p l.length l_c,.func (.func 117) #[] #[pq b_]] w (fun e w => e = .returned (.bool res) ∧ Ctx G (.box b_ [.slice so_People_p so.People.length so_People_c,.slice so_Stations_p so.Stations.length so_Stations_c] 78::Lf) w) := by
 unfold crew_every_Lint at hF
 refine fnIn Tryz.func116 rfl Tryz.ntmps116 rfl fun a hf => zS fun K h => zB hf hc rfl fun b_1 a w hf hc => sp 1 hf rfl fun a hf => zT h ?_
 refine zS fun K h => sp 1 hf rfl fun a hf => zP hf rfl (pMF (us := [pq b_1]) rfl rfl) fun a hf => ?_
 obtain ⟨r,hr,hF⟩ := bnd_some hF
 refine zQ (v := .bool r) hf hc en_168 rfl (fun w hc => (slices_ContainsFunc_LLint_Lint_ok l so h_l h_so_People h_so_Stations ((hc.pick k1).pick k1) hr).mono fun e w h => ⟨h.1,((h.2.unpick k1).unpick k1)⟩) fun a w hf hc => sp 2 hf rfl fun a hf => zT h ?_
 refine wp_ret ?_
 obtain rfl := sj hF
 replace hc := hc.drop k0
 exact zO1 Tryz.results116 hf rfl ⟨rfl,hc⟩

def crew_Check_2_1 (p_ : Int) (x : crew_Roster) : Bool :=
 (crew_in p_ 0 (W (((x.People.length : Nat) : Int) - 1)))
theorem crew_Check_2_1_ok {G : Pers} {Lf : List Ent} {w : World} (p_ : Int) (x : crew_Roster) {b_ : Nat} {x_People_p : Option Addr} {x_People_c : Nat} {x_Stations_p : Option Addr} {x_Stations_c : Nat} (h_x_People : RdT kd_25 G 1 x_People_p x_People_c x.People) (h_x_Stations : RdT kd_101 G 2 x_Stations_p x_Stations_c x.Stations) (hc : Ctx G (.box b_ [.slice x_People_p x.People.length x_People_c,.slice x_Stations_p x.Stations.length x_Stations_c] 78::Lf) w) {res : Bool} (hF : crew_Check_2_1 p_ x = res) : Calls Tryz.prog 121 #[i6 p_,pq b_] w (fun e w => e = .returned (.bool res) ∧ Ctx G (.box b_ [.slice x_People_p x.People.length x_People_c,.slice x_Stations_p x.Stations.length x_Stations_c] 78::Lf) w) := by
 unfold crew_Check_2_1 at hF
 refine fnIn Tryz.func121 rfl Tryz.ntmps121 rfl fun a hf => zS fun K h => sp 1 hf rfl fun a hf => zT h ?_
 refine zS fun K h => sp 1 hf rfl fun a hf => zP hf rfl (pFA fa_78_0 rfl) fun a hf => zL hf hc sc_75 m0 rfl fun a w hf hc => zP hf rfl (pLenS Tryz.underlying75 rfl) fun a hf => sp 1 hf rfl fun a hf => zQ (v := .bool (crew_in p_ 0 (W (((x.People.length : Nat) : Int) - 1)))) hf hc en_86 rfl (fun w hc => crew_in_ok p_ 0 (W (((x.People.length : Nat) : Int) - 1)) hc rfl) fun a w hf hc => sp 1 hf rfl fun a hf => zT h ?_
 refine wp_ret ?_
 obtain rfl := hF
 exact zO1 Tryz.results121 hf rfl ⟨rfl,hc⟩

def crew_every_int_1_s2 (x : Int) (x_1 : crew_Roster) : Bool :=
 (!(crew_Check_2_1 x x_1))
theorem crew_every_int_1_s2_ok {G : Pers} {Lf : List Ent} {w : World} (x : Int) (x_1 : crew_Roster) {b_ : Nat} {b__1 : Nat} {x_1_People_p : Option Addr} {x_1_People_c : Nat} {x_1_Stations_p : Option Addr} {x_1_Stations_c : Nat} (h_x_1_People : RdT kd_25 G 1 x_1_People_p x_1_People_c x_1.People) (h_x_1_Stations : RdT kd_101 G 2 x_1_Stations_p x_1_Stations_c x_1.Stations) (hc : Ctx G (.box b_ [.func (.func 121) #[] #[pq b__1]] 143::.box b__1 [.slice x_1_People_p x_1.People.length x_1_People_c,.slice x_1_Stations_p x_1.Stations.length x_1_Stations_c] 78::Lf) w) {res : Bool} (hF : crew_every_int_1_s2 x x_1 = res) : Calls Tryz.prog 157 #[i6 x,pq b_] w (fun e w => e = .returned (.bool res) ∧ Ctx G (.box b_ [.func (.func 121) #[] #[pq b__1]] 143::.box b__1 [.slice x_1_People_p x_1.People.length x_1_People_c,.slice x_1_Stations_p x_1.Stations.length x_1_Stations_c] 78::Lf) w) := by
 unfold crew_every_int_1_s2 at hF
 refine fnIn Tryz.func157 rfl Tryz.ntmps157 rfl fun a hf => zS fun K h => sp 1 hf rfl fun a hf => zT h ?_
 refine zS fun K h => zL hf hc sc_143 m0 rfl fun a w hf hc => sp 1 hf rfl fun a hf => zQ (v := .bool (crew_Check_2_1 x x_1)) hf hc en_121 rfl (fun w hc => (crew_Check_2_1_ok x x_1 h_x_1_People h_x_1_Stations (hc.pick k1) rfl).mono fun e w h => ⟨h.1,(h.2.unpick k1)⟩) fun a w hf hc => sp 2 hf rfl fun a hf => zT h ?_
 refine wp_ret ?_
 obtain rfl := hF
 exact zO1 Tryz.results157 hf rfl ⟨rfl,hc⟩

def slices_IndexFunc_Lint_int_s3_b4 (N : Nat) (s_ : List Int) (f_ : crew_Roster) (x : Int) : Option (Step (Int) (Int)) :=
 cond (decide (x < ((s_.length : Nat) : Int)))
 (Option.bind (getI s_ x) fun e_1 =>
 cond (crew_every_int_1_s2 e_1 f_)
 (some (.ret x))
 (some (.cont (W (x + 1)))))
 (some (.brk x))
def slices_IndexFunc_Lint_int_s3 (N : Nat) (s_ : List Int) (f_ : crew_Roster) : Option (Int) :=
 Option.bind (loopO (fun s4 => slices_IndexFunc_Lint_int_s3_b4 N s_ f_ s4) N 0) fun x4 =>
 exK x4 (fun s4 => some (-1)) some
theorem slices_IndexFunc_Lint_int_s3_ok {N : Nat} {G : Pers} {Lf : List Ent} {w : World} (s_ : List Int) (f_ : crew_Roster) {s__p : Option Addr} {s__c : Nat} {b_ : Nat} {b__1 : Nat} {f__People_p : Option Addr} {f__People_c : Nat} {f__Stations_p : Option Addr} {f__Stations_c : Nat} (h_s_ : Rd G 1 s__p s__c (s_.map encI_i64)) (h_f__People : RdT kd_25 G 1 f__People_p f__People_c f_.People) (h_f__Stations : RdT kd_101 G 2 f__Stations_p f__Stations_c f_.Stations) (hc : Ctx G (.box b_ [.func (.func 121) #[] #[pq b__1]] 143::.box b__1 [.slice f__People_p f_.People.length f__People_c,.slice f__Stations_p f_.Stations.length f__Stations_c] 78::Lf) w) {res : Int} (hF : slices_IndexFunc_Lint_int_s3 N s_ f_ = some res) : Calls Tryz.prog 97 #[.slice s__p s_.length s__c,.func (.func 157) #[] #[pq b_]] w (fun e w => e = .returned (i6 res) ∧ Ctx G (.box b_ [.func (.func 121) #[] #[pq b__1]] 143::.box b__1 [.slice f__People_p f_.People.length f__People_c,.slice f__Stations_p f_.Stations.length f__Stations_c] 78::Lf) w) := by
 unfold slices_IndexFunc_Lint_int_s3 at hF
 refine fnIn Tryz.func97 rfl Tryz.ntmps97 rfl fun a hf => zS fun K h => sp 1 hf rfl fun a hf => zT h ?_
 refine wp_seq_k fun K2 h2 => zS fun K h => sp 1 hf rfl fun a hf => zP hf rfl (pLenS Tryz.underlying25 rfl) fun a hf => sp 1 hf rfl fun a hf => zT h ?_
 refine wp_block ?_
 obtain ⟨x4,hx4,hF⟩ := bnd_some hF
 let S4 : Int → Act → World → Prop := (fun (zz : Int) a w => Has 19 a [(0,.slice s__p s_.length s__c),(1,.func (.func 157) #[] #[pq b_]),(7,i6 ((s_.length : Nat) : Int)),(8,i6 zz)] ∧ Ctx G (.box b_ [.func (.func 121) #[] #[pq b__1]] 143::.box b__1 [.slice f__People_p f_.People.length f__People_c,.slice f__Stations_p f_.Stations.length f__Stations_c] 78::Lf) w)
 have hr4 : ∀ (zz : Int) a w,x4 = .go zz → S4 zz a w → K2 a w := by
  rintro x a w rfl ⟨hf,hc⟩
  replace hF := exK_go hF
  refine h2 _ _ ?_
  refine zS fun K h => sp 1 hf rfl fun a hf => zT h ?_
  refine wp_ret ?_
  obtain rfl := sj hF
  exact zO1 Tryz.results97 hf rfl ⟨rfl,hc⟩
 have ho4 : ∀ r,x4 = .out r → r = res := by
  rintro r rfl
  exact sj hF
 refine cLoop N (loopW (S := S4) (x := x4) ?_ N 0 _ _ ⟨hf.kp rfl,hc⟩ hx4)
 clear hF hf hc
 rintro x st4 a w KB4 ⟨hf,hc⟩ hF hfin4 hK4
 unfold slices_IndexFunc_Lint_int_s3_b4 at hF
 refine zS fun K h => sp 1 hf rfl fun a hf => zT h ?_
 refine wp_seq_k fun K7 h7 => zI hf rfl hF ?_ ?_ <;> clear hF <;> intro hF
 ·refine wp_skip ?_
  refine h7 _ _ ?_
  refine wp_seq_k fun K8 h8 => wp_block ?_
  refine zS fun K h => sp 2 hf rfl fun a hf => zT h ?_
  refine zS fun K h => sp 3 hf rfl fun a hf => ?_
  obtain ⟨e_1,he_1,hF⟩ := bnd_some hF
  obtain ⟨b_1,o,qa,qp⟩ := h_s_.atm he_1
  refine zP hf rfl (pIA Tryz.underlying25 sz_3 rfl rfl qa) fun a hf => zE hf hc rfl (eLd1 sc_3 rfl (cell_pc (j := 0) qp rfl)) fun a w hf hc => zQ (v := .bool (crew_every_int_1_s2 e_1 f_)) hf hc en_157 rfl (fun w hc => (crew_every_int_1_s2_ok e_1 f_ h_f__People h_f__Stations ((hc.pick k1).pick k1) rfl).mono fun e w h => ⟨h.1,((h.2.unpick k1).unpick k1)⟩) fun a w hf hc => zT h ?_
  refine zI hf rfl hF ?_ ?_ <;> clear hF <;> intro hF
  ·refine zS fun K h => sp 2 hf rfl fun a hf => zT h ?_
   refine wp_ret ?_
   refine xBlkR ?_
   refine xThenR ?_
   refine xThenR ?_
   have he := sj hF
   rw [← he] at hfin4
   replace hF := ho4 _ hfin4
   refine xBlkR ?_
   refine xThenR ?_
   obtain rfl := hF
   exact zO1 Tryz.results97 hf rfl ⟨rfl,hc⟩
  ·refine wp_skip ?_
   refine h8 _ _ ?_
   refine cReg ?_
   refine sp 2 hf rfl fun a hf => cNil ?_
   exact hK4 (W (x + 1)) _ _ (sj hF).symm ⟨hf.kp rfl,hc⟩
 ·refine wp_exit ?_
  refine xThen ?_
  refine xThen ?_
  have he := sj hF
  rw [← he] at hfin4
  refine cHit ?_
  exact hr4 _ _ _ hfin4 ⟨hf.kp rfl,hc⟩

def slices_ContainsFunc_Lint_int_s3 (N : Nat) (s_ : List Int) (f_ : crew_Roster) : Option (Bool) :=
 Option.bind (slices_IndexFunc_Lint_int_s3 N s_ f_) fun r =>
 some (decide (0 ≤ r))
theorem slices_ContainsFunc_Lint_int_s3_ok {N : Nat} {G : Pers} {Lf : List Ent} {w : World} (s_ : List Int) (f_ : crew_Roster) {s__p : Option Addr} {s__c : Nat} {b_ : Nat} {b__1 : Nat} {f__People_p : Option Addr} {f__People_c : Nat} {f__Stations_p : Option Addr} {f__Stations_c : Nat} (h_s_ : Rd G 1 s__p s__c (s_.map encI_i64)) (h_f__People : RdT kd_25 G 1 f__People_p f__People_c f_.People) (h_f__Stations : RdT kd_101 G 2 f__Stations_p f__Stations_c f_.Stations) (hc : Ctx G (.box b_ [.func (.func 121) #[] #[pq b__1]] 143::.box b__1 [.slice f__People_p f_.People.length f__People_c,.slice f__Stations_p f_.Stations.length f__Stations_c] 78::Lf) w) {res : Bool} (hF : slices_ContainsFunc_Lint_int_s3 N s_ f_ = some res) : Calls Tryz.prog 113 #[.slice s__p s_.length s__c,.func (.func 157) #[] #[pq b_]] w (fun e w => e = .returned (.bool res) ∧ Ctx G (.box b_ [.func (.func 121) #[] #[pq b__1]] 143::.box b__1 [.slice f__People_p f_.People.length f__People_c,.slice f__Stations_p f_.Stations.length f__Stations_c] 78::Lf) w) := by
 unfold slices_ContainsFunc_Lint_int_s3 at hF
 refine fnIn Tryz.func113 rfl Tryz.ntmps113 rfl fun a hf => zS fun K h => sp 1 hf rfl fun a hf => zT h ?_
 refine zS fun K h => sp 2 hf rfl fun a hf => ?_
 obtain ⟨r,hr,hF⟩ := bnd_some hF
 refine zQ (v := i6 r) hf hc en_97 rfl (fun w hc => (slices_IndexFunc_Lint_int_s3_ok s_ f_ h_s_ h_f__People h_f__Stations ((hc.pick k1).pick k1) hr).mono fun e w h => ⟨h.1,((h.2.unpick k1).unpick k1)⟩) fun a w hf hc => sp 2 hf rfl fun a hf => zT h ?_
 refine wp_ret ?_
 obtain rfl := sj hF
 exact zO1 Tryz.results113 hf rfl ⟨rfl,hc⟩

def crew_every_int_s2 (N : Nat) (l : List Int) (so : crew_Roster) : Option (Bool) :=
 Option.bind (slices_ContainsFunc_Lint_int_s3 N l so) fun r =>
 some (!r)
theorem crew_every_int_s2_ok {N : Nat} {G : Pers} {Lf : List Ent} {w : World} (l : List Int) (so : crew_Roster) {l_p : Option Addr} {l_c : Nat} {b_ : Nat} {so_People_p : Option Addr} {so_People_c : Nat} {so_Stations_p : Option Addr} {so_Stations_c : Nat} (h_l : Rd G 1 l_p l_c (l.map encI_i64)) (h_so_People : RdT kd_25 G 1 so_People_p so_People_c so.People) (h_so_Stations : RdT kd_101 G 2 so_Stations_p so_Stations_c so.Stations) (hc : Ctx G (.box b_ [.slice so_People_p so.People.length so_People_c,.slice so_Stations_p so.Stations.length so_Stations_c] 78::Lf) w) {res : Bool} (hF : crew_every_int_s2 N l so = some res) : Calls Tryz.prog 87 #[.slice l_p l.length l_c,.func (.func 121) #[] #[pq b_]] w (fun e w => e = .returned (.bool res) ∧ Ctx G (.box b_ [.slice so_People_p so.People.length so_People_c,.slice so_Stations_p so.Stations.length so_Stations_c] 78::Lf) w) := by
 unfold crew_every_int_s2 at hF
 refine fnIn Tryz.func87 rfl Tryz.ntmps87 rfl fun a hf => zS fun K h => zB hf hc rfl fun b_1 a w hf hc => sp 1 hf rfl fun a hf => zT h ?_
 refine zS fun K h => sp 1 hf rfl fun a hf => zP hf rfl (pMF (us := [pq b_1]) rfl rfl) fun a hf => ?_
 obtain ⟨r,hr,hF⟩ := bnd_some hF
 refine zQ (v := .bool r) hf hc en_113 rfl (fun w hc => (slices_ContainsFunc_Lint_int_s3_ok l so h_l h_so_People h_so_Stations ((hc.pick k1).pick k1) hr).mono fun e w h => ⟨h.1,((h.2.unpick k1).unpick k1)⟩) fun a w hf hc => sp 2 hf rfl fun a hf => zT h ?_
 refine wp_ret ?_
 obtain rfl := sj hF
 replace hc := hc.drop k0
 exact zO1 Tryz.results87 hf rfl ⟨rfl,hc⟩

def crew_Check_2 (N : Nat) (s_ : crew_Station) (x : crew_Roster) : Option (Bool) :=
 Option.bind (cond (crew_in s_.Places 1 12) (Option.bind (crew_every_int_s2 N s_.Order (⟨x.People,x.Stations⟩ : crew_Roster)) fun r =>
 some r) (some false)) fun t_1 =>
 some t_1
theorem crew_Check_2_ok {N : Nat} {G : Pers} {Lf : List Ent} {w : World} (s_ : crew_Station) (x : crew_Roster) {s__Order_p : Option Addr} {s__Order_c : Nat} {b_ : Nat} {x_People_p : Option Addr} {x_People_c : Nat} {x_Stations_p : Option Addr} {x_Stations_c : Nat} (h_s__Order : Rd G 1 s__Order_p s__Order_c (s_.Order.map encI_i64)) (h_x_People : RdT kd_25 G 1 x_People_p x_People_c x.People) (h_x_Stations : RdT kd_101 G 2 x_Stations_p x_Stations_c x.Stations) (hc : Ctx G (.box b_ [.slice x_People_p x.People.length x_People_c,.slice x_Stations_p x.Stations.length x_Stations_c] 78::Lf) w) {res : Bool} (hF : crew_Check_2 N s_ x = some res) : Calls Tryz.prog 120 #[.agg #[i6 s_.Places,.slice s__Order_p s_.Order.length s__Order_c],pq b_] w (fun e w => e = .returned (.bool res) ∧ Ctx G (.box b_ [.slice x_People_p x.People.length x_People_c,.slice x_Stations_p x.Stations.length x_Stations_c] 78::Lf) w) := by
 unfold crew_Check_2 at hF
 refine fnIn Tryz.func120 rfl Tryz.ntmps120 rfl fun a hf => zS fun K h => zB hf hc rfl fun b_1 a w hf hc => sp 1 hf rfl fun a hf => zT h ?_
 refine zS fun K h => zP hf rfl (pFA fa_101_0 rfl) fun a hf => zL hf hc sc_3 m0 rfl fun a w hf hc => zQ (v := .bool (crew_in s_.Places 1 12)) hf hc en_86 rfl (fun w hc => crew_in_ok s_.Places 1 12 hc rfl) fun a w hf hc => sp 1 hf rfl fun a hf => ?_
 obtain ⟨t_1,ht_1,hF⟩ := bnd_some hF
 refine stCc 5 (fun a => Has 13 a [(1,pq b_),(2,pq b_1),(3,.bool false),(4,pq b_1),(5,i6 s_.Places),(6,.bool (crew_in s_.Places 1 12)),(7,.bool (crew_in s_.Places 1 12)),(12,.bool t_1)]) hc ?_ ?_
 ·cases hb : (crew_in s_.Places 1 12)
  ·rw [hb] at hf
   have hF := condF hb ht_1
   obtain rfl := sj hF
   refine stS hf rfl rfl rfl fun a hf => stS hf rfl rfl rfl fun a hf => stS hf rfl rfl rfl fun a hf => stS hf rfl rfl rfl fun a hf => sp 1 hf rfl fun a hf => cNil ⟨hf.kp rfl,hc⟩
  ·rw [hb] at hf
   have hF := condT hb ht_1
   refine zP hf rfl (pFA fa_101_1 rfl) fun a hf => zL hf hc sc_25 m0 rfl fun a w hf hc => zP hf rfl (pMF (us := [pq b_]) rfl rfl) fun a hf => ?_
   obtain ⟨r,hr,hF⟩ := bnd_some hF
   refine zQ (v := .bool r) hf hc en_87 rfl (fun w hc => (crew_every_int_s2_ok s_.Order (⟨x.People,x.Stations⟩ : crew_Roster) h_s__Order h_x_People h_x_Stations (hc.pick k1) hr).mono fun e w h => ⟨h.1,(h.2.unpick k1)⟩) fun a w hf hc => sp 1 hf rfl fun a hf => ?_
   obtain rfl := sj hF
   exact cNil ⟨hf.kp rfl,hc⟩
 intro a w ⟨hf,hc⟩
 refine sp 1 hf rfl fun a hf => zT h ?_
 refine wp_ret ?_
 obtain rfl := sj hF
 replace hc := hc.drop k0
 exact zO1 Tryz.results120 hf rfl ⟨rfl,hc⟩

def crew_every_crew_Station_1 (N : Nat) (x : crew_Station) (x_1 : crew_Roster) : Option (Bool) :=
 Option.bind (crew_Check_2 N x x_1) fun r =>
 some (!r)
theorem crew_every_crew_Station_1_ok {N : Nat} {G : Pers} {Lf : List Ent} {w : World} (x : crew_Station) (x_1 : crew_Roster) {x_Order_p : Option Addr} {x_Order_c : Nat} {b_ : Nat} {b__1 : Nat} {x_1_People_p : Option Addr} {x_1_People_c : Nat} {x_1_Stations_p : Option Addr} {x_1_Stations_c : Nat} (h_x_Order : Rd G 1 x_Order_p x_Order_c (x.Order.map encI_i64)) (h_x_1_People : RdT kd_25 G 1 x_1_People_p x_1_People_c x_1.People) (h_x_1_Stations : RdT kd_101 G 2 x_1_Stations_p x_1_Stations_c x_1.Stations) (hc : Ctx G (.box b_ [.func (.func 120) #[] #[pq b__1]] 187::.box b__1 [.slice x_1_People_p x_1.People.length x_1_People_c,.slice x_1_Stations_p x_1.Stations.length x_1_Stations_c] 78::Lf) w) {res : Bool} (hF : crew_every_crew_Station_1 N x x_1 = some res) : Calls Tryz.prog 171 #[.agg #[i6 x.Places,.slice x_Order_p x.Order.length x_Order_c],pq b_] w (fun e w => e = .returned (.bool res) ∧ Ctx G (.box b_ [.func (.func 120) #[] #[pq b__1]] 187::.box b__1 [.slice x_1_People_p x_1.People.length x_1_People_c,.slice x_1_Stations_p x_1.Stations.length x_1_Stations_c] 78::Lf) w) := by
 unfold crew_every_crew_Station_1 at hF
 refine fnIn Tryz.func171 rfl Tryz.ntmps171 rfl fun a hf => zS fun K h => zB hf hc rfl fun b_1 a w hf hc => sp 1 hf rfl fun a hf => zT h ?_
 refine zS fun K h => zL hf hc sc_187 m1 rfl fun a w hf hc => zN hf hc ag_101 m0 rfl fun a w hf hc => ?_
 obtain ⟨r,hr,hF⟩ := bnd_some hF
 refine zQ (v := .bool r) hf hc en_120 rfl (fun w hc => (crew_Check_2_ok x x_1 h_x_Order h_x_1_People h_x_1_Stations (hc.pick k2) hr).mono fun e w h => ⟨h.1,(h.2.unpick k2)⟩) fun a w hf hc => sp 2 hf rfl fun a hf => zT h ?_
 refine wp_ret ?_
 obtain rfl := sj hF
 replace hc := hc.drop k0
 exact zO1 Tryz.results171 hf rfl ⟨rfl,hc⟩

def slices_IndexFunc_Lcrew_Station_crew_Station_b4 (N : Nat) (s_ : List crew_Station) (f_ : crew_Roster) (x : Int) : Option (Step (Int) (Int)) :=
 cond (decide (x < ((s_.length : Nat) : Int)))
 (Option.bind (getI s_ x) fun e_1 =>
 Option.bind (crew_every_crew_Station_1 N e_1 f_) fun r =>
 cond r
 (some (.ret x))
 (some (.cont (W (x + 1)))))
 (some (.brk x))
def slices_IndexFunc_Lcrew_Station_crew_Station (N : Nat) (s_ : List crew_Station) (f_ : crew_Roster) : Option (Int) :=
 Option.bind (loopO (fun s4 => slices_IndexFunc_Lcrew_Station_crew_Station_b4 N s_ f_ s4) N 0) fun x4 =>
 exK x4 (fun s4 => some (-1)) some
theorem slices_IndexFunc_Lcrew_Station_crew_Station_ok {N : Nat} {G : Pers} {Lf : List Ent} {w : World} (s_ : List crew_Station) (f_ : crew_Roster) {s__p : Option Addr} {s__c : Nat} {b_ : Nat} {b__1 : Nat} {f__People_p : Option Addr} {f__People_c : Nat} {f__Stations_p : Option Addr} {f__Stations_c : Nat} (h_s_ : RdT kd_101 G 2 s__p s__c s_) (h_f__People : RdT kd_25 G 1 f__People_p f__People_c f_.People) (h_f__Stations : RdT kd_101 G 2 f__Stations_p f__Stations_c f_.Stations) (hc : Ctx G (.box b_ [.func (.func 120) #[] #[pq b__1]] 187::.box b__1 [.slice f__People_p f_.People.length f__People_c,.slice f__Stations_p f_.Stations.length f__Stations_c] 78::Lf) w) {res : Int} (hF : slices_IndexFunc_Lcrew_Station_crew_Station N s_ f_ = some res) : Calls Tryz.prog 192 #[.slice s__p s_.length s__c,.func (.func 171) #[] #[pq b_]] w (fun e w => e = .returned (i6 res) ∧ Ctx G (.box b_ [.func (.func 120) #[] #[pq b__1]] 187::.box b__1 [.slice f__People_p f_.People.length f__People_c,.slice f__Stations_p f_.Stations.length f__Stations_c] 78::Lf) w) := by
 unfold slices_IndexFunc_Lcrew_Station_crew_Station at hF
 refine fnIn Tryz.func192 rfl Tryz.ntmps192 rfl fun a hf => zS fun K h => sp 1 hf rfl fun a hf => zT h ?_
 refine wp_seq_k fun K2 h2 => zS fun K h => sp 1 hf rfl fun a hf => zP hf rfl (pLenS Tryz.underlying76 rfl) fun a hf => sp 1 hf rfl fun a hf => zT h ?_
 refine wp_block ?_
 obtain ⟨x4,hx4,hF⟩ := bnd_some hF
 let S4 : Int → Act → World → Prop := (fun (zz : Int) a w => Has 19 a [(0,.slice s__p s_.length s__c),(1,.func (.func 171) #[] #[pq b_]),(7,i6 ((s_.length : Nat) : Int)),(8,i6 zz)] ∧ Ctx G (.box b_ [.func (.func 120) #[] #[pq b__1]] 187::.box b__1 [.slice f__People_p f_.People.length f__People_c,.slice f__Stations_p f_.Stations.length f__Stations_c] 78::Lf) w)
 have hr4 : ∀ (zz : Int) a w,x4 = .go zz → S4 zz a w → K2 a w := by
  rintro x a w rfl ⟨hf,hc⟩
  replace hF := exK_go hF
  refine h2 _ _ ?_
  refine zS fun K h => sp 1 hf rfl fun a hf => zT h ?_
  refine wp_ret ?_
  obtain rfl := sj hF
  exact zO1 Tryz.results192 hf rfl ⟨rfl,hc⟩
 have ho4 : ∀ r,x4 = .out r → r = res := by
  rintro r rfl
  exact sj hF
 refine cLoop N (loopW (S := S4) (x := x4) ?_ N 0 _ _ ⟨hf.kp rfl,hc⟩ hx4)
 clear hF hf hc
 rintro x st4 a w KB4 ⟨hf,hc⟩ hF hfin4 hK4
 unfold slices_IndexFunc_Lcrew_Station_crew_Station_b4 at hF
 refine zS fun K h => sp 1 hf rfl fun a hf => zT h ?_
 refine wp_seq_k fun K7 h7 => zI hf rfl hF ?_ ?_ <;> clear hF <;> intro hF
 ·refine wp_skip ?_
  refine h7 _ _ ?_
  refine wp_seq_k fun K8 h8 => wp_block ?_
  refine zS fun K h => sp 2 hf rfl fun a hf => zT h ?_
  refine zS fun K h => sp 3 hf rfl fun a hf => ?_
  obtain ⟨e_1,he_1,hF⟩ := bnd_some hF
  obtain ⟨b_1,o,hd,qa,qp,qr⟩ := h_s_.atm he_1
  refine zP hf rfl (pIA Tryz.underlying76 sz_101 rfl rfl qa) fun a hf => zE hf hc rfl (eLdN (vs := [i6 e_1.Places,.slice hd.1 e_1.Order.length hd.2]) ag_101 rfl rfl (cells_pc qp (n := 2) (o' := 0) rfl)) fun a w hf hc => ?_
  obtain ⟨r,hr,hF⟩ := bnd_some hF
  refine zQ (v := .bool r) hf hc en_171 rfl (fun w hc => (crew_every_crew_Station_1_ok e_1 f_ qr h_f__People h_f__Stations ((hc.pick k1).pick k1) hr).mono fun e w h => ⟨h.1,((h.2.unpick k1).unpick k1)⟩) fun a w hf hc => zT h ?_
  refine zI hf rfl hF ?_ ?_ <;> clear hF <;> intro hF
  ·refine zS fun K h => sp 2 hf rfl fun a hf => zT h ?_
   refine wp_ret ?_
   refine xBlkR ?_
   refine xThenR ?_
   refine xThenR ?_
   have he := sj hF
   rw [← he] at hfin4
   replace hF := ho4 _ hfin4
   refine xBlkR ?_
   refine xThenR ?_
   obtain rfl := hF
   exact zO1 Tryz.results192 hf rfl ⟨rfl,hc⟩
  ·refine wp_skip ?_
   refine h8 _ _ ?_
   refine cReg ?_
   refine sp 2 hf rfl fun a hf => cNil ?_
   exact hK4 (W (x + 1)) _ _ (sj hF).symm ⟨hf.kp rfl,hc⟩
 ·refine wp_exit ?_
  refine xThen ?_
  refine xThen ?_
  have he := sj hF
  rw [← he] at hfin4
  refine cHit ?_
  exact hr4 _ _ _ hfin4 ⟨hf.kp rfl,hc⟩

def slices_ContainsFunc_Lcrew_Station_crew_Station (N : Nat) (s_ : List crew_Station) (f_ : crew_Roster) : Option (Bool) :=
 Option.bind (slices_IndexFunc_Lcrew_Station_crew_Station N s_ f_) fun r =>
 some (decide (0 ≤ r))
theorem slices_ContainsFunc_Lcrew_Station_crew_Station_ok {N : Nat} {G : Pers} {Lf : List Ent} {w : World} (s_ : List crew_Station) (f_ : crew_Roster) {s__p : Option Addr} {s__c : Nat} {b_ : Nat} {b__1 : Nat} {f__People_p : Option Addr} {f__People_c : Nat} {f__Stations_p : Option Addr} {f__Stations_c : Nat} (h_s_ : RdT kd_101 G 2 s__p s__c s_) (h_f__People : RdT kd_25 G 1 f__People_p f__People_c f_.People) (h_f__Stations : RdT kd_101 G 2 f__Stations_p f__Stations_c f_.Stations) (hc : Ctx G (.box b_ [.func (.func 120) #[] #[pq b__1]] 187::.box b__1 [.slice f__People_p f_.People.length f__People_c,.slice f__Stations_p f_.Stations.length f__Stations_c] 78::Lf) w) {res : Bool} (hF : slices_ContainsFunc_Lcrew_Station_crew_Station N s_ f_ = some res) : Calls Tryz.prog 170 #[.slice s__p s_.length s__c,.func (.func 171) #[] #[pq b_]] w (fun e w => e = .returned (.bool res) ∧ Ctx G (.box b_ [.func (.func 120) #[] #[pq b__1]] 187::.box b__1 [.slice f__People_p f_.People.length f__People_c,.slice f__Stations_p f_.Stations.length f__Stations_c] 78::Lf) w) := by
 unfold slices_ContainsFunc_Lcrew_Station_crew_Station at hF
 refine fnIn Tryz.func170 rfl Tryz.ntmps170 rfl fun a hf => zS fun K h => sp 1 hf rfl fun a hf => zT h ?_
 refine zS fun K h => sp 2 hf rfl fun a hf => ?_
 obtain ⟨r,hr,hF⟩ := bnd_some hF
 refine zQ (v := i6 r) hf hc en_192 rfl (fun w hc => (slices_IndexFunc_Lcrew_Station_crew_Station_ok s_ f_ h_s_ h_f__People h_f__Stations ((hc.pick k1).pick k1) hr).mono fun e w h => ⟨h.1,((h.2.unpick k1).unpick k1)⟩) fun a w hf hc => sp 2 hf rfl fun a hf => zT h ?_
 refine wp_ret ?_
 obtain rfl := sj hF
 exact zO1 Tryz.results170 hf rfl ⟨rfl,hc⟩

def crew_every_crew_Station (N : Nat) (l : List crew_Station) (so : crew_Roster) : Option (Bool) :=
 Option.bind (slices_ContainsFunc_Lcrew_Station_crew_Station N l so) fun r =>
 some (!r)
theorem crew_every_crew_Station_ok {N : Nat} {G : Pers} {Lf : List Ent} {w : World} (l : List crew_Station) (so : crew_Roster) {l_p : Option Addr} {l_c : Nat} {b_ : Nat} {so_People_p : Option Addr} {so_People_c : Nat} {so_Stations_p : Option Addr} {so_Stations_c : Nat} (h_l : RdT kd_101 G 2 l_p l_c l) (h_so_People : RdT kd_25 G 1 so_People_p so_People_c so.People) (h_so_Stations : RdT kd_101 G 2 so_Stations_p so_Stations_c so.Stations) (hc : Ctx G (.box b_ [.slice so_People_p so.People.length so_People_c,.slice so_Stations_p so.Stations.length so_Stations_c] 78::Lf) w) {res : Bool} (hF : crew_every_crew_Station N l so = some res) : Calls Tryz.prog 119 #[.slice l_p l.length l_c,.func (.func 120) #[] #[pq b_]] w (fun e w => e = .returned (.bool res) ∧ Ctx G (.box b_ [.slice so_People_p so.People.length so_People_c,.slice so_Stations_p so.Stations.length so_Stations_c] 78::Lf) w) := by
 unfold crew_every_crew_Station at hF
 refine fnIn Tryz.func119 rfl Tryz.ntmps119 rfl fun a hf => zS fun K h => zB hf hc rfl fun b_1 a w hf hc => sp 1 hf rfl fun a hf => zT h ?_
 refine zS fun K h => sp 1 hf rfl fun a hf => zP hf rfl (pMF (us := [pq b_1]) rfl rfl) fun a hf => ?_
 obtain ⟨r,hr,hF⟩ := bnd_some hF
 refine zQ (v := .bool r) hf hc en_170 rfl (fun w hc => (slices_ContainsFunc_Lcrew_Station_crew_Station_ok l so h_l h_so_People h_so_Stations ((hc.pick k1).pick k1) hr).mono fun e w h => ⟨h.1,((h.2.unpick k1).unpick k1)⟩) fun a w hf hc => sp 2 hf rfl fun a hf => zT h ?_
 refine wp_ret ?_
 obtain rfl := sj hF
 replace hc := hc.drop k0
 exact zO1 Tryz.results119 hf rfl ⟨rfl,hc⟩

def slices_Index_Lint_int_b4 (N : Nat) (s_ : List Int) (v : Int) (x : Int) : Option (Step (Int) (Int)) :=
 cond (decide (x < ((s_.length : Nat) : Int)))
 (Option.bind (getI s_ x) fun e_1 =>
 cond (v == e_1)
 (some (.ret x))
 (some (.cont (W (x + 1)))))
 (some (.brk x))
def slices_Index_Lint_int (N : Nat) (s_ : List Int) (v : Int) : Option (Int) :=
 Option.bind (loopO (fun s4 => slices_Index_Lint_int_b4 N s_ v s4) N 0) fun x4 =>
 exK x4 (fun s4 => some (-1)) some
theorem slices_Index_Lint_int_ok {N : Nat} {G : Pers} {Lf : List Ent} {w : World} (s_ : List Int) (v : Int) {s__p : Option Addr} {s__c : Nat} (h_s_ : Rd G 1 s__p s__c (s_.map encI_i64)) (hc : Ctx G (Lf) w) {res : Int} (hF : slices_Index_Lint_int N s_ v = some res) : Calls Tryz.prog 114 #[.slice s__p s_.length s__c,i6 v] w (fun e w => e = .returned (i6 res) ∧ Ctx G (Lf) w) := by
 unfold slices_Index_Lint_int at hF
 refine fnIn Tryz.func114 rfl Tryz.ntmps114 rfl fun a hf => zS fun K h => sp 1 hf rfl fun a hf => zT h ?_
 refine wp_seq_k fun K2 h2 => zS fun K h => sp 1 hf rfl fun a hf => zP hf rfl (pLenS Tryz.underlying25 rfl) fun a hf => sp 1 hf rfl fun a hf => zT h ?_
 refine wp_block ?_
 obtain ⟨x4,hx4,hF⟩ := bnd_some hF
 let S4 : Int → Act → World → Prop := (fun (zz : Int) a w => Has 19 a [(0,.slice s__p s_.length s__c),(1,i6 v),(7,i6 ((s_.length : Nat) : Int)),(8,i6 zz)] ∧ Ctx G (Lf) w)
 have hr4 : ∀ (zz : Int) a w,x4 = .go zz → S4 zz a w → K2 a w := by
  rintro x a w rfl ⟨hf,hc⟩
  replace hF := exK_go hF
  refine h2 _ _ ?_
  refine zS fun K h => sp 1 hf rfl fun a hf => zT h ?_
  refine wp_ret ?_
  obtain rfl := sj hF
  exact zO1 Tryz.results114 hf rfl ⟨rfl,hc⟩
 have ho4 : ∀ r,x4 = .out r → r = res := by
  rintro r rfl
  exact sj hF
 refine cLoop N (loopW (S := S4) (x := x4) ?_ N 0 _ _ ⟨hf.kp rfl,hc⟩ hx4)
 clear hF hf hc
 rintro x st4 a w KB4 ⟨hf,hc⟩ hF hfin4 hK4
 unfold slices_Index_Lint_int_b4 at hF
 refine zS fun K h => sp 1 hf rfl fun a hf => zT h ?_
 refine wp_seq_k fun K7 h7 => zI hf rfl hF ?_ ?_ <;> clear hF <;> intro hF
 ·refine wp_skip ?_
  refine h7 _ _ ?_
  refine wp_seq_k fun K8 h8 => wp_block ?_
  refine zS fun K h => sp 2 hf rfl fun a hf => zT h ?_
  refine zS fun K h => sp 3 hf rfl fun a hf => ?_
  obtain ⟨e_1,he_1,hF⟩ := bnd_some hF
  obtain ⟨b_1,o,qa,qp⟩ := h_s_.atm he_1
  refine zP hf rfl (pIA Tryz.underlying25 sz_3 rfl rfl qa) fun a hf => zE hf hc rfl (eLd1 sc_3 rfl (cell_pc (j := 0) qp rfl)) fun a w hf hc => sp 1 hf rfl fun a hf => zT h ?_
  refine zI hf rfl hF ?_ ?_ <;> clear hF <;> intro hF
  ·refine zS fun K h => sp 2 hf rfl fun a hf => zT h ?_
   refine wp_ret ?_
   refine xBlkR ?_
   refine xThenR ?_
   refine xThenR ?_
   have he := sj hF
   rw [← he] at hfin4
   replace hF := ho4 _ hfin4
   refine xBlkR ?_
   refine xThenR ?_
   obtain rfl := hF
   exact zO1 Tryz.results114 hf rfl ⟨rfl,hc⟩
  ·refine wp_skip ?_
   refine h8 _ _ ?_
   refine cReg ?_
   refine sp 2 hf rfl fun a hf => cNil ?_
   exact hK4 (W (x + 1)) _ _ (sj hF).symm ⟨hf.kp rfl,hc⟩
 ·refine wp_exit ?_
  refine xThen ?_
  refine xThen ?_
  have he := sj hF
  rw [← he] at hfin4
  refine cHit ?_
  exact hr4 _ _ _ hfin4 ⟨hf.kp rfl,hc⟩

def slices_Contains_Lint_int (N : Nat) (s_ : List Int) (v : Int) : Option (Bool) :=
 Option.bind (slices_Index_Lint_int N s_ v) fun r =>
 some (decide (0 ≤ r))
theorem slices_Contains_Lint_int_ok {N : Nat} {G : Pers} {Lf : List Ent} {w : World} (s_ : List Int) (v : Int) {s__p : Option Addr} {s__c : Nat} (h_s_ : Rd G 1 s__p s__c (s_.map encI_i64)) (hc : Ctx G (Lf) w) {res : Bool} (hF : slices_Contains_Lint_int N s_ v = some res) : Calls Tryz.prog 72 #[.slice s__p s_.length s__c,i6 v] w (fun e w => e = .returned (.bool res) ∧ Ctx G (Lf) w) := by
 unfold slices_Contains_Lint_int at hF
 refine fnIn Tryz.func72 rfl Tryz.ntmps72 rfl fun a hf => zS fun K h => sp 1 hf rfl fun a hf => zT h ?_
 refine zS fun K h => sp 2 hf rfl fun a hf => ?_
 obtain ⟨r,hr,hF⟩ := bnd_some hF
 refine zQ (v := i6 r) hf hc en_114 rfl (fun w hc => slices_Index_Lint_int_ok s_ v h_s_ hc hr) fun a w hf hc => sp 2 hf rfl fun a hf => zT h ?_
 refine wp_ret ?_
 obtain rfl := sj hF
 exact zO1 Tryz.results72 hf rfl ⟨rfl,hc⟩

def crew_once_b4 (N : Nat) (l : List Int) (x : Int) : Option (Step (Int) (Bool)) :=
 cond (decide (x < ((l.length : Nat) : Int)))
 (Option.bind (getI l x) fun e_1 =>
 Option.bind (subO l 0 x) fun sub =>
 Option.bind (slices_Contains_Lint_int N sub e_1) fun r =>
 cond r
 (some (.ret false))
 (some (.cont (W (x + 1)))))
 (some (.brk x))
def crew_once (N : Nat) (l : List Int) : Option (Bool) :=
 Option.bind (loopO (fun s4 => crew_once_b4 N l s4) N 0) fun x4 =>
 exK x4 (fun s4 => some true) some
theorem crew_once_ok {N : Nat} {G : Pers} {Lf : List Ent} {w : World} (l : List Int) {l_p : Option Addr} {l_c : Nat} (h_l : Rd G 1 l_p l_c (l.map encI_i64)) (hc : Ctx G (Lf) w) {res : Bool} (hF : crew_once N l = some res) : Calls Tryz.prog 122 #[.slice l_p l.length l_c] w (fun e w => e = .returned (.bool res) ∧ Ctx G (Lf) w) := by
 unfold crew_once at hF
 refine fnIn Tryz.func122 rfl Tryz.ntmps122 rfl fun a hf => zS fun K h => sp 1 hf rfl fun a hf => zT h ?_
 refine wp_seq_k fun K2 h2 => zS fun K h => sp 1 hf rfl fun a hf => zP hf rfl (pLenS Tryz.underlying25 rfl) fun a hf => sp 1 hf rfl fun a hf => zT h ?_
 refine wp_block ?_
 obtain ⟨x4,hx4,hF⟩ := bnd_some hF
 let S4 : Int → Act → World → Prop := (fun (zz : Int) a w => Has 18 a [(0,.slice l_p l.length l_c),(5,.slice l_p l.length l_c),(6,i6 ((l.length : Nat) : Int)),(7,i6 zz)] ∧ Ctx G (Lf) w)
 have hr4 : ∀ (zz : Int) a w,x4 = .go zz → S4 zz a w → K2 a w := by
  rintro x a w rfl ⟨hf,hc⟩
  replace hF := exK_go hF
  refine h2 _ _ ?_
  refine zS fun K h => sp 1 hf rfl fun a hf => zT h ?_
  refine wp_ret ?_
  obtain rfl := sj hF
  exact zO1 Tryz.results122 hf rfl ⟨rfl,hc⟩
 have ho4 : ∀ r,x4 = .out r → r = res := by
  rintro r rfl
  exact sj hF
 refine cLoop N (loopW (S := S4) (x := x4) ?_ N 0 _ _ ⟨hf.kp rfl,hc⟩ hx4)
 clear hF hf hc
 rintro x st4 a w KB4 ⟨hf,hc⟩ hF hfin4 hK4
 unfold crew_once_b4 at hF
 refine zS fun K h => sp 1 hf rfl fun a hf => zT h ?_
 refine wp_seq_k fun K7 h7 => zI hf rfl hF ?_ ?_ <;> clear hF <;> intro hF
 ·refine wp_skip ?_
  refine h7 _ _ ?_
  refine wp_seq_k fun K8 h8 => wp_block ?_
  refine zS fun K h => sp 1 hf rfl fun a hf => ?_
  obtain ⟨e_1,he_1,hF⟩ := bnd_some hF
  obtain ⟨b_1,o,qa,qp⟩ := h_l.atm he_1
  refine zP hf rfl (pIA Tryz.underlying25 sz_3 rfl rfl qa) fun a hf => zE hf hc rfl (eLd1 sc_3 rfl (cell_pc (j := 0) qp rfl)) fun a w hf hc => sp 2 hf rfl fun a hf => zT h ?_
  refine zS fun K h => sp 2 hf rfl fun a hf => ?_
  obtain ⟨sub,hsub,hF⟩ := bnd_some hF
  have qs := Rd.sub h_l hsub
  refine zP hf rfl (pSl Tryz.underlying25 sz_3 rfl rfl (by simpa using h_l.1) rfl rfl hsub) fun a hf => sp 1 hf rfl fun a hf => ?_
  obtain ⟨r,hr,hF⟩ := bnd_some hF
  refine zQ (v := .bool r) hf hc en_72 rfl (fun w hc => slices_Contains_Lint_int_ok sub e_1 qs hc hr) fun a w hf hc => zT h ?_
  refine zI hf rfl hF ?_ ?_ <;> clear hF <;> intro hF
  ·refine zS fun K h => sp 1 hf rfl fun a hf => zT h ?_
   refine wp_ret ?_
   refine xBlkR ?_
   refine xThenR ?_
   refine xThenR ?_
   have he := sj hF
   rw [← he] at hfin4
   replace hF := ho4 _ hfin4
   refine xBlkR ?_
   refine xThenR ?_
   obtain rfl := hF
   exact zO1 Tryz.results122 hf rfl ⟨rfl,hc⟩
  ·refine wp_skip ?_
   refine h8 _ _ ?_
   refine cReg ?_
   refine sp 2 hf rfl fun a hf => cNil ?_
   exact hK4 (W (x + 1)) _ _ (sj hF).symm ⟨hf.kp rfl,hc⟩
 ·refine wp_exit ?_
  refine xThen ?_
  refine xThen ?_
  have he := sj hF
  rw [← he] at hfin4
  refine cHit ?_
  exact hr4 _ _ _ hfin4 ⟨hf.kp rfl,hc⟩

def crew_every_Lint_1_s2 (N : Nat) (x : List Int) : Option (Bool) :=
 Option.bind (crew_once N x) fun r =>
 some (!r)
theorem crew_every_Lint_1_s2_ok {N : Nat} {G : Pers} {Lf : List Ent} {w : World} (x : List Int) {x_p : Option Addr} {x_c : Nat} {b_ : Nat} (h_x : Rd G 1 x_p x_c (x.map encI_i64)) (hc : Ctx G (.box b_ [.func (.func 122) #[] #[]] 185::Lf) w) {res : Bool} (hF : crew_every_Lint_1_s2 N x = some res) : Calls Tryz.prog 169 #[.slice x_p x.length x_c,pq b_] w (fun e w => e = .returned (.bool res) ∧ Ctx G (.box b_ [.func (.func 122) #[] #[]] 185::Lf) w) := by
 unfold crew_every_Lint_1_s2 at hF
 refine fnIn Tryz.func169 rfl Tryz.ntmps169 rfl fun a hf => zS fun K h => sp 1 hf rfl fun a hf => zT h ?_
 refine zS fun K h => zL hf hc sc_185 m0 rfl fun a w hf hc => sp 1 hf rfl fun a hf => ?_
 obtain ⟨r,hr,hF⟩ := bnd_some hF
 refine zQ (v := .bool r) hf hc en_122 rfl (fun w hc => crew_once_ok x h_x hc hr) fun a w hf hc => sp 2 hf rfl fun a hf => zT h ?_
 refine wp_ret ?_
 obtain rfl := sj hF
 exact zO1 Tryz.results169 hf rfl ⟨rfl,hc⟩

def slices_IndexFunc_LLint_Lint_s2_b4 (N : Nat) (s_ : List (List Int)) (x : Int) : Option (Step (Int) (Int)) :=
 cond (decide (x < ((s_.length : Nat) : Int)))
 (Option.bind (getI s_ x) fun e_1 =>
 Option.bind (crew_every_Lint_1_s2 N e_1) fun r =>
 cond r
 (some (.ret x))
 (some (.cont (W (x + 1)))))
 (some (.brk x))
def slices_IndexFunc_LLint_Lint_s2 (N : Nat) (s_ : List (List Int)) : Option (Int) :=
 Option.bind (loopO (fun s4 => slices_IndexFunc_LLint_Lint_s2_b4 N s_ s4) N 0) fun x4 =>
 exK x4 (fun s4 => some (-1)) some
theorem slices_IndexFunc_LLint_Lint_s2_ok {N : Nat} {G : Pers} {Lf : List Ent} {w : World} (s_ : List (List Int)) {s__p : Option Addr} {s__c : Nat} {b_ : Nat} (h_s_ : RdT kd_25 G 1 s__p s__c s_) (hc : Ctx G (.box b_ [.func (.func 122) #[] #[]] 185::Lf) w) {res : Int} (hF : slices_IndexFunc_LLint_Lint_s2 N s_ = some res) : Calls Tryz.prog 191 #[.slice s__p s_.length s__c,.func (.func 169) #[] #[pq b_]] w (fun e w => e = .returned (i6 res) ∧ Ctx G (.box b_ [.func (.func 122) #[] #[]] 185::Lf) w) := by
 unfold slices_IndexFunc_LLint_Lint_s2 at hF
 refine fnIn Tryz.func191 rfl Tryz.ntmps191 rfl fun a hf => zS fun K h => sp 1 hf rfl fun a hf => zT h ?_
 refine wp_seq_k fun K2 h2 => zS fun K h => sp 1 hf rfl fun a hf => zP hf rfl (pLenS Tryz.underlying75 rfl) fun a hf => sp 1 hf rfl fun a hf => zT h ?_
 refine wp_block ?_
 obtain ⟨x4,hx4,hF⟩ := bnd_some hF
 let S4 : Int → Act → World → Prop := (fun (zz : Int) a w => Has 19 a [(0,.slice s__p s_.length s__c),(1,.func (.func 169) #[] #[pq b_]),(7,i6 ((s_.length : Nat) : Int)),(8,i6 zz)] ∧ Ctx G (.box b_ [.func (.func 122) #[] #[]] 185::Lf) w)
 have hr4 : ∀ (zz : Int) a w,x4 = .go zz → S4 zz a w → K2 a w := by
  rintro x a w rfl ⟨hf,hc⟩
  replace hF := exK_go hF
  refine h2 _ _ ?_
  refine zS fun K h => sp 1 hf rfl fun a hf => zT h ?_
  refine wp_ret ?_
  obtain rfl := sj hF
  exact zO1 Tryz.results191 hf rfl ⟨rfl,hc⟩
 have ho4 : ∀ r,x4 = .out r → r = res := by
  rintro r rfl
  exact sj hF
 refine cLoop N (loopW (S := S4) (x := x4) ?_ N 0 _ _ ⟨hf.kp rfl,hc⟩ hx4)
 clear hF hf hc
 rintro x st4 a w KB4 ⟨hf,hc⟩ hF hfin4 hK4
 unfold slices_IndexFunc_LLint_Lint_s2_b4 at hF
 refine zS fun K h => sp 1 hf rfl fun a hf => zT h ?_
 refine wp_seq_k fun K7 h7 => zI hf rfl hF ?_ ?_ <;> clear hF <;> intro hF
 ·refine wp_skip ?_
  refine h7 _ _ ?_
  refine wp_seq_k fun K8 h8 => wp_block ?_
  refine zS fun K h => sp 2 hf rfl fun a hf => zT h ?_
  refine zS fun K h => sp 3 hf rfl fun a hf => ?_
  obtain ⟨e_1,he_1,hF⟩ := bnd_some hF
  obtain ⟨b_1,o,hd,qa,qp,qr⟩ := h_s_.atm he_1
  refine zP hf rfl (pIA Tryz.underlying75 sz_25 rfl rfl qa) fun a hf => zE hf hc rfl (eLd1 sc_25 rfl (cell_pc (j := 0) qp rfl)) fun a w hf hc => ?_
  obtain ⟨r,hr,hF⟩ := bnd_some hF
  refine zQ (v := .bool r) hf hc en_169 rfl (fun w hc => (crew_every_Lint_1_s2_ok e_1 qr (hc.pick k0) hr).mono fun e w h => ⟨h.1,(h.2.unpick k0)⟩) fun a w hf hc => zT h ?_
  refine zI hf rfl hF ?_ ?_ <;> clear hF <;> intro hF
  ·refine zS fun K h => sp 2 hf rfl fun a hf => zT h ?_
   refine wp_ret ?_
   refine xBlkR ?_
   refine xThenR ?_
   refine xThenR ?_
   have he := sj hF
   rw [← he] at hfin4
   replace hF := ho4 _ hfin4
   refine xBlkR ?_
   refine xThenR ?_
   obtain rfl := hF
   exact zO1 Tryz.results191 hf rfl ⟨rfl,hc⟩
  ·refine wp_skip ?_
   refine h8 _ _ ?_
   refine cReg ?_
   refine sp 2 hf rfl fun a hf => cNil ?_
   exact hK4 (W (x + 1)) _ _ (sj hF).symm ⟨hf.kp rfl,hc⟩
 ·refine wp_exit ?_
  refine xThen ?_
  refine xThen ?_
  have he := sj hF
  rw [← he] at hfin4
  refine cHit ?_
  exact hr4 _ _ _ hfin4 ⟨hf.kp rfl,hc⟩

def slices_ContainsFunc_LLint_Lint_s2 (N : Nat) (s_ : List (List Int)) : Option (Bool) :=
 Option.bind (slices_IndexFunc_LLint_Lint_s2 N s_) fun r =>
 some (decide (0 ≤ r))
theorem slices_ContainsFunc_LLint_Lint_s2_ok {N : Nat} {G : Pers} {Lf : List Ent} {w : World} (s_ : List (List Int)) {s__p : Option Addr} {s__c : Nat} {b_ : Nat} (h_s_ : RdT kd_25 G 1 s__p s__c s_) (hc : Ctx G (.box b_ [.func (.func 122) #[] #[]] 185::Lf) w) {res : Bool} (hF : slices_ContainsFunc_LLint_Lint_s2 N s_ = some res) : Calls Tryz.prog 168 #[.slice s__p s_.length s__c,.func (.func 169) #[] #[pq b_]] w (fun e w => e = .returned (.bool res) ∧ Ctx G (.box b_ [.func (.func 122) #[] #[]] 185::Lf) w) := by
 unfold slices_ContainsFunc_LLint_Lint_s2 at hF
 refine fnIn Tryz.func168 rfl Tryz.ntmps168 rfl fun a hf => zS fun K h => sp 1 hf rfl fun a hf => zT h ?_
 refine zS fun K h => sp 2 hf rfl fun a hf => ?_
 obtain ⟨r,hr,hF⟩ := bnd_some hF
 refine zQ (v := i6 r) hf hc en_191 rfl (fun w hc => (slices_IndexFunc_LLint_Lint_s2_ok s_ h_s_ (hc.pick k0) hr).mono fun e w h => ⟨h.1,(h.2.unpick k0)⟩) fun a w hf hc => sp 2 hf rfl fun a hf => zT h ?_
 refine wp_ret ?_
 obtain rfl := sj hF
 exact zO1 Tryz.results168 hf rfl ⟨rfl,hc⟩

def crew_every_Lint_s2 (N : Nat) (l : List (List Int)) : Option (Bool) :=
 Option.bind (slices_ContainsFunc_LLint_Lint_s2 N l) fun r =>
 some (!r)
theorem crew_every_Lint_s2_ok {N : Nat} {G : Pers} {Lf : List Ent} {w : World} (l : List (List Int)) {l_p : Option Addr} {l_c : Nat} (h_l : RdT kd_25 G 1 l_p l_c l) (hc : Ctx G (Lf) w) {res : Bool} (hF : crew_every_Lint_s2 N l = some res) : Calls Tryz.prog 116 #[.slice l_p l.length l_c,.func (.func 122) #[] #[]] w (fun e w => e = .returned (.bool res) ∧ Ctx G (Lf) w) := by
 unfold crew_every_Lint_s2 at hF
 refine fnIn Tryz.func116 rfl Tryz.ntmps116 rfl fun a hf => zS fun K h => zB hf hc rfl fun b_1 a w hf hc => sp 1 hf rfl fun a hf => zT h ?_
 refine zS fun K h => sp 1 hf rfl fun a hf => zP hf rfl (pMF (us := [pq b_1]) rfl rfl) fun a hf => ?_
 obtain ⟨r,hr,hF⟩ := bnd_some hF
 refine zQ (v := .bool r) hf hc en_168 rfl (fun w hc => (slices_ContainsFunc_LLint_Lint_s2_ok l h_l (hc.pick k0) hr).mono fun e w h => ⟨h.1,(h.2.unpick k0)⟩) fun a w hf hc => sp 2 hf rfl fun a hf => zT h ?_
 refine wp_ret ?_
 obtain rfl := sj hF
 replace hc := hc.drop k0
 exact zO1 Tryz.results116 hf rfl ⟨rfl,hc⟩

def crew_Check_3 (N : Nat) (s_ : crew_Station) : Option (Bool) :=
 Option.bind (crew_once N s_.Order) fun r =>
 some r
theorem crew_Check_3_ok {N : Nat} {G : Pers} {Lf : List Ent} {w : World} (s_ : crew_Station) {s__Order_p : Option Addr} {s__Order_c : Nat} (h_s__Order : Rd G 1 s__Order_p s__Order_c (s_.Order.map encI_i64)) (hc : Ctx G (Lf) w) {res : Bool} (hF : crew_Check_3 N s_ = some res) : Calls Tryz.prog 123 #[.agg #[i6 s_.Places,.slice s__Order_p s_.Order.length s__Order_c]] w (fun e w => e = .returned (.bool res) ∧ Ctx G (Lf) w) := by
 unfold crew_Check_3 at hF
 refine fnIn Tryz.func123 rfl Tryz.ntmps123 rfl fun a hf => zS fun K h => zB hf hc rfl fun b_1 a w hf hc => sp 1 hf rfl fun a hf => zT h ?_
 refine zS fun K h => zP hf rfl (pFA fa_101_1 rfl) fun a hf => zL hf hc sc_25 m0 rfl fun a w hf hc => ?_
 obtain ⟨r,hr,hF⟩ := bnd_some hF
 refine zQ (v := .bool r) hf hc en_122 rfl (fun w hc => crew_once_ok s_.Order h_s__Order hc hr) fun a w hf hc => sp 1 hf rfl fun a hf => zT h ?_
 refine wp_ret ?_
 obtain rfl := sj hF
 replace hc := hc.drop k0
 exact zO1 Tryz.results123 hf rfl ⟨rfl,hc⟩

def crew_every_crew_Station_1_s2 (N : Nat) (x : crew_Station) : Option (Bool) :=
 Option.bind (crew_Check_3 N x) fun r =>
 some (!r)
theorem crew_every_crew_Station_1_s2_ok {N : Nat} {G : Pers} {Lf : List Ent} {w : World} (x : crew_Station) {x_Order_p : Option Addr} {x_Order_c : Nat} {b_ : Nat} (h_x_Order : Rd G 1 x_Order_p x_Order_c (x.Order.map encI_i64)) (hc : Ctx G (.box b_ [.func (.func 123) #[] #[]] 187::Lf) w) {res : Bool} (hF : crew_every_crew_Station_1_s2 N x = some res) : Calls Tryz.prog 171 #[.agg #[i6 x.Places,.slice x_Order_p x.Order.length x_Order_c],pq b_] w (fun e w => e = .returned (.bool res) ∧ Ctx G (.box b_ [.func (.func 123) #[] #[]] 187::Lf) w) := by
 unfold crew_every_crew_Station_1_s2 at hF
 refine fnIn Tryz.func171 rfl Tryz.ntmps171 rfl fun a hf => zS fun K h => zB hf hc rfl fun b_1 a w hf hc => sp 1 hf rfl fun a hf => zT h ?_
 refine zS fun K h => zL hf hc sc_187 m1 rfl fun a w hf hc => zN hf hc ag_101 m0 rfl fun a w hf hc => ?_
 obtain ⟨r,hr,hF⟩ := bnd_some hF
 refine zQ (v := .bool r) hf hc en_123 rfl (fun w hc => crew_Check_3_ok x h_x_Order hc hr) fun a w hf hc => sp 2 hf rfl fun a hf => zT h ?_
 refine wp_ret ?_
 obtain rfl := sj hF
 replace hc := hc.drop k0
 exact zO1 Tryz.results171 hf rfl ⟨rfl,hc⟩

def slices_IndexFunc_Lcrew_Station_crew_Station_s2_b4 (N : Nat) (s_ : List crew_Station) (x : Int) : Option (Step (Int) (Int)) :=
 cond (decide (x < ((s_.length : Nat) : Int)))
 (Option.bind (getI s_ x) fun e_1 =>
 Option.bind (crew_every_crew_Station_1_s2 N e_1) fun r =>
 cond r
 (some (.ret x))
 (some (.cont (W (x + 1)))))
 (some (.brk x))
def slices_IndexFunc_Lcrew_Station_crew_Station_s2 (N : Nat) (s_ : List crew_Station) : Option (Int) :=
 Option.bind (loopO (fun s4 => slices_IndexFunc_Lcrew_Station_crew_Station_s2_b4 N s_ s4) N 0) fun x4 =>
 exK x4 (fun s4 => some (-1)) some
theorem slices_IndexFunc_Lcrew_Station_crew_Station_s2_ok {N : Nat} {G : Pers} {Lf : List Ent} {w : World} (s_ : List crew_Station) {s__p : Option Addr} {s__c : Nat} {b_ : Nat} (h_s_ : RdT kd_101 G 2 s__p s__c s_) (hc : Ctx G (.box b_ [.func (.func 123) #[] #[]] 187::Lf) w) {res : Int} (hF : slices_IndexFunc_Lcrew_Station_crew_Station_s2 N s_ = some res) : Calls Tryz.prog 192 #[.slice s__p s_.length s__c,.func (.func 171) #[] #[pq b_]] w (fun e w => e = .returned (i6 res) ∧ Ctx G (.box b_ [.func (.func 123) #[] #[]] 187::Lf) w) := by
 unfold slices_IndexFunc_Lcrew_Station_crew_Station_s2 at hF
 refine fnIn Tryz.func192 rfl Tryz.ntmps192 rfl fun a hf => zS fun K h => sp 1 hf rfl fun a hf => zT h ?_
 refine wp_seq_k fun K2 h2 => zS fun K h => sp 1 hf rfl fun a hf => zP hf rfl (pLenS Tryz.underlying76 rfl) fun a hf => sp 1 hf rfl fun a hf => zT h ?_
 refine wp_block ?_
 obtain ⟨x4,hx4,hF⟩ := bnd_some hF
 let S4 : Int → Act → World → Prop := (fun (zz : Int) a w => Has 19 a [(0,.slice s__p s_.length s__c),(1,.func (.func 171) #[] #[pq b_]),(7,i6 ((s_.length : Nat) : Int)),(8,i6 zz)] ∧ Ctx G (.box b_ [.func (.func 123) #[] #[]] 187::Lf) w)
 have hr4 : ∀ (zz : Int) a w,x4 = .go zz → S4 zz a w → K2 a w := by
  rintro x a w rfl ⟨hf,hc⟩
  replace hF := exK_go hF
  refine h2 _ _ ?_
  refine zS fun K h => sp 1 hf rfl fun a hf => zT h ?_
  refine wp_ret ?_
  obtain rfl := sj hF
  exact zO1 Tryz.results192 hf rfl ⟨rfl,hc⟩
 have ho4 : ∀ r,x4 = .out r → r = res := by
  rintro r rfl
  exact sj hF
 refine cLoop N (loopW (S := S4) (x := x4) ?_ N 0 _ _ ⟨hf.kp rfl,hc⟩ hx4)
 clear hF hf hc
 rintro x st4 a w KB4 ⟨hf,hc⟩ hF hfin4 hK4
 unfold slices_IndexFunc_Lcrew_Station_crew_Station_s2_b4 at hF
 refine zS fun K h => sp 1 hf rfl fun a hf => zT h ?_
 refine wp_seq_k fun K7 h7 => zI hf rfl hF ?_ ?_ <;> clear hF <;> intro hF
 ·refine wp_skip ?_
  refine h7 _ _ ?_
  refine wp_seq_k fun K8 h8 => wp_block ?_
  refine zS fun K h => sp 2 hf rfl fun a hf => zT h ?_
  refine zS fun K h => sp 3 hf rfl fun a hf => ?_
  obtain ⟨e_1,he_1,hF⟩ := bnd_some hF
  obtain ⟨b_1,o,hd,qa,qp,qr⟩ := h_s_.atm he_1
  refine zP hf rfl (pIA Tryz.underlying76 sz_101 rfl rfl qa) fun a hf => zE hf hc rfl (eLdN (vs := [i6 e_1.Places,.slice hd.1 e_1.Order.length hd.2]) ag_101 rfl rfl (cells_pc qp (n := 2) (o' := 0) rfl)) fun a w hf hc => ?_
  obtain ⟨r,hr,hF⟩ := bnd_some hF
  refine zQ (v := .bool r) hf hc en_171 rfl (fun w hc => (crew_every_crew_Station_1_s2_ok e_1 qr (hc.pick k0) hr).mono fun e w h => ⟨h.1,(h.2.unpick k0)⟩) fun a w hf hc => zT h ?_
  refine zI hf rfl hF ?_ ?_ <;> clear hF <;> intro hF
  ·refine zS fun K h => sp 2 hf rfl fun a hf => zT h ?_
   refine wp_ret ?_
   refine xBlkR ?_
   refine xThenR ?_
   refine xThenR ?_
   have he := sj hF
   rw [← he] at hfin4
   replace hF := ho4 _ hfin4
   refine xBlkR ?_
   refine xThenR ?_
   obtain rfl := hF
   exact zO1 Tryz.results192 hf rfl ⟨rfl,hc⟩
  ·refine wp_skip ?_
   refine h8 _ _ ?_
   refine cReg ?_
   refine sp 2 hf rfl fun a hf => cNil ?_
   exact hK4 (W (x + 1)) _ _ (sj hF).symm ⟨hf.kp rfl,hc⟩
 ·refine wp_exit ?_
  refine xThen ?_
  refine xThen ?_
  have he := sj hF
  rw [← he] at hfin4
  refine cHit ?_
  exact hr4 _ _ _ hfin4 ⟨hf.kp rfl,hc⟩

def slices_ContainsFunc_Lcrew_Station_crew_Station_s2 (N : Nat) (s_ : List crew_Station) : Option (Bool) :=
 Option.bind (slices_IndexFunc_Lcrew_Station_crew_Station_s2 N s_) fun r =>
 some (decide (0 ≤ r))
theorem slices_ContainsFunc_Lcrew_Station_crew_Station_s2_ok {N : Nat} {G : Pers} {Lf : List Ent} {w : World} (s_ : List crew_Station) {s__p : Option Addr} {s__c : Nat} {b_ : Nat} (h_s_ : RdT kd_101 G 2 s__p s__c s_) (hc : Ctx G (.box b_ [.func (.func 123) #[] #[]] 187::Lf) w) {res : Bool} (hF : slices_ContainsFunc_Lcrew_Station_crew_Station_s2 N s_ = some res) : Calls Tryz.prog 170 #[.slice s__p s_.length s__c,.func (.func 171) #[] #[pq b_]] w (fun e w => e = .returned (.bool res) ∧ Ctx G (.box b_ [.func (.func 123) #[] #[]] 187::Lf) w) := by
 unfold slices_ContainsFunc_Lcrew_Station_crew_Station_s2 at hF
 refine fnIn Tryz.func170 rfl Tryz.ntmps170 rfl fun a hf => zS fun K h => sp 1 hf rfl fun a hf => zT h ?_
 refine zS fun K h => sp 2 hf rfl fun a hf => ?_
 obtain ⟨r,hr,hF⟩ := bnd_some hF
 refine zQ (v := i6 r) hf hc en_192 rfl (fun w hc => (slices_IndexFunc_Lcrew_Station_crew_Station_s2_ok s_ h_s_ (hc.pick k0) hr).mono fun e w h => ⟨h.1,(h.2.unpick k0)⟩) fun a w hf hc => sp 2 hf rfl fun a hf => zT h ?_
 refine wp_ret ?_
 obtain rfl := sj hF
 exact zO1 Tryz.results170 hf rfl ⟨rfl,hc⟩

def crew_every_crew_Station_s2 (N : Nat) (l : List crew_Station) : Option (Bool) :=
 Option.bind (slices_ContainsFunc_Lcrew_Station_crew_Station_s2 N l) fun r =>
 some (!r)
theorem crew_every_crew_Station_s2_ok {N : Nat} {G : Pers} {Lf : List Ent} {w : World} (l : List crew_Station) {l_p : Option Addr} {l_c : Nat} (h_l : RdT kd_101 G 2 l_p l_c l) (hc : Ctx G (Lf) w) {res : Bool} (hF : crew_every_crew_Station_s2 N l = some res) : Calls Tryz.prog 119 #[.slice l_p l.length l_c,.func (.func 123) #[] #[]] w (fun e w => e = .returned (.bool res) ∧ Ctx G (Lf) w) := by
 unfold crew_every_crew_Station_s2 at hF
 refine fnIn Tryz.func119 rfl Tryz.ntmps119 rfl fun a hf => zS fun K h => zB hf hc rfl fun b_1 a w hf hc => sp 1 hf rfl fun a hf => zT h ?_
 refine zS fun K h => sp 1 hf rfl fun a hf => zP hf rfl (pMF (us := [pq b_1]) rfl rfl) fun a hf => ?_
 obtain ⟨r,hr,hF⟩ := bnd_some hF
 refine zQ (v := .bool r) hf hc en_170 rfl (fun w hc => (slices_ContainsFunc_Lcrew_Station_crew_Station_s2_ok l h_l (hc.pick k0) hr).mono fun e w h => ⟨h.1,(h.2.unpick k0)⟩) fun a w hf hc => sp 2 hf rfl fun a hf => zT h ?_
 refine wp_ret ?_
 obtain rfl := sj hF
 replace hc := hc.drop k0
 exact zO1 Tryz.results119 hf rfl ⟨rfl,hc⟩

def crew_Check (N : Nat) (r : crew_Roster) : Option (Int) :=
 cond ((!(crew_in ((r.People.length : Nat) : Int) 1 12)) || (!(crew_in ((r.Stations.length : Nat) : Int) 1 12)))
 (some 3)
 (Option.bind (crew_every_Lint N r.People r) fun r_0 =>
 Option.bind (cond (!r_0) (some true) (Option.bind (crew_every_crew_Station N r.Stations r) fun r_1 =>
 some (!r_1))) fun t_1 =>
 cond t_1
 (some 120)
 (Option.bind (crew_every_Lint_s2 N r.People) fun r_2 =>
 Option.bind (cond (!r_2) (some true) (Option.bind (crew_every_crew_Station_s2 N r.Stations) fun r_3 =>
 some (!r_3))) fun t_2 =>
 cond t_2
 (some 10)
 (some 0)))
theorem crew_Check_ok {N : Nat} {G : Pers} {Lf : List Ent} {w : World} (r : crew_Roster) {r_People_p : Option Addr} {r_People_c : Nat} {r_Stations_p : Option Addr} {r_Stations_c : Nat} (h_r_People : RdT kd_25 G 1 r_People_p r_People_c r.People) (h_r_Stations : RdT kd_101 G 2 r_Stations_p r_Stations_c r.Stations) (hc : Ctx G (Lf) w) {res : Int} (hF : crew_Check N r = some res) : Calls Tryz.prog 55 #[.agg #[.slice r_People_p r.People.length r_People_c,.slice r_Stations_p r.Stations.length r_Stations_c]] w (fun e w => e = .returned (i6 res) ∧ Ctx G (Lf) w) := by
 unfold crew_Check at hF
 refine fnIn Tryz.func55 rfl Tryz.ntmps55 rfl fun a hf => zS fun K h => zB hf hc rfl fun b_1 a w hf hc => sp 1 hf rfl fun a hf => zT h ?_
 refine wp_seq_k fun K2 h2 => wp_block ?_
 refine zS fun K h => zP hf rfl (pFA fa_78_0 rfl) fun a hf => zL hf hc sc_75 m0 rfl fun a w hf hc => zP hf rfl (pLenS Tryz.underlying75 rfl) fun a hf => zQ (v := .bool (crew_in ((r.People.length : Nat) : Int) 1 12)) hf hc en_86 rfl (fun w hc => crew_in_ok ((r.People.length : Nat) : Int) 1 12 hc rfl) fun a w hf hc => sp 2 hf rfl fun a hf => stCc 6 (fun a => Has 40 a [(1,pq b_1),(4,pq b_1),(5,.slice r_People_p r.People.length r_People_c),(6,i6 ((r.People.length : Nat) : Int)),(7,.bool (crew_in ((r.People.length : Nat) : Int) 1 12)),(8,.bool (!(crew_in ((r.People.length : Nat) : Int) 1 12))),(9,.bool (!(crew_in ((r.People.length : Nat) : Int) 1 12))),(15,.bool ((!(crew_in ((r.People.length : Nat) : Int) 1 12)) || (!(crew_in ((r.Stations.length : Nat) : Int) 1 12))))]) hc ?_ ?_
 ·cases hb : (!(crew_in ((r.People.length : Nat) : Int) 1 12))
  ·rw [hb] at hf
   refine zP hf rfl (pFA fa_78_1 rfl) fun a hf => zL hf hc sc_76 m0 rfl fun a w hf hc => zP hf rfl (pLenS Tryz.underlying76 rfl) fun a hf => zQ (v := .bool (crew_in ((r.Stations.length : Nat) : Int) 1 12)) hf hc en_86 rfl (fun w hc => crew_in_ok ((r.Stations.length : Nat) : Int) 1 12 hc rfl) fun a w hf hc => sp 2 hf rfl fun a hf => cNil ⟨hf.kp rfl,hc⟩
  ·rw [hb] at hf
   refine stS hf rfl rfl rfl fun a hf => stS hf rfl rfl rfl fun a hf => stS hf rfl rfl rfl fun a hf => stS hf rfl rfl rfl fun a hf => stS hf rfl rfl rfl fun a hf => sp 1 hf rfl fun a hf => cNil ⟨hf.kp rfl,hc⟩
 intro a w ⟨hf,hc⟩
 refine sp 1 hf rfl fun a hf => zT h ?_
 refine zI hf rfl hF ?_ ?_ <;> clear hF <;> intro hF
 ·refine zS fun K h => sp 1 hf rfl fun a hf => zT h ?_
  refine wp_ret ?_
  refine xBlkR ?_
  refine xThenR ?_
  obtain rfl := sj hF
  replace hc := hc.drop k0
  exact zO1 Tryz.results55 hf rfl ⟨rfl,hc⟩
 ·refine zS fun K h => zP hf rfl (pFA fa_78_0 rfl) fun a hf => zL hf hc sc_75 m0 rfl fun a w hf hc => zP hf rfl (pMF (us := [pq b_1]) rfl rfl) fun a hf => ?_
  obtain ⟨r_0,hr_0,hF⟩ := bnd_some hF
  refine zQ (v := .bool r_0) hf hc en_116 rfl (fun w hc => (crew_every_Lint_ok r.People r h_r_People h_r_People h_r_Stations (hc.pick k0) hr_0).mono fun e w h => ⟨h.1,(h.2.unpick k0)⟩) fun a w hf hc => sp 2 hf rfl fun a hf => ?_
  obtain ⟨t_1,ht_1,hF⟩ := bnd_some hF
  refine stCc 6 (fun a => Has 40 a [(1,pq b_1),(17,pq b_1),(18,.slice r_People_p r.People.length r_People_c),(19,.func (.func 117) #[] #[pq b_1]),(20,.bool r_0),(21,.bool (!r_0)),(22,.bool (!r_0)),(28,.bool t_1)]) hc ?_ ?_
  ·cases hb : (!r_0)
   ·rw [hb] at hf
    have hF := condF hb ht_1
    refine zP hf rfl (pFA fa_78_1 rfl) fun a hf => zL hf hc sc_76 m0 rfl fun a w hf hc => zP hf rfl (pMF (us := [pq b_1]) rfl rfl) fun a hf => ?_
    obtain ⟨r_1,hr_1,hF⟩ := bnd_some hF
    refine zQ (v := .bool r_1) hf hc en_119 rfl (fun w hc => (crew_every_crew_Station_ok r.Stations r h_r_Stations h_r_People h_r_Stations (hc.pick k0) hr_1).mono fun e w h => ⟨h.1,(h.2.unpick k0)⟩) fun a w hf hc => sp 2 hf rfl fun a hf => ?_
    obtain rfl := sj hF
    exact cNil ⟨hf.kp rfl,hc⟩
   ·rw [hb] at hf
    have hF := condT hb ht_1
    obtain rfl := sj hF
    refine stS hf rfl rfl rfl fun a hf => stS hf rfl rfl rfl fun a hf => stS hf rfl rfl rfl fun a hf => stS hf rfl rfl rfl fun a hf => stS hf rfl rfl rfl fun a hf => sp 1 hf rfl fun a hf => cNil ⟨hf.kp rfl,hc⟩
  intro a w ⟨hf,hc⟩
  refine sp 1 hf rfl fun a hf => zT h ?_
  refine zI hf rfl hF ?_ ?_ <;> clear hF <;> intro hF
  ·refine zS fun K h => sp 1 hf rfl fun a hf => zT h ?_
   refine wp_ret ?_
   refine xBlkR ?_
   refine xThenR ?_
   obtain rfl := sj hF
   replace hc := hc.drop k0
   exact zO1 Tryz.results55 hf rfl ⟨rfl,hc⟩
  ·refine zS fun K h => zP hf rfl (pFA fa_78_0 rfl) fun a hf => zL hf hc sc_75 m0 rfl fun a w hf hc => ?_
   obtain ⟨r_2,hr_2,hF⟩ := bnd_some hF
   refine zQ (v := .bool r_2) hf hc en_116 rfl (fun w hc => crew_every_Lint_s2_ok r.People h_r_People hc hr_2) fun a w hf hc => sp 2 hf rfl fun a hf => ?_
   obtain ⟨t_2,ht_2,hF⟩ := bnd_some hF
   refine stCc 5 (fun a => Has 40 a [(1,pq b_1),(30,pq b_1),(31,.slice r_People_p r.People.length r_People_c),(32,.bool r_2),(33,.bool (!r_2)),(34,.bool (!r_2)),(39,.bool t_2)]) hc ?_ ?_
   ·cases hb : (!r_2)
    ·rw [hb] at hf
     have hF := condF hb ht_2
     refine zP hf rfl (pFA fa_78_1 rfl) fun a hf => zL hf hc sc_76 m0 rfl fun a w hf hc => ?_
     obtain ⟨r_3,hr_3,hF⟩ := bnd_some hF
     refine zQ (v := .bool r_3) hf hc en_119 rfl (fun w hc => crew_every_crew_Station_s2_ok r.Stations h_r_Stations hc hr_3) fun a w hf hc => sp 2 hf rfl fun a hf => ?_
     obtain rfl := sj hF
     exact cNil ⟨hf.kp rfl,hc⟩
    ·rw [hb] at hf
     have hF := condT hb ht_2
     obtain rfl := sj hF
     refine stS hf rfl rfl rfl fun a hf => stS hf rfl rfl rfl fun a hf => stS hf rfl rfl rfl fun a hf => stS hf rfl rfl rfl fun a hf => sp 1 hf rfl fun a hf => cNil ⟨hf.kp rfl,hc⟩
   intro a w ⟨hf,hc⟩
   refine sp 1 hf rfl fun a hf => zT h ?_
   refine zI hf rfl hF ?_ ?_ <;> clear hF <;> intro hF
   ·refine zS fun K h => sp 1 hf rfl fun a hf => zT h ?_
    refine wp_ret ?_
    refine xBlkR ?_
    refine xThenR ?_
    obtain rfl := sj hF
    replace hc := hc.drop k0
    exact zO1 Tryz.results55 hf rfl ⟨rfl,hc⟩
   ·refine wp_skip ?_
    refine h2 _ _ ?_
    refine zS fun K h => sp 1 hf rfl fun a hf => zT h ?_
    refine wp_ret ?_
    obtain rfl := sj hF
    replace hc := hc.drop k0
    exact zO1 Tryz.results55 hf rfl ⟨rfl,hc⟩

def crew_opened_b17 (N : Nat) (r : crew_Roster) (x : Int) (e_1 : crew_Station) (x_2 : Int) (x_3 : Nat → Int) : Option (Step (Int × (Nat → Int)) (Step (Int × (Nat → Int)) ((Int) ⊕ ((Nat → Int) × Int)))) :=
 cond (decide (x_2 < ((r.People.length : Nat) : Int)))
 (Option.bind (slices_Index_Lint_int N e_1.Order x_2) fun r_1 =>
 Option.bind (inR x 12) fun un =>
 Option.bind (inR x_2 12) fun un_1 =>
 some (.cont (W (x_2 + 1),(setF x_3 (x * 12 + x_2).toNat r_1))))
 (some (.brk (x_2,x_3)))
def crew_opened_b9 (N : Nat) (r : crew_Roster) (x : Int) (x_1 : Nat → Int) : Option (Step (Int × (Nat → Int)) ((Int) ⊕ ((Nat → Int) × Int))) :=
 cond (decide (x < ((r.Stations.length : Nat) : Int)))
 (Option.bind (getI r.Stations x) fun e_1 =>
 Option.bind (loopO (fun s17 => crew_opened_b17 N r x e_1 s17.1 s17.2) N (0,x_1)) fun x17 =>
 exK x17 (fun s17 => some (.cont (W (x + 1),s17.2))) some)
 (some (.brk (x,x_1)))
def crew_opened (N : Nat) (r : crew_Roster) : Option ((Int) ⊕ ((Nat → Int) × Int)) :=
 Option.bind (crew_Check N r) fun r_0 =>
 cond (r_0 != 0)
 (some (.inl r_0))
 (Option.bind (loopO (fun s9 => crew_opened_b9 N r s9.1 s9.2) N (0,(fun _ => 0))) fun x9 =>
 exK x9 (fun s9 => some (.inr (s9.2,0))) some)
theorem crew_opened_ok {N : Nat} {G : Pers} {Lf : List Ent} {w : World} (r : crew_Roster) {r_People_p : Option Addr} {r_People_c : Nat} {r_Stations_p : Option Addr} {r_Stations_c : Nat} (h_r_People : RdT kd_25 G 1 r_People_p r_People_c r.People) (h_r_Stations : RdT kd_101 G 2 r_Stations_p r_Stations_c r.Stations) (hc : Ctx G (Lf) w) {res : (Int) ⊕ ((Nat → Int) × Int)} (hF : crew_opened N r = some res) : Calls Tryz.prog 105 #[.agg #[.slice r_People_p r.People.length r_People_c,.slice r_Stations_p r.Stations.length r_Stations_c]] w (fun e w => sumK (fun rr => e = .returned (.tuple #[.pointer none,i6 rr]) ∧ Ctx G (Lf) w) (fun rr => ∃ (b'1 : Nat),e = .returned (.tuple #[pq b'1,i6 rr.2]) ∧ Ctx G (.box b'1 (catc [.slice r_People_p r.People.length r_People_c,.slice r_Stations_p r.Stations.length r_Stations_c] 144 encI_i64 rr.1 []) 181::Lf) w) res) := by
 unfold crew_opened at hF
 refine fnIn Tryz.func105 rfl Tryz.ntmps105 rfl fun a hf => zS fun K h => zB hf hc rfl fun b_1 a w hf hc => sp 2 hf rfl fun a hf => zT h ?_
 refine wp_seq_k fun K2 h2 => zS fun K h => zN hf hc ag_78 m0 rfl fun a w hf hc => ?_
 obtain ⟨r_0,hr_0,hF⟩ := bnd_some hF
 refine zQ (v := i6 r_0) hf hc en_55 rfl (fun w hc => crew_Check_ok r h_r_People h_r_Stations hc hr_0) fun a w hf hc => sp 1 hf rfl fun a hf => zT h ?_
 refine zS fun K h => sp 2 hf rfl fun a hf => zT h ?_
 refine zI hf rfl hF ?_ ?_ <;> clear hF <;> intro hF
 ·refine zS fun K h => sp 3 hf rfl fun a hf => zT h ?_
  refine wp_ret ?_
  refine xThenR ?_
  obtain rfl := sj hF
  replace hc := hc.drop k0
  exact zO2 Tryz.results105 hf rfl rfl ⟨rfl,hc⟩
 ·refine wp_skip ?_
  refine h2 _ _ ?_
  refine zS fun K h => zN hf hc ag_78 m0 rfl fun a w hf hc => zP hf rfl (pBuildS (cells := (catc [.slice r_People_p r.People.length r_People_c,.slice r_Stations_p r.Stations.length r_Stations_c] 144 encI_i64 (fun _ => 0) [])) bt_181 rfl rfl) fun a hf => stBx (cs := (catc [.slice r_People_p r.People.length r_People_c,.slice r_Stations_p r.Stations.length r_Stations_c] 144 encI_i64 (fun _ => 0) [])) hf hc rfl rfl rfl rfl fun b_2 a w hf hc => sp 1 hf rfl fun a hf => zT h ?_
  refine wp_seq_k fun K7 h7 => zS fun K h => zP hf rfl (pFA fa_78_1 rfl) fun a hf => zL hf hc sc_76 m1 rfl fun a w hf hc => zP hf rfl (pLenS Tryz.underlying76 rfl) fun a hf => sp 1 hf rfl fun a hf => zT h ?_
  refine wp_block ?_
  obtain ⟨x9,hx9,hF⟩ := bnd_some hF
  let S9 : (Int × (Nat → Int)) → Act → World → Prop := (fun (zz : Int × (Nat → Int)) a w => Has 45 a [(1,pq b_1),(5,pq b_2),(18,.slice r_Stations_p r.Stations.length r_Stations_c),(19,i6 ((r.Stations.length : Nat) : Int)),(20,i6 zz.1)] ∧ Ctx G (.box b_2 (catc [.slice r_People_p r.People.length r_People_c,.slice r_Stations_p r.Stations.length r_Stations_c] 144 encI_i64 zz.2 []) 181::.box b_1 [.slice r_People_p r.People.length r_People_c,.slice r_Stations_p r.Stations.length r_Stations_c] 78::Lf) w)
  have hr9 : ∀ (zz : Int × (Nat → Int)) a w,x9 = .go zz → S9 zz a w → K7 a w := by
   rintro ⟨x,x_1⟩ a w rfl ⟨hf,hc⟩
   replace hF := exK_go hF
   refine h7 _ _ ?_
   refine zS fun K h => sp 3 hf rfl fun a hf => zT h ?_
   refine wp_ret ?_
   obtain rfl := sj hF
   replace hc := hc.drop k1
   exact zO2 Tryz.results105 hf rfl rfl ⟨b_2,rfl,hc⟩
  have ho9 : ∀ r,x9 = .out r → r = res := by
   rintro r rfl
   exact sj hF
  refine cLoop N (loopW (S := S9) (x := x9) ?_ N (0,(fun _ => 0)) _ _ ⟨hf.kp rfl,hc⟩ hx9)
  clear hF hf hc
  rintro ⟨x,x_1⟩ st9 a w KB9 ⟨hf,hc⟩ hF hfin9 hK9
  unfold crew_opened_b9 at hF
  refine zS fun K h => sp 1 hf rfl fun a hf => zT h ?_
  refine wp_seq_k fun K12 h12 => zI hf rfl hF ?_ ?_ <;> clear hF <;> intro hF
  ·refine wp_skip ?_
   refine h12 _ _ ?_
   refine wp_seq_k fun K13 h13 => wp_block ?_
   refine zS fun K h => sp 1 hf rfl fun a hf => ?_
   obtain ⟨e_1,he_1,hF⟩ := bnd_some hF
   obtain ⟨b_3,o,hd,qa,qp,qr⟩ := h_r_Stations.atm he_1
   refine zP hf rfl (pIA Tryz.underlying76 sz_101 rfl rfl qa) fun a hf => zE hf hc rfl (eLdN (vs := [i6 e_1.Places,.slice hd.1 e_1.Order.length hd.2]) ag_101 rfl rfl (cells_pc qp (n := 2) (o' := 0) rfl)) fun a w hf hc => zA hf hc zr_101 rfl fun b_4 a w hf hc => sp 1 hf rfl fun a hf => zW hf hc sz_101 u0 rfl fun w hc => zT h ?_
   refine zS fun K h => zP hf rfl (pFA fa_78_0 rfl) fun a hf => zL hf hc sc_75 m2 rfl fun a w hf hc => zP hf rfl (pLenS Tryz.underlying75 rfl) fun a hf => sp 1 hf rfl fun a hf => zT h ?_
   refine wp_thenK fun K16 h16 => wp_block ?_
   obtain ⟨x17,hx17,hF⟩ := bnd_some hF
   let S17 : (Int × (Nat → Int)) → Act → World → Prop := (fun (zz : Int × (Nat → Int)) a w => Has 45 a [(1,pq b_1),(5,pq b_2),(6,i6 x),(7,pq b_4),(18,.slice r_Stations_p r.Stations.length r_Stations_c),(19,i6 ((r.Stations.length : Nat) : Int)),(20,i6 x),(27,i6 ((r.People.length : Nat) : Int)),(28,i6 zz.1)] ∧ Ctx G (.box b_4 [i6 e_1.Places,.slice hd.1 e_1.Order.length hd.2] 101::.box b_2 (catc [.slice r_People_p r.People.length r_People_c,.slice r_Stations_p r.Stations.length r_Stations_c] 144 encI_i64 zz.2 []) 181::.box b_1 [.slice r_People_p r.People.length r_People_c,.slice r_Stations_p r.Stations.length r_Stations_c] 78::Lf) w)
   have hr17 : ∀ (zz : Int × (Nat → Int)) a w,x17 = .go zz → S17 zz a w → K16 a w := by
    rintro ⟨x_2,x_3⟩ a w rfl ⟨hf,hc⟩
    replace hF := exK_go hF
    refine h16 _ _ ?_
    refine h13 _ _ ?_
    refine cReg ?_
    refine sp 2 hf rfl fun a hf => cNil ?_
    replace hc := hc.drop k0
    exact hK9 (W (x + 1),x_3) _ _ (sj hF).symm ⟨hf.kp rfl,hc⟩
   have ho17 : ∀ r,x17 = .out r → r = st9 := by
    rintro r rfl
    exact sj hF
   refine cLoop N (loopW (S := S17) (x := x17) ?_ N (0,x_1) _ _ ⟨hf.kp rfl,hc⟩ hx17)
   clear hF hf hc
   rintro ⟨x_2,x_3⟩ st17 a w KB17 ⟨hf,hc⟩ hF hfin17 hK17
   unfold crew_opened_b17 at hF
   refine zS fun K h => sp 1 hf rfl fun a hf => zT h ?_
   refine wp_seq_k fun K19 h19 => zI hf rfl hF ?_ ?_ <;> clear hF <;> intro hF
   ·refine wp_skip ?_
    refine h19 _ _ ?_
    refine wp_seq_k fun K20 h20 => wp_block ?_
    refine zS fun K h => sp 2 hf rfl fun a hf => zT h ?_
    obtain ⟨r_1,hr_1,hF⟩ := bnd_some hF
    obtain ⟨un,hun,hF⟩ := bnd_some hF
    obtain ⟨un_1,hun_1,hF⟩ := bnd_some hF
    refine regionE (fun θ => [⟨none,none,1,pq b_1⟩,⟨none,none,5,pq b_2⟩,⟨none,none,6,i6 x⟩,⟨none,none,7,pq b_4⟩,⟨none,none,8,i6 x_2⟩,⟨none,none,18,.slice r_Stations_p r.Stations.length r_Stations_c⟩,⟨none,none,19,i6 ((r.Stations.length : Nat) : Int)⟩,⟨none,none,20,i6 x⟩,⟨none,none,27,i6 ((r.People.length : Nat) : Int)⟩,⟨none,none,28,i6 x_2⟩,⟨some 0,none,31,pq b_2⟩,⟨some 1,none,32,i6 x⟩,⟨some 2,none,33,i6 x_2⟩,⟨some 3,none,34,.pointer (some ⟨b_4,1,none⟩)⟩,⟨some 4,none,35,.slice hd.1 e_1.Order.length hd.2⟩,⟨some 5,none,36,i6 x_2⟩,⟨some 6,none,37,i6 r_1⟩,⟨some 7,none,38,pq b_2⟩,⟨some 8,none,39,.pointer (some ⟨b_2,2,none⟩)⟩,⟨some 9,none,40,.pointer (some ⟨b_2,2 + x.toNat * 12,none⟩)⟩,⟨some 10,none,41,.pointer (some ⟨b_2,2 + (x * 12 + x_2).toNat * 1,none⟩)⟩]) (fun E θ => .box b_4 [i6 e_1.Places,.slice hd.1 e_1.Order.length hd.2] 101::(bif E 11 then .box b_2 (catc [.slice r_People_p r.People.length r_People_c,.slice r_Stations_p r.Stations.length r_Stations_c] 144 encI_i64 (setF x_3 (x * 12 + x_2).toNat r_1) []) 181 else .box b_2 (catc [.slice r_People_p r.People.length r_People_c,.slice r_Stations_p r.Stations.length r_Stations_c] 144 encI_i64 x_3 []) 181)::.box b_1 [.slice r_People_p r.People.length r_People_c,.slice r_Stations_p r.Stations.length r_Stations_c] 78::Lf) [] (fun a w => Has 45 a [(1,pq b_1),(5,pq b_2),(6,i6 x),(7,pq b_4),(18,.slice r_Stations_p r.Stations.length r_Stations_c),(19,i6 ((r.Stations.length : Nat) : Int)),(20,i6 x),(27,i6 ((r.People.length : Nat) : Int)),(28,i6 x_2)] ∧ Ctx G (.box b_4 [i6 e_1.Places,.slice hd.1 e_1.Order.length hd.2] 101::.box b_2 (catc [.slice r_People_p r.People.length r_People_c,.slice r_Stations_p r.Stations.length r_Stations_c] 144 encI_i64 (setF x_3 (x * 12 + x_2).toNat r_1) []) 181::.box b_1 [.slice r_People_p r.People.length r_People_c,.slice r_Stations_p r.Stations.length r_Stations_c] 78::Lf) w) follows_mx (by kernel_rfl) (by kernel_rfl) (HasE.of hf ⟨rfl,rfl,rfl,rfl,rfl,rfl,rfl,rfl,rfl,rfl,trivial,trivial,trivial,trivial,trivial,trivial,trivial,trivial,trivial,trivial,trivial,trivial⟩) hc ⟨?_,?_,?_,?_,?_,?_,?_,?_,?_,?_,?_,?_,trivial⟩ ?_ ?_
    ·intro E θ a w hD hi hp he hc
     have hf := he.h0.mT he 1 rfl
     refine sp 1 hf rfl fun a hf => zD θ he hi hf 10 rfl rfl rfl hc
    ·intro E θ a w hD hi hp he hc
     have hf := he.h0.mT he 2 rfl
     refine sp 1 hf rfl fun a hf => zD θ he hi hf 11 rfl rfl rfl hc
    ·intro E θ a w hD hi hp he hc
     have hf := he.h0.mT he 4 rfl
     refine sp 1 hf rfl fun a hf => zD θ he hi hf 12 rfl rfl rfl hc
    ·intro E θ a w hD hi hp he hc
     have hf := he.h0.mT he 3 rfl
     refine zP hf rfl (pFA fa_101_1 rfl) fun a hf => zD θ he hi hf 13 rfl rfl rfl hc
    ·intro E θ a w hD hi hp he hc
     have e3 := hp.o 3 rfl
     have hf := he.h0.mP he 13 rfl e3
     refine zL hf hc sc_25 m0 rfl fun a w hf hc => zD θ he hi hf 14 rfl rfl rfl hc
    ·intro E θ a w hD hi hp he hc
     have hf := he.h0.mT he 4 rfl
     refine sp 1 hf rfl fun a hf => zD θ he hi hf 15 rfl rfl rfl hc
    ·intro E θ a w hD hi hp he hc
     have e4 := hp.o 4 rfl
     have e5 := hp.o 5 rfl
     have hf := (he.h0.mP he 14 rfl e4).mP he 15 rfl e5
     refine zQ (v := i6 r_1) hf hc en_114 rfl (fun w hc => slices_Index_Lint_int_ok e_1.Order x_2 qr hc hr_1) fun a w hf hc => zD θ he hi hf 16 rfl rfl rfl hc
    ·intro E θ a w hD hi hp he hc
     have e0 := hp.o 0 rfl
     have hf := he.h0.mP he 10 rfl e0
     refine sp 1 hf rfl fun a hf => zD θ he hi hf 17 rfl rfl rfl hc
    ·intro E θ a w hD hi hp he hc
     have e7 := hp.o 7 rfl
     have hf := he.h0.mP he 17 rfl e7
     refine zP hf rfl (pFA fa_181_1 rfl) fun a hf => zD θ he hi hf 18 rfl rfl rfl hc
    ·intro E θ a w hD hi hp he hc
     have e1 := hp.o 1 rfl
     have e8 := hp.o 8 rfl
     have hf := (he.h0.mP he 11 rfl e1).mP he 18 rfl e8
     refine zP hf rfl (pIAA Tryz.underlying179 sz_178 rfl rfl (inR_spec hun).1 (inR_spec hun).2) fun a hf => zD θ he hi hf 19 rfl rfl rfl hc
    ·intro E θ a w hD hi hp he hc
     have e2 := hp.o 2 rfl
     have e9 := hp.o 9 rfl
     have hf := (he.h0.mP he 12 rfl e2).mP he 19 rfl e9
     refine zP hf rfl (Pu.cast (pIAA Tryz.underlying178 sz_3 rfl rfl (inR_spec hun_1).1 (inR_spec hun_1).2) (congrArg (fun k => Value.pointer (some ⟨b_2,k,none⟩)) (flat_off (M := 12) (2) hun hun_1 rfl))) fun a hf => zD θ he hi hf 20 rfl rfl rfl hc
    ·intro E θ a w hD hi hp he hc
     have e6 := hp.o 6 rfl
     have e10 := hp.o 10 rfl
     try dsimp only at hc
     rw [hi] at hc
     have hf := (he.h0.mP he 16 rfl e6).mP he 20 rfl e10
     refine stAr (vs := [i6 r_1]) (o' := 0) (z := r_1) hf hc rfl rfl rfl rfl sz_3 rfl (fun x => (one_encI_i64 x).1) rfl (inR2 hun hun_1 rfl) rfl rfl u1 fun w hc => zG θ he hi hf rfl ?_
     try dsimp only
     rw [updE_self E 11]
     exact hc
    ·intro E θ a w hall he hc
     have hf := he.h0
     have e11 := hall 11 rfl
     replace hf := hf.more he 9 rfl (onT)
     replace hf := hf.more he 8 rfl (onT)
     replace hf := hf.more he 7 rfl (onT)
     replace hf := hf.more he 6 rfl (onT)
     replace hf := hf.more he 5 rfl (onT)
     replace hf := hf.more he 3 rfl (onT)
     replace hf := hf.more he 2 rfl (onT)
     replace hf := hf.more he 1 rfl (onT)
     replace hf := hf.more he 0 rfl (onT)
     try dsimp only at hc
     rw [e11] at hc
     exact ⟨hf.kp rfl,hc⟩
    rintro a w ⟨hf,hc⟩
    refine h20 _ _ ?_
    refine cReg ?_
    refine sp 2 hf rfl fun a hf => cNil ?_
    exact hK17 (W (x_2 + 1),(setF x_3 (x * 12 + x_2).toNat r_1)) _ _ (sj hF).symm ⟨hf.kp rfl,hc⟩
   ·refine wp_exit ?_
    refine xThen ?_
    refine xThen ?_
    have he := sj hF
    rw [← he] at hfin17
    refine cHit ?_
    exact hr17 _ _ _ hfin17 ⟨hf.kp rfl,hc⟩
  ·refine wp_exit ?_
   refine xThen ?_
   refine xThen ?_
   have he := sj hF
   rw [← he] at hfin9
   refine cHit ?_
   exact hr9 _ _ _ hfin9 ⟨hf.kp rfl,hc⟩

def math_bits_Mul (N : Nat) (x : Int) (y : Int) : Option (Int × Int) :=
 mulU x y
/-! ### Walks of the library -/

theorem math_bits_Mul_ok {N : Nat} {G : Pers} {Lf : List Ent} {w : World} (x : Int) (y : Int)   (hc : Ctx G (Lf) w) {res : Int × Int} (hF : math_bits_Mul N x y = some res) : Calls Tryz.prog 166 #[.int .u64 x,.int .u64 y] w (fun e w => e = .returned (.tuple #[.int .u64 res.1,.int .u64 res.2]) ∧ Ctx G (Lf) w) := by
 unfold math_bits_Mul at hF
 exact mul_ctx (fun x y h1 h2 w => Go.Proofs.Any.bits_Mul Go.Proofs.Tryz.lays212 x y h1 h2 w) hc hF

def slices_Repeat_Lint_int_b10 (N : Nat) (newslice : List Int) (n : Int) : Option (Step ((List Int) × Int) ((List Int))) :=
 cond (decide (n < ((newslice.length : Nat) : Int)))
 (Option.bind (subO newslice n ((newslice.length : Nat) : Int)) fun sub =>
 Option.bind (subO newslice 0 n) fun sub_1 =>
 Option.bind (cpOk sub_1.length sub.length) fun un_2 =>
 some (.cont ((cpL newslice n.toNat sub.length sub_1),W (n + ((Nat.min sub_1.length sub.length : Nat) : Int)))))
 (some (.brk (newslice,n)))
def slices_Repeat_Lint_int (N : Nat) (x : List Int) (count : Int) : Option ((List Int)) :=
 cond (decide (count < 0))
 (none)
 (Option.bind (math_bits_Mul N (IntKind.u64.wrap (((x.length : Nat) : Int))) (IntKind.u64.wrap (count))) fun r =>
 cond ((decide (0 < r.1)) || (decide (9223372036854775807 < r.2)))
 (none)
 (Option.bind (inM (W (r.2))) fun un =>
 Option.bind (cpOk x.length ((List.replicate (W (r.2)).toNat (0 : Int)).length)) fun un_1 =>
 Option.bind (loopO (fun s10 => slices_Repeat_Lint_int_b10 N s10.1 s10.2) N ((cpL (List.replicate (W (r.2)).toNat (0 : Int)) 0 ((List.replicate (W (r.2)).toNat (0 : Int)).length) x),((Nat.min x.length ((List.replicate (W (r.2)).toNat (0 : Int)).length) : Nat) : Int))) fun x10 =>
 exK x10 (fun s10 => some s10.1) some))
theorem slices_Repeat_Lint_int_ok {N : Nat} {G : Pers} {Lf : List Ent} {w : World} (x : List Int) (count : Int) {x_p : Option Addr} {x_c : Nat} (h_x : Rd G 1 x_p x_c (x.map encI_i64)) (hc : Ctx G (Lf) w) {res : (List Int)} (hF : slices_Repeat_Lint_int N x count = some res) : Calls Tryz.prog 107 #[.slice x_p x.length x_c,i6 count] w (fun e w => ∃ (p'1 : Option Addr) (c'1 : Nat),e = .returned (.slice p'1 res.length c'1) ∧ Ctx G (.row p'1 c'1 (res.map encI_i64) 3 1::Lf) w) := by
 unfold slices_Repeat_Lint_int at hF
 refine fnIn Tryz.func107 rfl Tryz.ntmps107 rfl fun a hf => zS fun K h => sp 1 hf rfl fun a hf => zT h ?_
 refine wp_seq_k fun K2 h2 => zS fun K h => sp 2 hf rfl fun a hf => zT h ?_
 refine zI hf rfl hF ?_ ?_ <;> clear hF <;> intro hF
 ·exact noneO hF
 ·refine wp_skip ?_
  refine h2 _ _ ?_
  refine zS fun K h => sp 1 hf rfl fun a hf => zP hf rfl (pLenS Tryz.underlying25 rfl) fun a hf => zP hf rfl (pCv Tryz.underlying3 Tryz.underlying224 rfl) fun a hf => sp 1 hf rfl fun a hf => zP hf rfl (pCv Tryz.underlying3 Tryz.underlying224 rfl) fun a hf => ?_
  obtain ⟨r,hr,hF⟩ := bnd_some hF
  refine zQ (v := .tuple #[.int .u64 r.1,.int .u64 r.2]) hf hc en_166 rfl (fun w hc => math_bits_Mul_ok (IntKind.u64.wrap (((x.length : Nat) : Int))) (IntKind.u64.wrap (count)) hc hr) fun a w hf hc => sp 5 hf rfl fun a hf => zT h ?_
  refine wp_seq_k fun K5 h5 => zS fun K h => sp 3 hf rfl fun a hf => stCc 3 (fun a => Has 48 a [(0,.slice x_p x.length x_c),(5,.int .u64 r.1),(6,.int .u64 r.2),(21,.int .u64 r.1),(22,.bool (decide (0 < r.1))),(23,.bool (decide (0 < r.1))),(26,.bool ((decide (0 < r.1)) || (decide (9223372036854775807 < r.2))))]) hc ?_ ?_
  ·cases hb : (decide (0 < r.1))
   ·rw [hb] at hf
    refine sp 3 hf rfl fun a hf => cNil ⟨hf.kp rfl,hc⟩
   ·rw [hb] at hf
    refine stS hf rfl rfl rfl fun a hf => stS hf rfl rfl rfl fun a hf => sp 1 hf rfl fun a hf => cNil ⟨hf.kp rfl,hc⟩
  intro a w ⟨hf,hc⟩
  refine zT h ?_
  refine zI hf rfl hF ?_ ?_ <;> clear hF <;> intro hF
  ·exact noneO hF
  ·refine wp_skip ?_
   refine h5 _ _ ?_
   refine zS fun K h => sp 1 hf rfl fun a hf => zP hf rfl (pCv Tryz.underlying224 Tryz.underlying3 rfl) fun a hf => ?_
   obtain ⟨un,hun,hF⟩ := bnd_some hF
   refine stMk (m := (List.replicate (W (r.2)).toNat (0 : Int)).length) (rows := (List.replicate (W (r.2)).toNat (0 : Int)).map encI_i64) hf hc rfl rfl sl_25 rfl rfl (inM_spec hun) rfl rfl (by simp [List.map_replicate,Value.cells]) (by simp) fun b_1 a w hf hc => sp 1 hf rfl fun a hf => zT h ?_
   refine zS fun K h => sp 2 hf rfl fun a hf => ?_
   obtain ⟨un_1,hun_1,hF⟩ := bnd_some hF
   refine stCp (enc := encI_i64) (R := (List.replicate (W (r.2)).toNat (0 : Int))) (S := x) (lo := 0) hf hc rfl rfl Tryz.underlying25 sz_3 rfl (by simp) rfl rfl one_encI_i64 (src_rd hc h_x) (cpOk_spec hun_1) (by simp) u0 fun a w hf hc => sp 1 hf rfl fun a hf => zT h ?_
   refine wp_seq_k fun K9 h9 => wp_block ?_
   obtain ⟨x10,hx10,hF⟩ := bnd_some hF
   let S10 : ((List Int) × Int) → Act → World → Prop := (fun (zz : (List Int) × Int) a w => Has 48 a [(7,.slice (some ⟨b_1,0,none⟩) zz.1.length ((W (r.2)).toNat)),(8,i6 zz.2)] ∧ Ctx G (.row (some ⟨b_1,0,none⟩) ((W (r.2)).toNat) (zz.1.map encI_i64) 3 1::Lf) w)
   have hr10 : ∀ (zz : (List Int) × Int) a w,x10 = .go zz → S10 zz a w → K9 a w := by
    rintro ⟨newslice,n⟩ a w rfl ⟨hf,hc⟩
    replace hF := exK_go hF
    refine h9 _ _ ?_
    refine zS fun K h => sp 2 hf rfl fun a hf => zT h ?_
    refine wp_ret ?_
    obtain rfl := sj hF
    exact zO1 Tryz.results107 hf rfl ⟨(some ⟨b_1,0,none⟩),(W (r.2)).toNat,rfl,hc⟩
   have ho10 : ∀ r,x10 = .out r → r = res := by
    rintro r rfl
    exact sj hF
   replace hf := hf.castAt 7 (v' := .slice (some ⟨b_1,0,none⟩) ((cpL (List.replicate (W (r.2)).toNat (0 : Int)) 0 ((List.replicate (W (r.2)).toNat (0 : Int)).length) x).length) ((W (r.2)).toNat)) rfl (congrArg (fun k => Value.slice (some ⟨b_1,0,none⟩) k ((W (r.2)).toNat)) (by simp))
   refine cLoop N (loopW (S := S10) (x := x10) ?_ N ((cpL (List.replicate (W (r.2)).toNat (0 : Int)) 0 ((List.replicate (W (r.2)).toNat (0 : Int)).length) x),((Nat.min x.length ((List.replicate (W (r.2)).toNat (0 : Int)).length) : Nat) : Int)) _ _ ⟨hf.kp rfl,hc⟩ hx10)
   clear hF hf hc
   rintro ⟨newslice,n⟩ st10 a w KB10 ⟨hf,hc⟩ hF hfin10 hK10
   unfold slices_Repeat_Lint_int_b10 at hF
   refine wp_seq_k fun K12 h12 => zS fun K h => sp 2 hf rfl fun a hf => zP hf rfl (pLenS Tryz.underlying25 rfl) fun a hf => sp 1 hf rfl fun a hf => zT h ?_
   refine zI hf rfl hF ?_ ?_ <;> clear hF <;> intro hF
   ·refine wp_skip ?_
    refine h12 _ _ ?_
    refine wp_thenK fun K14 h14 => wp_block ?_
    have qc := row_cap hc m0
    obtain ⟨sub,hsub,hF⟩ := bnd_some hF
    have qc_1 := row_cap hc m0
    obtain ⟨sub_1,hsub_1,hF⟩ := bnd_some hF
    obtain ⟨un_2,hun_2,hF⟩ := bnd_some hF
    have qs := subO_spec hsub
    try dsimp only at qs
    refine regionE (fun θ => [⟨none,none,7,.slice (some ⟨b_1,0,none⟩) newslice.length ((W (r.2)).toNat)⟩,⟨none,some 9,8,i6 n⟩,⟨some 0,none,38,i6 n⟩,⟨some 1,none,39,.slice (some ⟨b_1,0,none⟩) newslice.length ((W (r.2)).toNat)⟩,⟨some 2,none,40,i6 n⟩,⟨some 3,none,41,.slice (subP (some ⟨b_1,0,none⟩) ((W (r.2)).toNat) n.toNat 1) sub.length (((W (r.2)).toNat) - n.toNat)⟩,⟨some 4,none,42,.slice (some ⟨b_1,0,none⟩) newslice.length ((W (r.2)).toNat)⟩,⟨some 5,none,43,i6 n⟩,⟨some 6,none,44,.slice (subP (some ⟨b_1,0,none⟩) ((W (r.2)).toNat) (0 : Int).toNat 1) sub_1.length (((W (r.2)).toNat) - (0 : Int).toNat)⟩,⟨some 7,none,45,i6 ((Nat.min sub_1.length sub.length : Nat) : Int)⟩,⟨some 8,none,46,i6 (W (n + ((Nat.min sub_1.length sub.length : Nat) : Int)))⟩,⟨some 9,none,8,i6 (W (n + ((Nat.min sub_1.length sub.length : Nat) : Int)))⟩]) (fun E θ => (bif E 7 then .row (some ⟨b_1,0,none⟩) ((W (r.2)).toNat) ((cpL newslice n.toNat sub.length sub_1).map encI_i64) 3 1 else .row (some ⟨b_1,0,none⟩) ((W (r.2)).toNat) (newslice.map encI_i64) 3 1)::Lf) [(9,0),(9,2),(7,3),(9,5),(7,6)] (fun a w => Has 48 a [(7,.slice (some ⟨b_1,0,none⟩) newslice.length ((W (r.2)).toNat)),(8,i6 (W (n + ((Nat.min sub_1.length sub.length : Nat) : Int))))] ∧ Ctx G (.row (some ⟨b_1,0,none⟩) ((W (r.2)).toNat) ((cpL newslice n.toNat sub.length sub_1).map encI_i64) 3 1::Lf) w) follows_mx (by kernel_rfl) (by kernel_rfl) (HasE.of hf ⟨rfl,rfl,trivial,trivial,trivial,trivial,trivial,trivial,trivial,trivial,trivial,trivial,trivial⟩) hc ⟨?_,?_,?_,?_,?_,?_,?_,?_,?_,?_,trivial⟩ ?_ ?_
    ·intro E θ a w hD hi hp he hc
     have e9 := hD.f 0 rfl hi
     have hf := he.h0.mN he 1 rfl e9
     refine sp 1 hf rfl fun a hf => zD θ he hi hf 2 rfl rfl rfl hc
    ·intro E θ a w hD hi hp he hc
     have hf := he.h0.mT he 0 rfl
     refine sp 1 hf rfl fun a hf => zD θ he hi hf 3 rfl rfl rfl hc
    ·intro E θ a w hD hi hp he hc
     have e9 := hD.f 1 rfl hi
     have hf := he.h0.mN he 1 rfl e9
     refine sp 1 hf rfl fun a hf => zD θ he hi hf 4 rfl rfl rfl hc
    ·intro E θ a w hD hi hp he hc
     have e1 := hp.o 1 rfl
     have e2 := hp.o 2 rfl
     have e7 := hD.f 2 rfl hi
     try dsimp only at hc
     rw [e7] at hc
     have hf := (he.h0.mP he 3 rfl e1).mP he 4 rfl e2
     refine zP hf rfl (pSl Tryz.underlying25 sz_3 rfl rfl qc rfl rfl hsub) fun a hf => zD θ he hi hf 5 rfl rfl rfl ?_
     try dsimp only
     rw [updE_fls 3 e7 rfl]
     exact hc
    ·intro E θ a w hD hi hp he hc
     have hf := he.h0.mT he 0 rfl
     refine sp 1 hf rfl fun a hf => zD θ he hi hf 6 rfl rfl rfl hc
    ·intro E θ a w hD hi hp he hc
     have e9 := hD.f 3 rfl hi
     have hf := he.h0.mN he 1 rfl e9
     refine sp 1 hf rfl fun a hf => zD θ he hi hf 7 rfl rfl rfl hc
    ·intro E θ a w hD hi hp he hc
     have e4 := hp.o 4 rfl
     have e5 := hp.o 5 rfl
     have e7 := hD.f 4 rfl hi
     try dsimp only at hc
     rw [e7] at hc
     have hf := (he.h0.mP he 6 rfl e4).mP he 7 rfl e5
     refine zP hf rfl (pSl Tryz.underlying25 sz_3 rfl rfl qc_1 rfl rfl hsub_1) fun a hf => zD θ he hi hf 8 rfl rfl rfl ?_
     try dsimp only
     rw [updE_fls 6 e7 rfl]
     exact hc
    ·intro E θ a w hD hi hp he hc
     have e3 := hp.o 3 rfl
     have e6 := hp.o 6 rfl
     try dsimp only at hc
     rw [hi] at hc
     have hf := (he.h0.mP he 5 rfl e3).mP he 8 rfl e6
     refine stCp (enc := encI_i64) (R := newslice) (S := sub_1) (lo := n.toNat) hf hc rfl rfl Tryz.underlying25 sz_3 rfl (subP_some (cpOk_spec hun_2).2 (by have : newslice.length ≤ (W (r.2)).toNat := row_cap hc m0; omega)) rfl rfl one_encI_i64 (src_sub (fun x => (one_encI_i64 x).1) (src_row hc m0) hsub_1 (row_cap hc m0)) (cpOk_spec hun_2) (by omega) u0 fun a w hf hc => zD θ he hi hf 9 rfl rfl rfl ?_
     try dsimp only
     rw [updE_self E 7]
     exact hc
    ·intro E θ a w hD hi hp he hc
     have e0 := hp.o 0 rfl
     have e7 := hp.o 7 rfl
     have hf := (he.h0.mP he 2 rfl e0).mP he 9 rfl e7
     refine sp 1 hf rfl fun a hf => zD θ he hi hf 10 rfl rfl rfl hc
    ·intro E θ a w hD hi hp he hc
     have e8 := hp.o 8 rfl
     have hf := he.h0.mP he 10 rfl e8
     refine sp 1 hf rfl fun a hf => zD θ he hi hf 11 rfl rfl rfl hc
    ·intro E θ a w hall he hc
     have hf := he.h0
     have e7 := hall 7 rfl
     have e9 := hall 9 rfl
     replace hf := hf.more he 11 rfl (onP e9)
     replace hf := hf.more he 0 rfl (onT)
     try dsimp only at hc
     rw [e7] at hc
     exact ⟨hf.kp rfl,hc⟩
    rintro a w ⟨hf,hc⟩
    refine h14 _ _ ?_
    replace hf := hf.castAt 7 (v' := .slice (some ⟨b_1,0,none⟩) ((cpL newslice n.toNat sub.length sub_1).length) ((W (r.2)).toNat)) rfl (congrArg (fun k => Value.slice (some ⟨b_1,0,none⟩) k ((W (r.2)).toNat)) (by simp))
    exact hK10 ((cpL newslice n.toNat sub.length sub_1),W (n + ((Nat.min sub_1.length sub.length : Nat) : Int))) _ _ (sj hF).symm ⟨hf.kp rfl,hc⟩
   ·refine wp_exit ?_
    refine xThen ?_
    refine xThen ?_
    have he := sj hF
    rw [← he] at hfin10
    refine cHit ?_
    exact hr10 _ _ _ hfin10 ⟨hf.kp rfl,hc⟩

def crew_work_better (N : Nat) (w_ : crew_work) (p_ : Int) (than : Int) : Option (Int × Int) :=
 some (p_,than)
theorem crew_work_better_ok {N : Nat} {G : Pers} {Lf : List Ent} {w : World} (w_ : crew_work) (p_ : Int) (than : Int) {b_ : Nat} {w__Roster_People_p : Option Addr} {w__Roster_People_c : Nat} {w__Roster_Stations_p : Option Addr} {w__Roster_Stations_c : Nat} (h_w__Roster_People : RdT kd_25 G 1 w__Roster_People_p w__Roster_People_c w_.Roster.People) (h_w__Roster_Stations : RdT kd_101 G 2 w__Roster_Stations_p w__Roster_Stations_c w_.Roster.Stations) (h_w__pc : PC G b_ 0 (catc [.slice w__Roster_People_p w_.Roster.People.length w__Roster_People_c,.slice w__Roster_Stations_p w_.Roster.Stations.length w__Roster_Stations_c] 144 encI_i64 w_.rank [])) (hc : Ctx G (Lf) w) {res : Int × Int} (hF : crew_work_better N w_ p_ than = some res) : Calls Tryz.prog 111 #[pq b_,i6 p_,i6 than] w (fun e w => ∃ (b'1 : Nat) (b'2 : Nat) (b'3 : Nat),e = .returned (.func (.func 167) #[] #[pq b'1,pq b'2,pq b'3]) ∧ Ctx G (.box b'1 [pq b_] 166::.box b'2 [i6 res.1] 3::.box b'3 [i6 res.2] 3::Lf) w) := by
 unfold crew_work_better at hF
 refine fnIn Tryz.func111 rfl Tryz.ntmps111 rfl fun a hf => zS fun K h => zB hf hc rfl fun b_1 a w hf hc => zB hf hc rfl fun b_2 a w hf hc => zB hf hc rfl fun b_3 a w hf hc => sp 1 hf rfl fun a hf => zT h ?_
 refine zS fun K h => zP hf rfl (pMF (us := [pq b_1,pq b_2,pq b_3]) rfl rfl) fun a hf => sp 1 hf rfl fun a hf => zT h ?_
 refine wp_ret ?_
 obtain rfl := sj hF
 replace hc := ((hc.pick k0).pick k1).pick k2
 exact zO1 Tryz.results111 hf rfl ⟨b_1,b_2,b_3,rfl,hc⟩

def crew_work_possible (N : Nat) (w_ : crew_work) (p_ : Int) (s_ : Int) : Option (Bool) :=
 Option.bind (inR s_ 12) fun un =>
 Option.bind (inR p_ 12) fun un_1 =>
 Option.bind (cond ((w_.rank (s_ * 12 + p_).toNat) != (-1)) (Option.bind (getI w_.Roster.People p_) fun e_1 =>
 Option.bind (slices_Contains_Lint_int N e_1 s_) fun r =>
 some r) (some false)) fun t_1 =>
 some t_1
theorem crew_work_possible_ok {N : Nat} {G : Pers} {Lf : List Ent} {w : World} (w_ : crew_work) (p_ : Int) (s_ : Int) {b_ : Nat} {w__Roster_People_p : Option Addr} {w__Roster_People_c : Nat} {w__Roster_Stations_p : Option Addr} {w__Roster_Stations_c : Nat} (h_w__Roster_People : RdT kd_25 G 1 w__Roster_People_p w__Roster_People_c w_.Roster.People) (h_w__Roster_Stations : RdT kd_101 G 2 w__Roster_Stations_p w__Roster_Stations_c w_.Roster.Stations) (h_w__pc : PC G b_ 0 (catc [.slice w__Roster_People_p w_.Roster.People.length w__Roster_People_c,.slice w__Roster_Stations_p w_.Roster.Stations.length w__Roster_Stations_c] 144 encI_i64 w_.rank [])) (hc : Ctx G (Lf) w) {res : Bool} (hF : crew_work_possible N w_ p_ s_ = some res) : Calls Tryz.prog 110 #[pq b_,i6 p_,i6 s_] w (fun e w => e = .returned (.bool res) ∧ Ctx G (Lf) w) := by
 unfold crew_work_possible at hF
 refine fnIn Tryz.func110 rfl Tryz.ntmps110 rfl fun a hf => zS fun K h => sp 1 hf rfl fun a hf => zT h ?_
 refine zS fun K h => sp 4 hf rfl fun a hf => zP hf rfl (pFA fa_181_1 rfl) fun a hf => ?_
 obtain ⟨un,hun,hF⟩ := bnd_some hF
 refine zP hf rfl (pIAA Tryz.underlying179 sz_178 rfl rfl (inR_spec hun).1 (inR_spec hun).2) fun a hf => ?_
 obtain ⟨un_1,hun_1,hF⟩ := bnd_some hF
 refine zP hf rfl (Pu.cast (pIAA Tryz.underlying178 sz_3 rfl rfl (inR_spec hun_1).1 (inR_spec hun_1).2) (congrArg (fun k => Value.pointer (some ⟨b_,k,none⟩)) (flat_off (M := 12) (0 + 2) hun hun_1 rfl))) fun a hf => zE hf hc rfl (eLd1 sc_3 rfl (cell_pca (j := 0) h_w__pc (fun x => (one_encI_i64 x).1) rfl (inR2 hun hun_1 rfl) rfl)) fun a w hf hc => sp 2 hf rfl fun a hf => ?_
 obtain ⟨t_1,ht_1,hF⟩ := bnd_some hF
 refine stCc 11 (fun a => Has 28 a [(0,pq b_),(1,i6 p_),(2,i6 s_),(6,.bool false),(7,pq b_),(8,i6 s_),(9,i6 p_),(10,pq b_),(11,.pointer (some ⟨b_,0 + 2,none⟩)),(12,.pointer (some ⟨b_,0 + 2 + s_.toNat * 12,none⟩)),(13,.pointer (some ⟨b_,0 + 2 + (s_ * 12 + p_).toNat * 1,none⟩)),(14,i6 (w_.rank (s_ * 12 + p_).toNat)),(15,.bool ((w_.rank (s_ * 12 + p_).toNat) != (-1))),(16,.bool ((w_.rank (s_ * 12 + p_).toNat) != (-1))),(27,.bool t_1)]) hc ?_ ?_
 ·cases hb : ((w_.rank (s_ * 12 + p_).toNat) != (-1))
  ·rw [hb] at hf
   have hF := condF hb ht_1
   obtain rfl := sj hF
   refine stS hf rfl rfl rfl fun a hf => stS hf rfl rfl rfl fun a hf => stS hf rfl rfl rfl fun a hf => stS hf rfl rfl rfl fun a hf => stS hf rfl rfl rfl fun a hf => stS hf rfl rfl rfl fun a hf => stS hf rfl rfl rfl fun a hf => stS hf rfl rfl rfl fun a hf => stS hf rfl rfl rfl fun a hf => stS hf rfl rfl rfl fun a hf => sp 1 hf rfl fun a hf => cNil ⟨hf.kp rfl,hc⟩
  ·rw [hb] at hf
   have hF := condT hb ht_1
   refine sp 2 hf rfl fun a hf => zP hf rfl (pFA fa_181_0 rfl) fun a hf => zP hf rfl (pFA fa_78_0 rfl) fun a hf => zE hf hc rfl (eLd1 sc_75 rfl (cell_pc (j := 0) h_w__pc rfl)) fun a w hf hc => sp 1 hf rfl fun a hf => ?_
   obtain ⟨e_1,he_1,hF⟩ := bnd_some hF
   obtain ⟨b_1,o,hd,qa,qp,qr⟩ := h_w__Roster_People.atm he_1
   refine zP hf rfl (pIA Tryz.underlying75 sz_25 rfl rfl qa) fun a hf => zE hf hc rfl (eLd1 sc_25 rfl (cell_pc (j := 0) qp rfl)) fun a w hf hc => sp 1 hf rfl fun a hf => ?_
   obtain ⟨r,hr,hF⟩ := bnd_some hF
   refine zQ (v := .bool r) hf hc en_72 rfl (fun w hc => slices_Contains_Lint_int_ok e_1 s_ qr hc hr) fun a w hf hc => sp 1 hf rfl fun a hf => ?_
   obtain rfl := sj hF
   exact cNil ⟨hf.kp rfl,hc⟩
 intro a w ⟨hf,hc⟩
 refine sp 1 hf rfl fun a hf => zT h ?_
 refine wp_ret ?_
 obtain rfl := sj hF
 exact zO1 Tryz.results110 hf rfl ⟨rfl,hc⟩

def crew_work_better_1_j6 (N : Nat) {σ : Type} (x_0 : Int) (x_3 : Int) (x_4 : Bool) (x_5 : Bool) (x_6 : Bool) (sg_1 : σ) : Option (Step (Int × σ) (σ)) :=
 some (.cont (W (x_0 + 1),sg_1))
def crew_work_better_1_b3 (N : Nat) {σ : Type} (x : crew_work) (x_1 : Int) (x_2 : Int) (y : σ → Int → Option (σ × Bool)) (e_1 : List Int) (x_0 : Int) (sg : σ) : Option (Step (Int × σ) (σ)) :=
 cond (decide (x_0 < ((e_1.length : Nat) : Int)))
 (Option.bind (getI e_1 x_0) fun e_2 =>
 cond (e_2 == x_2)
 (some (.ret sg))
 (Option.bind (crew_work_possible N (⟨x.Roster,x.rank⟩ : crew_work) x_1 e_2) fun r =>
 cond r
 (Option.bind (y sg e_2) fun ry =>
 cond (!ry.2)
 (some (.ret ry.1))
 (crew_work_better_1_j6 N x_0 e_2 true true (!ry.2) ry.1))
 (crew_work_better_1_j6 N x_0 e_2 false false false sg)))
 (some (.brk (x_0,sg)))
def crew_work_better_1 (N : Nat) {σ : Type} (x : crew_work) (x_1 : Int) (x_2 : Int) (y : σ → Int → Option (σ × Bool)) (sg0 : σ) : Option (σ) :=
 Option.bind (getI x.Roster.People x_1) fun e_1 =>
 Option.bind (loopO (fun s3 => crew_work_better_1_b3 N x x_1 x_2 y e_1 s3.1 s3.2) N (0,sg0)) fun x3 =>
 exK x3 (fun s3 => some s3.2) some
theorem crew_work_better_1_ok {N : Nat} {G : Pers} {Lf : List Ent} {w : World} {σ : Type} (x : crew_work) (x_1 : Int) (x_2 : Int) {b_ : Nat} {b__1 : Nat} {x_Roster_People_p : Option Addr} {x_Roster_People_c : Nat} {x_Roster_Stations_p : Option Addr} {x_Roster_Stations_c : Nat} {b__2 : Nat} {b__3 : Nat} (h_x_Roster_People : RdT kd_25 G 1 x_Roster_People_p x_Roster_People_c x.Roster.People) (h_x_Roster_Stations : RdT kd_101 G 2 x_Roster_Stations_p x_Roster_Stations_c x.Roster.Stations) (h_x_pc : PC G b__1 0 (catc [.slice x_Roster_People_p x.Roster.People.length x_Roster_People_c,.slice x_Roster_Stations_p x.Roster.Stations.length x_Roster_Stations_c] 144 encI_i64 x.rank [])) (J : σ → List Ent → Prop) (y : σ → Int → Option (σ × Bool)) {l : Nat} (hy : YieldsTo Tryz.prog G l (fun x : Int => [i6 x]) J y) (sg0 : σ) {Ls0 : List Ent} (hJ0 : J sg0 Ls0) (hc : Ctx G (.box b_ [pq b__1] 166::.box b__2 [i6 x_1] 3::.box b__3 [i6 x_2] 3::(Ls0 ++ Lf)) w) {res : σ} (hF : crew_work_better_1 N x x_1 x_2 y sg0 = some res) : Calls Tryz.prog 167 #[.func (.yield l) #[] #[],pq b_,pq b__2,pq b__3] w (fun e w => (∃ v,e = .returned v) ∧ ∃ L,J res L ∧ Ctx G (.box b_ [pq b__1] 166::.box b__2 [i6 x_1] 3::.box b__3 [i6 x_2] 3::(L ++ Lf)) w) := by
 unfold crew_work_better_1 at hF
 refine fnIn Tryz.func167 rfl Tryz.ntmps167 rfl fun a hf => wp_seq_k fun K1 h1 => ?_
 obtain ⟨e_1,he_1,hF⟩ := bnd_some hF
 obtain ⟨b_1,o,hd,qa,qp,qr⟩ := h_x_Roster_People.atm he_1
 refine cQ hc follows_mx (by kernel_rfl) ?_
 refine qE hf rfl rfl rfl (eLd1 sc_166 rfl (cell_box m0 rfl)) fun a hf => qE hf rfl rfl rfl (Pu.ev (pNC rfl)) fun a hf => qE hf rfl rfl rfl (Pu.ev (pFA fa_181_0 rfl)) fun a hf => qE hf rfl rfl rfl (Pu.ev (pFA fa_78_0 rfl)) fun a hf => qE hf rfl rfl rfl (eLd1 sc_75 rfl (cell_pc (j := 0) h_x_pc rfl)) fun a hf => qE hf rfl rfl rfl (eLd1 sc_3 rfl (cell_box m1 rfl)) fun a hf => qE hf rfl rfl rfl (Pu.ev (pIA Tryz.underlying75 sz_25 rfl rfl qa)) fun a hf => qE hf rfl rfl rfl (eLd1 sc_25 rfl (cell_pc (j := 0) qp rfl)) fun a hf => qE hf rfl rfl rfl (Pu.ev (pLenS Tryz.underlying25 rfl)) fun a hf => qE hf rfl rfl rfl (Pu.ev (pM rfl)) fun a hf => ?_
 intro w hc
 refine h1 _ _ ?_
 refine wp_thenK fun K2 h2 => wp_block ?_
 obtain ⟨x3,hx3,hF⟩ := bnd_some hF
 let S3 : (Int × σ) → Act → World → Prop := (fun (zz : Int × σ) a w => ∃ (Ls : List Ent),J zz.2 Ls ∧ Has 36 a [(0,.func (.yield l) #[] #[]),(1,pq b_),(2,pq b__2),(3,pq b__3),(14,.slice hd.1 e_1.length hd.2),(15,i6 ((e_1.length : Nat) : Int)),(16,i6 zz.1)] ∧ Ctx G (.box b_ [pq b__1] 166::.box b__2 [i6 x_1] 3::.box b__3 [i6 x_2] 3::(Ls ++ Lf)) w)
 have hr3 : ∀ (zz : Int × σ) a w,x3 = .go zz → S3 zz a w → K2 a w := by
  rintro ⟨x_0,sg⟩ a w rfl ⟨Ls,hJ,hf,hc⟩
  replace hF := exK_go hF
  refine h2 _ _ ?_
  obtain rfl := sj hF
  exact fnOut0 (by simp) rfl Tryz.results167 hf ⟨⟨_,rfl⟩,Ls,hJ,hc⟩
 have ho3 : ∀ r,x3 = .out r → r = res := by
  rintro r rfl
  exact sj hF
 refine cLoop N (loopW (S := S3) (x := x3) ?_ N (0,sg0) _ _ ⟨Ls0,hJ0,hf.kp rfl,hc⟩ hx3)
 clear hF hf hc
 rintro ⟨x_0,sg⟩ st3 a w KB3 ⟨Ls,hJ,hf,hc⟩ hF hfin3 hK3
 unfold crew_work_better_1_b3 at hF
 refine zS fun K h => sp 1 hf rfl fun a hf => zT h ?_
 refine wp_seq_k fun K5 h5 => zI hf rfl hF ?_ ?_ <;> clear hF <;> intro hF
 ·refine wp_skip ?_
  refine h5 _ _ ?_
  refine wp_seq_k fun K6 h6 => ?_
  have hj6 : ∀ (x_3 : Int) (x_4 : Bool) (x_5 : Bool) (x_6 : Bool) (sg_1 : σ) (Ls_1 : List Ent) a w,J sg_1 Ls_1 → Has 36 a [(0,.func (.yield l) #[] #[]),(1,pq b_),(2,pq b__2),(3,pq b__3),(14,.slice hd.1 e_1.length hd.2),(15,i6 ((e_1.length : Nat) : Int)),(16,i6 x_0),(24,pq b__1),(25,i6 x_1),(26,i6 x_3),(27,.bool x_4),(28,.bool x_5),(33,.bool x_6)] → Ctx G (.box b_ [pq b__1] 166::.box b__2 [i6 x_1] 3::.box b__3 [i6 x_2] 3::(Ls_1 ++ Lf)) w → crew_work_better_1_j6 N x_0 x_3 x_4 x_5 x_6 sg_1 = some st3 → K6 a w := by
   repeat (clear hF)
   repeat (clear hc)
   repeat (clear hf)
   intro x_3 x_4 x_5 x_6 sg_1 Ls_1 a w hJ_1 hf hc hF
   unfold crew_work_better_1_j6 at hF
   refine h6 _ _ ?_
   refine cReg ?_
   refine sp 2 hf rfl fun a hf => cNil ?_
   exact hK3 (W (x_0 + 1),sg_1) _ _ (sj hF).symm ⟨Ls_1,hJ_1,hf.kp rfl,hc⟩
  refine wp_block ?_
  refine zS fun K h => ?_
  obtain ⟨e_2,he_2,hF⟩ := bnd_some hF
  obtain ⟨b_2,o_1,qa_1,qp_1⟩ := qr.atm he_2
  refine zP hf rfl (pIA Tryz.underlying25 sz_3 rfl rfl qa_1) fun a hf => zE hf hc rfl (eLd1 sc_3 rfl (cell_pc (j := 0) qp_1 rfl)) fun a w hf hc => sp 1 hf rfl fun a hf => zT h ?_
  refine wp_seq_k fun K8 h8 => ?_
  rcases boolEq (e_2 == x_2) with hb1 | hb1
  ·replace hF := condT hb1 hF
   refine cReg ?_
   refine sp 1 hf rfl fun a hf => zL hf hc sc_3 m2 rfl fun a w hf hc => sp 1 hf rfl fun a hf => ?_
   replace hf := castB hb1 hf
   refine sp 1 hf rfl fun a hf => stS hf rfl rfl rfl fun a hf => stS hf rfl rfl rfl fun a hf => stS hf rfl rfl rfl fun a hf => stS hf rfl rfl rfl fun a hf => stS hf rfl rfl rfl fun a hf => stS hf rfl rfl rfl fun a hf => stS hf rfl rfl rfl fun a hf => stS hf rfl rfl rfl fun a hf => stS hf rfl rfl rfl fun a hf => stS hf rfl rfl rfl fun a hf => sp 1 hf rfl fun a hf => cNil ?_
   refine h8 _ _ ?_
   refine cCondT hf rfl ?_
   refine wp_ret ?_
   refine xBlkR ?_
   refine xThenR ?_
   refine xThenR ?_
   have he := sj hF
   rw [← he] at hfin3
   replace hF := ho3 _ hfin3
   refine xBlkR ?_
   refine xThenR ?_
   obtain rfl := hF
   exact fnOut0 (by simp) rfl Tryz.results167 hf ⟨⟨_,rfl⟩,Ls,hJ,hc⟩
  ·replace hF := condF hb1 hF
   obtain ⟨r,hr,hF⟩ := bnd_some hF
   rcases boolEq r with hb2 | hb2
   ·replace hF := condT hb2 hF
    obtain ⟨ry,hry,hF⟩ := bnd_some hF
    refine yReg 11 (fun a w => Has 36 a [(0,.func (.yield l) #[] #[]),(1,pq b_),(2,pq b__2),(3,pq b__3),(14,.slice hd.1 e_1.length hd.2),(15,i6 ((e_1.length : Nat) : Int)),(16,i6 x_0),(6,i6 e_2),(20,i6 e_2),(21,i6 x_2),(22,.bool false),(23,.bool false),(24,pq b__1),(25,i6 x_1),(26,i6 e_2),(27,.bool true),(28,.bool true),(29,.func (.yield l) #[] #[]),(30,i6 e_2)] ∧ Ctx G (.box b_ [pq b__1] 166::.box b__2 [i6 x_1] 3::.box b__3 [i6 x_2] 3::(Ls ++ Lf)) w) (fun _ _ h => by obtain ⟨⟨_,h⟩,_⟩ := h; cases h) ?_ ?_
    ·refine sp 1 hf rfl fun a hf => zL hf hc sc_3 m2 rfl fun a w hf hc => sp 1 hf rfl fun a hf => ?_
     replace hf := castB hb1 hf
     refine sp 1 hf rfl fun a hf => zL hf hc sc_166 m0 rfl fun a w hf hc => zL hf hc sc_3 m1 rfl fun a w hf hc => sp 1 hf rfl fun a hf => zQ (v := .bool r) hf hc en_110 rfl (fun w hc => crew_work_possible_ok (⟨x.Roster,x.rank⟩ : crew_work) x_1 e_2 h_x_Roster_People h_x_Roster_Stations h_x_pc hc hr) fun a w hf hc => ?_
     replace hf := castB hb2 hf
     refine sp 3 hf rfl fun a hf => cNil ⟨hf.kp rfl,hc⟩
    rintro a w ⟨hf,hc⟩
    refine stY (own := [.box b_ [pq b__1] 166,.box b__2 [i6 x_1] 3,.box b__3 [i6 x_2] 3]) (v := e_2) hy hJ hry hf hc rfl rfl rfl rfl rfl rfl fun a w Ls_2 hJ_2 hf hc => ?_
    replace hc : Ctx G (.box b_ [pq b__1] 166::.box b__2 [i6 x_1] 3::.box b__3 [i6 x_2] 3::(Ls_2 ++ Lf)) w := hc
    refine yRest (fun _ _ h => by obtain ⟨⟨_,h⟩,_⟩ := h; cases h) ?_
    refine sp 3 hf rfl fun a hf => cNil ?_
    refine h8 _ _ ?_
    refine zI hf rfl hF ?_ ?_ <;> clear hF <;> intro hF
    ·refine wp_ret ?_
     refine xBlkR ?_
     refine xThenR ?_
     refine xThenR ?_
     have he := sj hF
     rw [← he] at hfin3
     replace hF := ho3 _ hfin3
     refine xBlkR ?_
     refine xThenR ?_
     obtain rfl := hF
     exact fnOut0 (by simp) rfl Tryz.results167 hf ⟨⟨_,rfl⟩,Ls_2,hJ_2,hc⟩
    ·refine wp_skip ?_
     exact hj6 e_2 true true (!ry.2) ry.1 Ls_2 _ _ hJ_2 (hf.kp rfl) hc hF
   ·replace hF := condF hb2 hF
    refine cReg ?_
    refine sp 1 hf rfl fun a hf => zL hf hc sc_3 m2 rfl fun a w hf hc => sp 1 hf rfl fun a hf => ?_
    replace hf := castB hb1 hf
    refine sp 1 hf rfl fun a hf => zL hf hc sc_166 m0 rfl fun a w hf hc => zL hf hc sc_3 m1 rfl fun a w hf hc => sp 1 hf rfl fun a hf => zQ (v := .bool r) hf hc en_110 rfl (fun w hc => crew_work_possible_ok (⟨x.Roster,x.rank⟩ : crew_work) x_1 e_2 h_x_Roster_People h_x_Roster_Stations h_x_pc hc hr) fun a w hf hc => ?_
    replace hf := castB hb2 hf
    refine sp 1 hf rfl fun a hf => stS hf rfl rfl rfl fun a hf => stS hf rfl rfl rfl fun a hf => stS hf rfl rfl rfl fun a hf => stS hf rfl rfl rfl fun a hf => sp 2 hf rfl fun a hf => cNil ?_
    refine h8 _ _ ?_
    refine cCondF hf rfl ?_
    refine wp_skip ?_
    exact hj6 e_2 false false false sg Ls _ _ hJ (hf.kp rfl) hc hF
 ·refine wp_exit ?_
  refine xThen ?_
  refine xThen ?_
  have he := sj hF
  rw [← he] at hfin3
  refine cHit ?_
  exact hr3 _ _ _ hfin3 ⟨Ls,hJ,hf.kp rfl,hc⟩

def crew_work_settle_1_1 (x : crew_Refusal) (x_1 : Int) (x_2 : Int) : Bool :=
 (x.Person == x_1 && x.Station == x_2)
theorem crew_work_settle_1_1_ok {G : Pers} {Lf : List Ent} {w : World} (x : crew_Refusal) (x_1 : Int) (x_2 : Int) {b_ : Nat} {b__1 : Nat}  (hc : Ctx G (.box b_ [i6 x_1] 3::.box b__1 [i6 x_2] 3::Lf) w) {res : Bool} (hF : crew_work_settle_1_1 x x_1 x_2 = res) : Calls Tryz.prog 165 #[.agg #[i6 x.Person,i6 x.Station],pq b_,pq b__1] w (fun e w => e = .returned (.bool res) ∧ Ctx G (.box b_ [i6 x_1] 3::.box b__1 [i6 x_2] 3::Lf) w) := by
 unfold crew_work_settle_1_1 at hF
 refine fnIn Tryz.func165 rfl Tryz.ntmps165 rfl fun a hf => zS fun K h => zB hf hc rfl fun b_1 a w hf hc => sp 1 hf rfl fun a hf => zT h ?_
 refine zS fun K h => zN hf hc ag_86 m0 rfl fun a w hf hc => zL hf hc sc_3 m1 rfl fun a w hf hc => zL hf hc sc_3 m2 rfl fun a w hf hc => zP hf rfl (pBuildS (cells := [i6 x_1,i6 x_2]) bt_86 rfl rfl) fun a hf => zP hf rfl (pEqA ge_86 rfl rfl (eqs_86 _ _ _ _)) fun a hf => sp 1 hf rfl fun a hf => zT h ?_
 refine wp_ret ?_
 obtain rfl := hF
 replace hc := hc.drop k0
 exact zO1 Tryz.results165 hf rfl ⟨rfl,hc⟩

def slices_IndexFunc_Lcrew_Refusal_crew_Refusal_b4 (N : Nat) (s_ : List crew_Refusal) (f_ : Int) (f__1 : Int) (x : Int) : Option (Step (Int) (Int)) :=
 cond (decide (x < ((s_.length : Nat) : Int)))
 (Option.bind (getI s_ x) fun e_1 =>
 cond (crew_work_settle_1_1 e_1 f_ f__1)
 (some (.ret x))
 (some (.cont (W (x + 1)))))
 (some (.brk x))
def slices_IndexFunc_Lcrew_Refusal_crew_Refusal (N : Nat) (s_ : List crew_Refusal) (f_ : Int) (f__1 : Int) : Option (Int) :=
 Option.bind (loopO (fun s4 => slices_IndexFunc_Lcrew_Refusal_crew_Refusal_b4 N s_ f_ f__1 s4) N 0) fun x4 =>
 exK x4 (fun s4 => some (-1)) some
theorem slices_IndexFunc_Lcrew_Refusal_crew_Refusal_ok {N : Nat} {G : Pers} {Lf : List Ent} {w : World} (s_ : List crew_Refusal) (f_ : Int) (f__1 : Int) {s__p : Option Addr} {s__c : Nat} {b_ : Nat} {b__1 : Nat} (h_s_ : Rd G 2 s__p s__c (s_.map enc_crew_Refusal)) (hc : Ctx G (.box b_ [i6 f_] 3::.box b__1 [i6 f__1] 3::Lf) w) {res : Int} (hF : slices_IndexFunc_Lcrew_Refusal_crew_Refusal N s_ f_ f__1 = some res) : Calls Tryz.prog 188 #[.slice s__p s_.length s__c,.func (.func 165) #[] #[pq b_,pq b__1]] w (fun e w => e = .returned (i6 res) ∧ Ctx G (.box b_ [i6 f_] 3::.box b__1 [i6 f__1] 3::Lf) w) := by
 unfold slices_IndexFunc_Lcrew_Refusal_crew_Refusal at hF
 refine fnIn Tryz.func188 rfl Tryz.ntmps188 rfl fun a hf => zS fun K h => sp 1 hf rfl fun a hf => zT h ?_
 refine wp_seq_k fun K2 h2 => zS fun K h => sp 1 hf rfl fun a hf => zP hf rfl (pLenS Tryz.underlying99 rfl) fun a hf => sp 1 hf rfl fun a hf => zT h ?_
 refine wp_block ?_
 obtain ⟨x4,hx4,hF⟩ := bnd_some hF
 let S4 : Int → Act → World → Prop := (fun (zz : Int) a w => Has 19 a [(0,.slice s__p s_.length s__c),(1,.func (.func 165) #[] #[pq b_,pq b__1]),(7,i6 ((s_.length : Nat) : Int)),(8,i6 zz)] ∧ Ctx G (.box b_ [i6 f_] 3::.box b__1 [i6 f__1] 3::Lf) w)
 have hr4 : ∀ (zz : Int) a w,x4 = .go zz → S4 zz a w → K2 a w := by
  rintro x a w rfl ⟨hf,hc⟩
  replace hF := exK_go hF
  refine h2 _ _ ?_
  refine zS fun K h => sp 1 hf rfl fun a hf => zT h ?_
  refine wp_ret ?_
  obtain rfl := sj hF
  exact zO1 Tryz.results188 hf rfl ⟨rfl,hc⟩
 have ho4 : ∀ r,x4 = .out r → r = res := by
  rintro r rfl
  exact sj hF
 refine cLoop N (loopW (S := S4) (x := x4) ?_ N 0 _ _ ⟨hf.kp rfl,hc⟩ hx4)
 clear hF hf hc
 rintro x st4 a w KB4 ⟨hf,hc⟩ hF hfin4 hK4
 unfold slices_IndexFunc_Lcrew_Refusal_crew_Refusal_b4 at hF
 refine zS fun K h => sp 1 hf rfl fun a hf => zT h ?_
 refine wp_seq_k fun K7 h7 => zI hf rfl hF ?_ ?_ <;> clear hF <;> intro hF
 ·refine wp_skip ?_
  refine h7 _ _ ?_
  refine wp_seq_k fun K8 h8 => wp_block ?_
  refine zS fun K h => sp 2 hf rfl fun a hf => zT h ?_
  refine zS fun K h => sp 3 hf rfl fun a hf => ?_
  obtain ⟨e_1,he_1,hF⟩ := bnd_some hF
  obtain ⟨b_1,o,qa,qp⟩ := h_s_.atm he_1
  refine zP hf rfl (pIA Tryz.underlying99 sz_86 rfl rfl qa) fun a hf => zE hf hc rfl (eLdN (vs := [i6 e_1.Person,i6 e_1.Station]) ag_86 rfl rfl (cells_pc qp (n := 2) (o' := 0) rfl)) fun a w hf hc => zQ (v := .bool (crew_work_settle_1_1 e_1 f_ f__1)) hf hc en_165 rfl (fun w hc => (crew_work_settle_1_1_ok e_1 f_ f__1 ((hc.pick k1).pick k1) rfl).mono fun e w h => ⟨h.1,((h.2.unpick k1).unpick k1)⟩) fun a w hf hc => zT h ?_
  refine zI hf rfl hF ?_ ?_ <;> clear hF <;> intro hF
  ·refine zS fun K h => sp 2 hf rfl fun a hf => zT h ?_
   refine wp_ret ?_
   refine xBlkR ?_
   refine xThenR ?_
   refine xThenR ?_
   have he := sj hF
   rw [← he] at hfin4
   replace hF := ho4 _ hfin4
   refine xBlkR ?_
   refine xThenR ?_
   obtain rfl := hF
   exact zO1 Tryz.results188 hf rfl ⟨rfl,hc⟩
  ·refine wp_skip ?_
   refine h8 _ _ ?_
   refine cReg ?_
   refine sp 2 hf rfl fun a hf => cNil ?_
   exact hK4 (W (x + 1)) _ _ (sj hF).symm ⟨hf.kp rfl,hc⟩
 ·refine wp_exit ?_
  refine xThen ?_
  refine xThen ?_
  have he := sj hF
  rw [← he] at hfin4
  refine cHit ?_
  exact hr4 _ _ _ hfin4 ⟨hf.kp rfl,hc⟩

def slices_ContainsFunc_Lcrew_Refusal_crew_Refusal (N : Nat) (s_ : List crew_Refusal) (f_ : Int) (f__1 : Int) : Option (Bool) :=
 Option.bind (slices_IndexFunc_Lcrew_Refusal_crew_Refusal N s_ f_ f__1) fun r =>
 some (decide (0 ≤ r))
theorem slices_ContainsFunc_Lcrew_Refusal_crew_Refusal_ok {N : Nat} {G : Pers} {Lf : List Ent} {w : World} (s_ : List crew_Refusal) (f_ : Int) (f__1 : Int) {s__p : Option Addr} {s__c : Nat} {b_ : Nat} {b__1 : Nat} (h_s_ : Rd G 2 s__p s__c (s_.map enc_crew_Refusal)) (hc : Ctx G (.box b_ [i6 f_] 3::.box b__1 [i6 f__1] 3::Lf) w) {res : Bool} (hF : slices_ContainsFunc_Lcrew_Refusal_crew_Refusal N s_ f_ f__1 = some res) : Calls Tryz.prog 164 #[.slice s__p s_.length s__c,.func (.func 165) #[] #[pq b_,pq b__1]] w (fun e w => e = .returned (.bool res) ∧ Ctx G (.box b_ [i6 f_] 3::.box b__1 [i6 f__1] 3::Lf) w) := by
 unfold slices_ContainsFunc_Lcrew_Refusal_crew_Refusal at hF
 refine fnIn Tryz.func164 rfl Tryz.ntmps164 rfl fun a hf => zS fun K h => sp 1 hf rfl fun a hf => zT h ?_
 refine zS fun K h => sp 2 hf rfl fun a hf => ?_
 obtain ⟨r,hr,hF⟩ := bnd_some hF
 refine zQ (v := i6 r) hf hc en_188 rfl (fun w hc => (slices_IndexFunc_Lcrew_Refusal_crew_Refusal_ok s_ f_ f__1 h_s_ ((hc.pick k1).pick k1) hr).mono fun e w h => ⟨h.1,((h.2.unpick k1).unpick k1)⟩) fun a w hf hc => sp 2 hf rfl fun a hf => zT h ?_
 refine wp_ret ?_
 obtain rfl := sj hF
 exact zO1 Tryz.results164 hf rfl ⟨rfl,hc⟩

def crew_work_settle_1_j21 (N : Nat) (x_0 : Int) (q_1 : Int) : Option (Step (Int × Int) (Rs ((List crew_Refusal) × (List Int) × (List (Option (List (Int × Bool))))))) :=
 some (.cont (q_1,W (x_0 + 1)))
def crew_work_settle_1_b14 (N : Nat) (p_ : Int) (x : crew_work) (b__7 : List (Option (List (Int × Bool)))) (xv : Int) (mm : List (Int × Bool)) (q : Int) (x_0 : Int) : Option (Step (Int × Int) (Rs ((List crew_Refusal) × (List Int) × (List (Option (List (Int × Bool))))))) :=
 cond (decide (x_0 < ((x.Roster.People.length : Nat) : Int)))
 (Option.bind (Option.bind (getI (b__7.set xv.toNat (some (setA mm p_ true))) xv) fun e_7 =>
 Option.bind (e_7) fun mm_3 =>
 cond ((lkA mm_3 x_0).getD false)
 (Option.bind (inR xv 12) fun un_1 =>
 Option.bind (inR x_0 12) fun un_2 =>
 Option.bind (inR q 12) fun un_3 =>
 some (decide ((x.rank (xv * 12 + q).toNat) < (x.rank (xv * 12 + x_0).toNat))))
 (some false)) fun rg =>
 cond rg
 (crew_work_settle_1_j21 N x_0 x_0)
 (crew_work_settle_1_j21 N x_0 q))
 (some (.brk (q,x_0)))
def crew_work_settle_1_r3 (N : Nat) (rec_ : Int → crew_work → (List crew_Refusal) → (List Int) → (List (Option (List (Int × Bool)))) → Option ((List crew_Refusal) × (List Int) × (List (Option (List (Int × Bool)))))) (p_ : Int) (x : crew_work) (b__0 : List crew_Refusal) (b__6 : List Int) (b__7 : List (Option (List (Int × Bool)))) (xv : Int) : Option (Rs ((List crew_Refusal) × (List Int) × (List (Option (List (Int × Bool)))))) :=
 Option.bind (slices_ContainsFunc_Lcrew_Refusal_crew_Refusal N b__0 p_ xv) fun r_1 =>
 cond r_1
 (some (.go (b__0,b__6,b__7)))
 (Option.bind (getI b__6 p_) fun e_1 =>
 Option.bind (getI b__7 xv) fun e_2 =>
 Option.bind (e_2) fun mm =>
 Option.bind (getI (b__7.set xv.toNat (some (setA mm p_ true))) xv) fun e_3 =>
 Option.bind (e_3) fun mm_1 =>
 Option.bind (getI x.Roster.Stations xv) fun e_4 =>
 cond (decide (((mm_1.length : Nat) : Int) ≤ e_4.Places))
 (some (.ret (b__0,(b__6.set p_.toNat xv),(b__7.set xv.toNat (some (setA mm p_ true))))))
 (Option.bind (loopO (fun s14 => crew_work_settle_1_b14 N p_ x b__7 xv mm s14.1 s14.2) N (p_,0)) fun x14 =>
 exK x14 (fun s14 => Option.bind (getI (b__7.set xv.toNat (some (setA mm p_ true))) xv) fun e_5 =>
 Option.bind (e_5) fun mm_2 =>
 Option.bind (getI (b__6.set p_.toNat xv) s14.1) fun e_6 =>
 Option.bind (room ((b__0 ++ [(⟨s14.1,xv⟩ : crew_Refusal)])).length) fun un =>
 Option.bind (rec_ s14.1 (⟨x.Roster,x.rank⟩ : crew_work) (b__0 ++ [(⟨s14.1,xv⟩ : crew_Refusal)]) ((b__6.set p_.toNat xv).set s14.1.toNat (-1)) ((b__7.set xv.toNat (some (setA mm p_ true))).set xv.toNat (some (delA mm_2 s14.1)))) fun r_2 =>
 some (.ret (r_2.1,r_2.2.1,r_2.2.2))) some))
def crew_work_settle_1 : Nat → Int → crew_work → (List crew_Refusal) → (List Int) → (List (Option (List (Int × Bool)))) → Option ((List crew_Refusal) × (List Int) × (List (Option (List (Int × Bool)))))
| 0,_,_,_,_,_ => none
| N + 1,p_,x,x_1,x_2,x_3 =>
 Option.bind (crew_work_better N (⟨x.Roster,x.rank⟩ : crew_work) p_ (-1)) fun r =>
 Option.bind (crew_work_better_1 N (⟨x.Roster,x.rank⟩ : crew_work) r.1 r.2 (rY (fun (zz : (List crew_Refusal) × (List Int) × (List (Option (List (Int × Bool))))) (ix_ : Int) => crew_work_settle_1_r3 N (crew_work_settle_1 N) p_ x zz.1 zz.2.1 zz.2.2 ix_)) (.go (x_1,x_2,x_3))) fun x3 =>
 rsK x3 (fun zz3 => some (zz3.1,zz3.2.1,zz3.2.2)) (fun zz3 => some (zz3.1,zz3.2.1,zz3.2.2))
theorem crew_work_settle_1_ok {N : Nat} : ∀ {G : Pers} {Lf : List Ent} {w : World} (p_ : Int) (x : crew_work) (x_1 : List crew_Refusal) (x_2 : List Int) (x_3 : List (Option (List (Int × Bool)))) {b_ : Nat} {b__1 : Nat} {x_Roster_People_p : Option Addr} {x_Roster_People_c : Nat} {x_Roster_Stations_p : Option Addr} {x_Roster_Stations_c : Nat} {b__2 : Nat} {x_1_p : Option Addr} {x_1_c : Nat} {b__3 : Nat} {x_2_p : Option Addr} {x_2_c : Nat} {b__4 : Nat} {x_3_p : Option Addr} {tcq_x_3 : TabH} {b__5 : Nat} (h_x_Roster_People : RdT kd_25 G 1 x_Roster_People_p x_Roster_People_c x.Roster.People) (h_x_Roster_Stations : RdT kd_101 G 2 x_Roster_Stations_p x_Roster_Stations_c x.Roster.Stations) (h_x_pc : PC G b__1 0 (catc [.slice x_Roster_People_p x.Roster.People.length x_Roster_People_c,.slice x_Roster_Stations_p x.Roster.Stations.length x_Roster_Stations_c] 144 encI_i64 x.rank [])) (hc : Ctx G (.box b_ [pq b__1] 166::.box b__2 [.slice x_1_p x_1.length x_1_c] 99::.row x_1_p x_1_c (x_1.map enc_crew_Refusal) 86 2::.box b__3 [.slice x_2_p x_2.length x_2_c] 25::.row x_2_p x_2_c (x_2.map encI_i64) 3 1::.box b__4 [.slice x_3_p x_3.length tcq_x_3.1] 222::.row x_3_p tcq_x_3.1 ((tabR tcq_x_3.2 x_3).map (Kd.v kd_223)) 223 1::tabI kd_223 (tabR tcq_x_3.2 x_3)::.box b__5 [.func (.func 163) #[] #[pq b_,pq b__2,pq b__3,pq b__4,pq b__5]] 213::Lf) w) {res : (List crew_Refusal) × (List Int) × (List (Option (List (Int × Bool))))} (hF : crew_work_settle_1 N p_ x x_1 x_2 x_3 = some res),Calls Tryz.prog 163 #[i6 p_,pq b_,pq b__2,pq b__3,pq b__4,pq b__5] w (fun e w => ∃ (p'1 : Option Addr) (c'1 : Nat) (p'2 : Option Addr) (c'2 : Nat) (p'3 : Option Addr) (tcq'1 : TabH),e = .returned (.tuple #[]) ∧ Ctx G (.row p'1 c'1 (res.1.map enc_crew_Refusal) 86 2::.row p'2 c'2 (res.2.1.map encI_i64) 3 1::.row p'3 tcq'1.1 ((tabR tcq'1.2 res.2.2).map (Kd.v kd_223)) 223 1::tabI kd_223 (tabR tcq'1.2 res.2.2)::.box b_ [pq b__1] 166::.box b__2 [.slice p'1 res.1.length c'1] 99::.box b__3 [.slice p'2 res.2.1.length c'2] 25::.box b__4 [.slice p'3 res.2.2.length tcq'1.1] 222::.box b__5 [.func (.func 163) #[] #[pq b_,pq b__2,pq b__3,pq b__4,pq b__5]] 213::Lf) w) := by
 induction N with
 | zero =>
  intro G Lf w p_ x x_1 x_2 x_3 b_ b__1 x_Roster_People_p x_Roster_People_c x_Roster_Stations_p x_Roster_Stations_c b__2 x_1_p x_1_c b__3 x_2_p x_2_c b__4 x_3_p tcq_x_3 b__5 h_x_Roster_People h_x_Roster_Stations h_x_pc hc res hF
  exact noneO hF
 | succ N ih =>
 intro G Lf w p_ x x_1 x_2 x_3 b_ b__1 x_Roster_People_p x_Roster_People_c x_Roster_Stations_p x_Roster_Stations_c b__2 x_1_p x_1_c b__3 x_2_p x_2_c b__4 x_3_p tcq_x_3 b__5 h_x_Roster_People h_x_Roster_Stations h_x_pc hc res hF
 rw [crew_work_settle_1] at hF
 refine fnInM Tryz.func163 rfl Tryz.ntmps163 rfl fun a hf => zS fun K h => zB hf hc rfl fun b_1 a w hf hc => zT h ?_
 refine zS fun K h => zL hf hc sc_166 m1 rfl fun a w hf hc => zL hf hc sc_3 m0 rfl fun a w hf hc => ?_
 obtain ⟨r,hr,hF⟩ := bnd_some hF
 refine zC hf en_111 rfl (crew_work_better_ok (⟨x.Roster,x.rank⟩ : crew_work) p_ (-1) h_x_Roster_People h_x_Roster_Stations h_x_pc hc hr) ?_
 rintro _ w ⟨b_2,b_3,b_4,rfl,hc⟩
 refine ⟨_,rfl,fun a hf => ?_⟩
 refine zT h ?_
 obtain ⟨x3,hx3,hF⟩ := bnd_some hF
 refine cRange (C := [.box b_2 [pq b__1] 166,.box b_3 [i6 r.1] 3,.box b_4 [i6 r.2] 3]) (C2 := [.box b_2 [pq b__1] 166,.box b_3 [i6 r.1] 3,.box b_4 [i6 r.2] 3]) (L0 := [.box b_1 [i6 p_] 3,.box b_ [pq b__1] 166,.box b__2 [.slice x_1_p x_1.length x_1_c] 99,.row x_1_p x_1_c (x_1.map enc_crew_Refusal) 86 2,.box b__3 [.slice x_2_p x_2.length x_2_c] 25,.row x_2_p x_2_c (x_2.map encI_i64) 3 1,.box b__4 [.slice x_3_p x_3.length tcq_x_3.1] 222,.row x_3_p tcq_x_3.1 ((tabR tcq_x_3.2 x_3).map (Kd.v kd_223)) 223 1,tabI kd_223 (tabR tcq_x_3.2 x_3),.box b__5 [.func (.func 163) #[] #[pq b_,pq b__2,pq b__3,pq b__4,pq b__5]] 213]) (Lf := Lf) (encs := fun x : Int => [i6 x]) (fun (zz : (List crew_Refusal) × (List Int) × (List (Option (List (Int × Bool))))) L => ∃ (p_1 : Option Addr) (c_1 : Nat) (p_2 : Option Addr) (c_2 : Nat) (p_3 : Option Addr) (tcq : TabH),L = [.box b_1 [i6 p_] 3,.box b_ [pq b__1] 166,.box b__2 [.slice p_1 zz.1.length c_1] 99,.row p_1 c_1 (zz.1.map enc_crew_Refusal) 86 2,.box b__3 [.slice p_2 zz.2.1.length c_2] 25,.row p_2 c_2 (zz.2.1.map encI_i64) 3 1,.box b__4 [.slice p_3 zz.2.2.length tcq.1] 222,.row p_3 tcq.1 ((tabR tcq.2 zz.2.2).map (Kd.v kd_223)) 223 1,tabI kd_223 (tabR tcq.2 zz.2.2),.box b__5 [.func (.func 163) #[] #[pq b_,pq b__2,pq b__3,pq b__4,pq b__5]] 213]) (fun (zz : (List crew_Refusal) × (List Int) × (List (Option (List (Int × Bool))))) (ix_ : Int) => crew_work_settle_1_r3 N (crew_work_settle_1 N) p_ x zz.1 zz.2.1 zz.2.2 ix_) (x_1,x_2,x_3) x3 hf hc rfl en_167 (fun _ => rfl) rfl ⟨x_1_p,x_1_c,x_2_p,x_2_c,x_3_p,tcq_x_3,rfl⟩ ?_ ?_ ?_ ?_
 ·intro lq mq J L Lx w hy hJ hc
  exact crew_work_better_1_ok (⟨x.Roster,x.rank⟩ : crew_work) r.1 r.2 h_x_Roster_People h_x_Roster_Stations h_x_pc J _ hy _ hJ hc hx3
 ·clear hF hf hc
  rintro lq mq ⟨b__0,b__6,b__7⟩ xv oq _ Lr Lb a w hK0 ⟨p_1,c_1,p_2,c_2,p_3,tcq,rfl⟩ hF hf hc hK
  replace hf : Has 95 a [(1,pq b_),(2,pq b__2),(3,pq b__3),(4,pq b__4),(5,pq b__5),(6,pq b_1),(13,i6 xv)] := hf.kp rfl
  replace hc : Ctx G (.box b_1 [i6 p_] 3::.box b_ [pq b__1] 166::.box b__2 [.slice p_1 b__0.length c_1] 99::.row p_1 c_1 (b__0.map enc_crew_Refusal) 86 2::.box b__3 [.slice p_2 b__6.length c_2] 25::.row p_2 c_2 (b__6.map encI_i64) 3 1::.box b__4 [.slice p_3 b__7.length tcq.1] 222::.row p_3 tcq.1 ((tabR tcq.2 b__7).map (Kd.v kd_223)) 223 1::tabI kd_223 (tabR tcq.2 b__7)::.box b__5 [.func (.func 163) #[] #[pq b_,pq b__2,pq b__3,pq b__4,pq b__5]] 213::Lr) w := hc
  replace hF : crew_work_settle_1_r3 N (crew_work_settle_1 N) p_ x b__0 b__6 b__7 xv = some oq := hF
  unfold crew_work_settle_1_r3 at hF
  refine rReg (fun _ _ h => h) rfl ?_
  refine zA hf hc zr_3 rfl fun b_5 a w hf hc => zW hf hc sz_3 u0 rfl fun w hc => cNil ?_
  refine hK _ _ [.box b_5 [i6 xv] 3,.box b_1 [i6 p_] 3,.box b_ [pq b__1] 166,.box b__2 [.slice p_1 b__0.length c_1] 99,.row p_1 c_1 (b__0.map enc_crew_Refusal) 86 2,.box b__3 [.slice p_2 b__6.length c_2] 25,.row p_2 c_2 (b__6.map encI_i64) 3 1,.box b__4 [.slice p_3 b__7.length tcq.1] 222,.row p_3 tcq.1 ((tabR tcq.2 b__7).map (Kd.v kd_223)) 223 1,tabI kd_223 (tabR tcq.2 b__7),.box b__5 [.func (.func 163) #[] #[pq b_,pq b__2,pq b__3,pq b__4,pq b__5]] 213] hc fun w hc => ?_
  replace hc : Ctx G (.box b_5 [i6 xv] 3::.box b_1 [i6 p_] 3::.box b_ [pq b__1] 166::.box b__2 [.slice p_1 b__0.length c_1] 99::.row p_1 c_1 (b__0.map enc_crew_Refusal) 86 2::.box b__3 [.slice p_2 b__6.length c_2] 25::.row p_2 c_2 (b__6.map encI_i64) 3 1::.box b__4 [.slice p_3 b__7.length tcq.1] 222::.row p_3 tcq.1 ((tabR tcq.2 b__7).map (Kd.v kd_223)) 223 1::tabI kd_223 (tabR tcq.2 b__7)::.box b__5 [.func (.func 163) #[] #[pq b_,pq b__2,pq b__3,pq b__4,pq b__5]] 213::Lb) w := hc
  refine rThenK fun K4 h4 => rBlock ?_
  refine rSeq fun K5 h5 => rSeq fun K6 h6 => rReg (fun _ _ h => h) rfl ?_
  refine zL hf hc sc_99 m3 rfl fun a w hf hc => zP hf rfl (pMF (us := [pq b_1,pq b_5]) rfl rfl) fun a hf => ?_
  obtain ⟨r_1,hr_1,hF⟩ := bnd_some hF
  refine zQ (v := .bool r_1) hf hc en_164 rfl (fun w hc => by obtain ⟨G1,hle1,hrd1,hc,hth1⟩ := lend hc k4; exact (slices_ContainsFunc_Lcrew_Refusal_crew_Refusal_ok b__0 p_ xv hrd1 ((hc.pick k0).pick k1) hr_1).mono fun e w h => ⟨h.1,((hth1 _ _ ((h.2.unpick k1).unpick k0)).unpick k4)⟩) fun a w hf hc => cNil ?_
  refine h6 _ _ ?_
  refine rCond (b := r_1) hf rfl (fun hb => ?_) (fun hb => ?_)
  ·replace hF := condT hb hF
   clear hb
   refine rExit ?_
   refine xThen ?_
   refine cHit ?_
   refine h4 _ _ ?_
   replace hc := hc.drop k0
   exact ⟨(b__0,b__6,b__7),_,(sj hF).symm,⟨p_1,c_1,p_2,c_2,p_3,tcq,rfl⟩,hc⟩
  ·replace hF := condF hb hF
   clear hb
   refine rSkip ?_
   refine h5 _ _ ?_
   refine rSeq fun K7 h7 => rReg (fun _ _ h => h) rfl ?_
   refine zL hf hc sc_25 m5 rfl fun a w hf hc => zL hf hc sc_3 m1 rfl fun a w hf hc => zL hf hc sc_3 m0 rfl fun a w hf hc => ?_
   obtain ⟨e_1,he_1,hF⟩ := bnd_some hF
   obtain ⟨g,rfl,qa,qr⟩ := row_atm hc m6 he_1
   refine zP hf rfl (pIA Tryz.underlying25 sz_3 rfl rfl qa) fun a hf => stRw (vs := [i6 xv]) (o' := 0) (z := xv) (xs := b__6) hf hc rfl rfl rfl rfl sz_3 rfl (fun x => (one_encI_i64 x).1) (getI_lt he_1) (fun _ _ => rfl) rfl u6 fun w hc => cNil ?_
   refine h7 _ _ ?_
   refine rSeq fun K8 h8 => ?_
   obtain ⟨e_2,he_2,hF⟩ := bnd_some hF
   obtain ⟨g_1,rfl,qa_1,qr_1⟩ := row_atm hc m8 (tabR_getI he_2)
   obtain ⟨mm,hmm,hF⟩ := bnd_some hF
   refine rRegE (fun _ _ h => h) rfl (fun θ => [⟨none,none,1,pq b_⟩,⟨none,none,2,pq b__2⟩,⟨none,none,3,pq b__3⟩,⟨none,none,4,pq b__4⟩,⟨none,none,5,pq b__5⟩,⟨none,none,6,pq b_1⟩,⟨none,none,7,pq b_5⟩,⟨some 0,none,21,.slice (some ⟨g_1,0,none⟩) b__7.length tcq.1⟩,⟨some 1,none,22,i6 xv⟩,⟨some 2,none,23,.pointer (some ⟨g_1,xv.toNat * 1,none⟩)⟩,⟨some 3,none,24,.map (some ((tcq.2 xv.toNat).2))⟩,⟨some 4,none,25,i6 p_⟩]) (fun E θ => .box b_5 [i6 xv] 3::.box b_1 [i6 p_] 3::.box b_ [pq b__1] 166::.box b__2 [.slice p_1 b__0.length c_1] 99::.row p_1 c_1 (b__0.map enc_crew_Refusal) 86 2::.box b__3 [.slice (some ⟨g,0,none⟩) b__6.length c_2] 25::.row (some ⟨g,0,none⟩) c_2 ((b__6.set p_.toNat xv).map encI_i64) 3 1::.box b__4 [.slice (some ⟨g_1,0,none⟩) b__7.length tcq.1] 222::(bif E 5 then .row (some ⟨g_1,0,none⟩) tcq.1 ((tabR tcq.2 (b__7.set xv.toNat (some (setA mm p_ true)))).map (Kd.v kd_223)) 223 1 else .row (some ⟨g_1,0,none⟩) tcq.1 ((tabR tcq.2 b__7).map (Kd.v kd_223)) 223 1)::(bif E 5 then tabI kd_223 (tabR tcq.2 (b__7.set xv.toNat (some (setA mm p_ true)))) else tabI kd_223 (tabR tcq.2 b__7))::.box b__5 [.func (.func 163) #[] #[pq b_,pq b__2,pq b__3,pq b__4,pq b__5]] 213::Lb) [(5,2),(5,3)] (fun a w => Has 95 a [(1,pq b_),(2,pq b__2),(3,pq b__3),(4,pq b__4),(5,pq b__5),(6,pq b_1),(7,pq b_5)] ∧ Ctx G (.box b_5 [i6 xv] 3::.box b_1 [i6 p_] 3::.box b_ [pq b__1] 166::.box b__2 [.slice p_1 b__0.length c_1] 99::.row p_1 c_1 (b__0.map enc_crew_Refusal) 86 2::.box b__3 [.slice (some ⟨g,0,none⟩) b__6.length c_2] 25::.row (some ⟨g,0,none⟩) c_2 ((b__6.set p_.toNat xv).map encI_i64) 3 1::.box b__4 [.slice (some ⟨g_1,0,none⟩) b__7.length tcq.1] 222::.row (some ⟨g_1,0,none⟩) tcq.1 ((tabR tcq.2 (b__7.set xv.toNat (some (setA mm p_ true)))).map (Kd.v kd_223)) 223 1::tabI kd_223 (tabR tcq.2 (b__7.set xv.toNat (some (setA mm p_ true))))::.box b__5 [.func (.func 163) #[] #[pq b_,pq b__2,pq b__3,pq b__4,pq b__5]] 213::Lb) w) follows_mx (by kernel_rfl) (by kernel_rfl) (HasE.of hf ⟨rfl,rfl,rfl,rfl,rfl,rfl,rfl,trivial,trivial,trivial,trivial,trivial,trivial⟩) hc ⟨?_,?_,?_,?_,?_,?_,trivial⟩ ?_ ?_
   ·intro E θ a w hD hi hp he hc
    have hf := he.h0.mT he 3 rfl
    refine zL hf hc sc_222 m7 rfl fun a w hf hc => zD θ he hi hf 7 rfl rfl rfl hc
   ·intro E θ a w hD hi hp he hc
    have hf := he.h0.mT he 6 rfl
    refine zL hf hc sc_3 m0 rfl fun a w hf hc => zD θ he hi hf 8 rfl rfl rfl hc
   ·intro E θ a w hD hi hp he hc
    have e0 := hp.o 0 rfl
    have e1 := hp.o 1 rfl
    have e5 := hD.f 0 rfl hi
    try dsimp only at hc
    rw [e5] at hc
    have hf := (he.h0.mP he 7 rfl e0).mP he 8 rfl e1
    refine zP hf rfl (pIA Tryz.underlying222 sz_223 rfl rfl (At.len qa_1 (by simp only [tabR_len,List.length_set]))) fun a hf => zD θ he hi hf 9 rfl rfl rfl ?_
    try dsimp only
    rw [updE_fls 2 e5 rfl]
    exact hc
   ·intro E θ a w hD hi hp he hc
    have e2 := hp.o 2 rfl
    have e5 := hD.f 1 rfl hi
    try dsimp only at hc
    rw [e5] at hc
    have hf := he.h0.mP he 9 rfl e2
    refine zE hf hc rfl (eLd1 sc_223 rfl (cell_row (sz := 1) (i := xv.toNat) (j := 0) m8 qr_1 (by subst hmm; rfl))) fun a w hf hc => zD θ he hi hf 10 rfl rfl rfl ?_
    try dsimp only
    rw [updE_fls 3 e5 rfl]
    exact hc
   ·intro E θ a w hD hi hp he hc
    have hf := he.h0.mT he 5 rfl
    refine zL hf hc sc_3 m1 rfl fun a w hf hc => zD θ he hi hf 11 rfl rfl rfl hc
   ·intro E θ a w hD hi hp he hc
    have e3 := hp.o 3 rfl
    have e4 := hp.o 4 rfl
    try dsimp only at hc
    rw [hi] at hc
    have hf := (he.h0.mP he 10 rfl e3).mP he 11 rfl e4
    replace hc := tab_out (hc.pick k9) (getM_getI (getM_of he_2 hmm))
    replace hc : Ctx G (.gm ((tcq.2 xv.toNat).2) (ALq Value.bool mm)::tabI kd_223 ((tabR tcq.2 b__7).eraseIdx xv.toNat)::.box b_5 [i6 xv] 3::.box b_1 [i6 p_] 3::.box b_ [pq b__1] 166::.box b__2 [.slice p_1 b__0.length c_1] 99::.row p_1 c_1 (b__0.map enc_crew_Refusal) 86 2::.box b__3 [.slice (some ⟨g,0,none⟩) b__6.length c_2] 25::.row (some ⟨g,0,none⟩) c_2 ((b__6.set p_.toNat xv).map encI_i64) 3 1::.box b__4 [.slice (some ⟨g_1,0,none⟩) b__7.length tcq.1] 222::.row (some ⟨g_1,0,none⟩) tcq.1 ((tabR tcq.2 b__7).map (Kd.v kd_223)) 223 1::.box b__5 [.func (.func 163) #[] #[pq b_,pq b__2,pq b__3,pq b__4,pq b__5]] 213::Lb) w := hc
    refine stAU (enc := Value.bool) (kvs := mm) (k := p_) (v := true) hf hc rfl Tryz.underlying223 Tryz.underlying3 rfl rfl rfl u0 fun w hc => ?_
    replace hc := ((((((((((hc.pick k9).pick k9).pick k9).pick k9).pick k9).pick k9).pick k9).pick k9).pick k9).pick k10).pick k10
    replace hc := tab_same (K := kd_223) (y := some (setA mm p_ true)) (getM_getI (getM_of he_2 hmm)) rfl hc
    replace hc : Ctx G (.row (some ⟨g_1,0,none⟩) tcq.1 ((tabR tcq.2 (b__7.set xv.toNat (some (setA mm p_ true)))).map (Kd.v kd_223)) 223 1::tabI kd_223 (tabR tcq.2 (b__7.set xv.toNat (some (setA mm p_ true))))::.box b_5 [i6 xv] 3::.box b_1 [i6 p_] 3::.box b_ [pq b__1] 166::.box b__2 [.slice p_1 b__0.length c_1] 99::.row p_1 c_1 (b__0.map enc_crew_Refusal) 86 2::.box b__3 [.slice (some ⟨g,0,none⟩) b__6.length c_2] 25::.row (some ⟨g,0,none⟩) c_2 ((b__6.set p_.toNat xv).map encI_i64) 3 1::.box b__4 [.slice (some ⟨g_1,0,none⟩) b__7.length tcq.1] 222::.box b__5 [.func (.func 163) #[] #[pq b_,pq b__2,pq b__3,pq b__4,pq b__5]] 213::Lb) w := hc
    replace hc := (((((((((hc.pick k1).pick k1).pick k9).pick k9).pick k9).pick k9).pick k9).pick k9).pick k9).pick k9
    refine zG θ he hi hf rfl ?_
    try dsimp only
    rw [updE_self E 5]
    exact hc
   ·intro E θ a w hall he hc
    have hf := he.h0
    have e5 := hall 5 rfl
    replace hf := hf.more he 6 rfl (onT)
    replace hf := hf.more he 5 rfl (onT)
    replace hf := hf.more he 4 rfl (onT)
    replace hf := hf.more he 3 rfl (onT)
    replace hf := hf.more he 2 rfl (onT)
    replace hf := hf.more he 1 rfl (onT)
    replace hf := hf.more he 0 rfl (onT)
    try dsimp only at hc
    rw [e5] at hc
    exact ⟨hf.kp rfl,hc⟩
   rintro a w ⟨hf,hc⟩
   refine h8 _ _ ?_
   refine rSeq fun K9 h9 => rSeq fun K10 h10 => ?_
   obtain ⟨e_3,he_3,hF⟩ := bnd_some hF
   obtain ⟨qa_2,qr_2⟩ := row_atk hc m8 (tabR_getI he_3)
   obtain ⟨mm_1,hmm_1,hF⟩ := bnd_some hF
   obtain ⟨e_4,he_4,hF⟩ := bnd_some hF
   obtain ⟨b_6,o,hd,qa_3,qp,qr_3⟩ := h_x_Roster_Stations.atm he_4
   refine rRegE (fun _ _ h => h) rfl (fun θ => [⟨none,none,1,pq b_⟩,⟨none,none,2,pq b__2⟩,⟨none,none,3,pq b__3⟩,⟨none,none,4,pq b__4⟩,⟨none,none,5,pq b__5⟩,⟨none,none,6,pq b_1⟩,⟨none,none,7,pq b_5⟩,⟨some 0,none,26,.slice (some ⟨g_1,0,none⟩) b__7.length tcq.1⟩,⟨some 1,none,27,i6 xv⟩,⟨some 2,none,28,.pointer (some ⟨g_1,xv.toNat * 1,none⟩)⟩,⟨some 3,none,29,.map (some ((tcq.2 xv.toNat).2))⟩,⟨some 4,none,30,i6 ((mm_1.length : Nat) : Int)⟩,⟨some 5,none,31,pq b__1⟩,⟨some 6,none,32,pq b__1⟩,⟨some 7,none,33,.pointer (some ⟨b__1,0 + 0,none⟩)⟩,⟨some 8,none,34,.pointer (some ⟨b__1,0 + 0 + 1,none⟩)⟩,⟨some 9,none,35,.slice x_Roster_Stations_p x.Roster.Stations.length x_Roster_Stations_c⟩,⟨some 10,none,36,i6 xv⟩,⟨some 11,none,37,.pointer (some ⟨b_6,o,none⟩)⟩,⟨some 12,none,38,.pointer (some ⟨b_6,o + 0,none⟩)⟩,⟨some 13,none,39,i6 e_4.Places⟩,⟨some 14,none,40,.bool (decide (((mm_1.length : Nat) : Int) ≤ e_4.Places))⟩]) (fun E θ => .box b_5 [i6 xv] 3::.box b_1 [i6 p_] 3::.box b_ [pq b__1] 166::.box b__2 [.slice p_1 b__0.length c_1] 99::.row p_1 c_1 (b__0.map enc_crew_Refusal) 86 2::.box b__3 [.slice (some ⟨g,0,none⟩) b__6.length c_2] 25::.row (some ⟨g,0,none⟩) c_2 ((b__6.set p_.toNat xv).map encI_i64) 3 1::.box b__4 [.slice (some ⟨g_1,0,none⟩) b__7.length tcq.1] 222::.row (some ⟨g_1,0,none⟩) tcq.1 ((tabR tcq.2 (b__7.set xv.toNat (some (setA mm p_ true)))).map (Kd.v kd_223)) 223 1::tabI kd_223 (tabR tcq.2 (b__7.set xv.toNat (some (setA mm p_ true))))::.box b__5 [.func (.func 163) #[] #[pq b_,pq b__2,pq b__3,pq b__4,pq b__5]] 213::Lb) [] (fun a w => Has 95 a [(1,pq b_),(2,pq b__2),(3,pq b__3),(4,pq b__4),(5,pq b__5),(6,pq b_1),(7,pq b_5),(40,.bool (decide (((mm_1.length : Nat) : Int) ≤ e_4.Places)))] ∧ Ctx G (.box b_5 [i6 xv] 3::.box b_1 [i6 p_] 3::.box b_ [pq b__1] 166::.box b__2 [.slice p_1 b__0.length c_1] 99::.row p_1 c_1 (b__0.map enc_crew_Refusal) 86 2::.box b__3 [.slice (some ⟨g,0,none⟩) b__6.length c_2] 25::.row (some ⟨g,0,none⟩) c_2 ((b__6.set p_.toNat xv).map encI_i64) 3 1::.box b__4 [.slice (some ⟨g_1,0,none⟩) b__7.length tcq.1] 222::.row (some ⟨g_1,0,none⟩) tcq.1 ((tabR tcq.2 (b__7.set xv.toNat (some (setA mm p_ true)))).map (Kd.v kd_223)) 223 1::tabI kd_223 (tabR tcq.2 (b__7.set xv.toNat (some (setA mm p_ true))))::.box b__5 [.func (.func 163) #[] #[pq b_,pq b__2,pq b__3,pq b__4,pq b__5]] 213::Lb) w) follows_mx (by kernel_rfl) (by kernel_rfl) (HasE.of hf ⟨rfl,rfl,rfl,rfl,rfl,rfl,rfl,trivial,trivial,trivial,trivial,trivial,trivial,trivial,trivial,trivial,trivial,trivial,trivial,trivial,trivial,trivial,trivial⟩) hc ⟨?_,?_,?_,?_,?_,?_,?_,?_,?_,?_,?_,?_,?_,?_,?_,trivial⟩ ?_ ?_
   ·intro E θ a w hD hi hp he hc
    have hf := he.h0.mT he 3 rfl
    refine zL hf hc sc_222 m7 rfl fun a w hf hc => zD θ he hi hf 7 rfl rfl rfl hc
   ·intro E θ a w hD hi hp he hc
    have hf := he.h0.mT he 6 rfl
    refine zL hf hc sc_3 m0 rfl fun a w hf hc => zD θ he hi hf 8 rfl rfl rfl hc
   ·intro E θ a w hD hi hp he hc
    have e0 := hp.o 0 rfl
    have e1 := hp.o 1 rfl
    have hf := (he.h0.mP he 7 rfl e0).mP he 8 rfl e1
    refine zP hf rfl (pIA Tryz.underlying222 sz_223 rfl rfl (At.len qa_2 (by simp only [tabR_len,List.length_set]))) fun a hf => zD θ he hi hf 9 rfl rfl rfl hc
   ·intro E θ a w hD hi hp he hc
    have e2 := hp.o 2 rfl
    have hf := he.h0.mP he 9 rfl e2
    refine zE hf hc rfl (eLd1 sc_223 rfl (cell_row (sz := 1) (i := xv.toNat) (j := 0) m8 qr_2 (by subst hmm_1; rfl))) fun a w hf hc => zD θ he hi hf 10 rfl rfl rfl hc
   ·intro E θ a w hD hi hp he hc
    have e3 := hp.o 3 rfl
    have hf := he.h0.mP he 10 rfl e3
    refine zE hf hc rfl (eLenA (enc := Value.bool) (kvs := mm_1) (tabSm m9 (getM_of he_3 hmm_1)) Tryz.underlying223 rfl) fun a w hf hc => zD θ he hi hf 11 rfl rfl rfl hc
   ·intro E θ a w hD hi hp he hc
    have hf := he.h0.mT he 0 rfl
    refine zL hf hc sc_166 m2 rfl fun a w hf hc => zD θ he hi hf 12 rfl rfl rfl hc
   ·intro E θ a w hD hi hp he hc
    have e5 := hp.o 5 rfl
    have hf := he.h0.mP he 12 rfl e5
    refine sp 1 hf rfl fun a hf => zD θ he hi hf 13 rfl rfl rfl hc
   ·intro E θ a w hD hi hp he hc
    have e6 := hp.o 6 rfl
    have hf := he.h0.mP he 13 rfl e6
    refine zP hf rfl (pFA fa_181_0 rfl) fun a hf => zD θ he hi hf 14 rfl rfl rfl hc
   ·intro E θ a w hD hi hp he hc
    have e7 := hp.o 7 rfl
    have hf := he.h0.mP he 14 rfl e7
    refine zP hf rfl (pFA fa_78_1 rfl) fun a hf => zD θ he hi hf 15 rfl rfl rfl hc
   ·intro E θ a w hD hi hp he hc
    have e8 := hp.o 8 rfl
    have hf := he.h0.mP he 15 rfl e8
    refine zE hf hc rfl (eLd1 sc_76 rfl (cell_pc (j := 1) h_x_pc rfl)) fun a w hf hc => zD θ he hi hf 16 rfl rfl rfl hc
   ·intro E θ a w hD hi hp he hc
    have hf := he.h0.mT he 6 rfl
    refine zL hf hc sc_3 m0 rfl fun a w hf hc => zD θ he hi hf 17 rfl rfl rfl hc
   ·intro E θ a w hD hi hp he hc
    have e9 := hp.o 9 rfl
    have e10 := hp.o 10 rfl
    have hf := (he.h0.mP he 16 rfl e9).mP he 17 rfl e10
    refine zP hf rfl (pIA Tryz.underlying76 sz_101 rfl rfl qa_3) fun a hf => zD θ he hi hf 18 rfl rfl rfl hc
   ·intro E θ a w hD hi hp he hc
    have e11 := hp.o 11 rfl
    have hf := he.h0.mP he 18 rfl e11
    refine zP hf rfl (pFA fa_101_0 rfl) fun a hf => zD θ he hi hf 19 rfl rfl rfl hc
   ·intro E θ a w hD hi hp he hc
    have e12 := hp.o 12 rfl
    have hf := he.h0.mP he 19 rfl e12
    refine zE hf hc rfl (eLd1 sc_3 rfl (cell_pc (j := 0) qp rfl)) fun a w hf hc => zD θ he hi hf 20 rfl rfl rfl hc
   ·intro E θ a w hD hi hp he hc
    have e4 := hp.o 4 rfl
    have e13 := hp.o 13 rfl
    have hf := (he.h0.mP he 11 rfl e4).mP he 20 rfl e13
    refine sp 1 hf rfl fun a hf => zD θ he hi hf 21 rfl rfl rfl hc
   ·intro E θ a w hall he hc
    have hf := he.h0
    have e14 := hall 14 rfl
    replace hf := hf.more he 21 rfl (onP e14)
    replace hf := hf.more he 6 rfl (onT)
    replace hf := hf.more he 5 rfl (onT)
    replace hf := hf.more he 4 rfl (onT)
    replace hf := hf.more he 3 rfl (onT)
    replace hf := hf.more he 2 rfl (onT)
    replace hf := hf.more he 1 rfl (onT)
    replace hf := hf.more he 0 rfl (onT)
    exact ⟨hf.kp rfl,hc⟩
   rintro a w ⟨hf,hc⟩
   refine h10 _ _ ?_
   refine rCond (b := (decide (((mm_1.length : Nat) : Int) ≤ e_4.Places))) hf rfl (fun hb => ?_) (fun hb => ?_)
   ·replace hF := condT hb hF
    clear hb
    refine rRet ?_
    refine xThenR ?_
    refine xBlkR ?_
    refine xThenR ?_
    replace hc : Ctx G (.box b_5 [i6 xv] 3::.box b_1 [i6 p_] 3::.box b_ [pq b__1] 166::.box b__2 [.slice p_1 b__0.length c_1] 99::.row p_1 c_1 (b__0.map enc_crew_Refusal) 86 2::.box b__3 [.slice (some ⟨g,0,none⟩) ((b__6.set p_.toNat xv).length) c_2] 25::.row (some ⟨g,0,none⟩) c_2 ((b__6.set p_.toNat xv).map encI_i64) 3 1::.box b__4 [.slice (some ⟨g_1,0,none⟩) ((b__7.set xv.toNat (some (setA mm p_ true))).length) tcq.1] 222::.row (some ⟨g_1,0,none⟩) tcq.1 ((tabR tcq.2 (b__7.set xv.toNat (some (setA mm p_ true)))).map (Kd.v kd_223)) 223 1::tabI kd_223 (tabR tcq.2 (b__7.set xv.toNat (some (setA mm p_ true))))::.box b__5 [.func (.func 163) #[] #[pq b_,pq b__2,pq b__3,pq b__4,pq b__5]] 213::Lb) w := by simp only [List.length_set] at hc ⊢; exact hc
    replace hc := hc.drop k0
    exact ⟨(b__0,(b__6.set p_.toNat xv),(b__7.set xv.toNat (some (setA mm p_ true)))),_,(sj hF).symm,⟨p_1,c_1,(some ⟨g,0,none⟩),c_2,(some ⟨g_1,0,none⟩),tcq,rfl⟩,hc⟩
   ·replace hF := condF hb hF
    clear hb
    refine rSkip ?_
    refine h9 _ _ ?_
    refine rSeq fun K11 h11 => rReg (fun _ _ h => h) rfl ?_
    refine zL hf hc sc_3 m1 rfl fun a w hf hc => sp 1 hf rfl fun a hf => cNil ?_
    refine h11 _ _ ?_
    refine rSeq fun K12 h12 => rSeq fun K13 h13 => rReg (fun _ _ h => h) rfl ?_
    refine zL hf hc sc_166 m2 rfl fun a w hf hc => sp 1 hf rfl fun a hf => zP hf rfl (pFA fa_181_0 rfl) fun a hf => zP hf rfl (pFA fa_78_0 rfl) fun a hf => zE hf hc rfl (eLd1 sc_75 rfl (cell_pc (j := 0) h_x_pc rfl)) fun a w hf hc => zP hf rfl (pLenS Tryz.underlying75 rfl) fun a hf => sp 1 hf rfl fun a hf => cNil ?_
    refine h13 _ _ ?_
    refine rBlock ?_
    obtain ⟨x14,hx14,hF⟩ := bnd_some hF
    let S14 : (Int × Int) → Act → World → Prop := (fun (zz : Int × Int) a w => Has 95 a [(1,pq b_),(2,pq b__2),(3,pq b__3),(4,pq b__4),(5,pq b__5),(7,pq b_5),(8,i6 zz.1),(47,i6 ((x.Roster.People.length : Nat) : Int)),(48,i6 zz.2)] ∧ Ctx G (.box b_5 [i6 xv] 3::.box b_1 [i6 p_] 3::.box b_ [pq b__1] 166::.box b__2 [.slice p_1 b__0.length c_1] 99::.row p_1 c_1 (b__0.map enc_crew_Refusal) 86 2::.box b__3 [.slice (some ⟨g,0,none⟩) ((b__6.set p_.toNat xv).length) c_2] 25::.row (some ⟨g,0,none⟩) c_2 ((b__6.set p_.toNat xv).map encI_i64) 3 1::.box b__4 [.slice (some ⟨g_1,0,none⟩) ((b__7.set xv.toNat (some (setA mm p_ true))).length) tcq.1] 222::.row (some ⟨g_1,0,none⟩) tcq.1 ((tabR tcq.2 (b__7.set xv.toNat (some (setA mm p_ true)))).map (Kd.v kd_223)) 223 1::tabI kd_223 (tabR tcq.2 (b__7.set xv.toNat (some (setA mm p_ true))))::.box b__5 [.func (.func 163) #[] #[pq b_,pq b__2,pq b__3,pq b__4,pq b__5]] 213::Lb) w)
    have hr14 : ∀ (zz : Int × Int) a w,x14 = .go zz → S14 zz a w → K12 a w := by
     rintro ⟨q,x_0⟩ a w rfl ⟨hf,hc⟩
     replace hF := exK_go hF
     refine h12 _ _ ?_
     refine rSeq fun K15 h15 => rReg (fun _ _ h => h) rfl ?_
     refine zL hf hc sc_222 m7 rfl fun a w hf hc => zL hf hc sc_3 m0 rfl fun a w hf hc => ?_
     obtain ⟨e_5,he_5,hF⟩ := bnd_some hF
     obtain ⟨qa_4,qr_4⟩ := row_atk hc m8 (tabR_getI he_5)
     refine zP hf rfl (pIA Tryz.underlying222 sz_223 rfl rfl (At.len qa_4 (by simp only [tabR_len,List.length_set]))) fun a hf => ?_
     obtain ⟨mm_2,hmm_2,hF⟩ := bnd_some hF
     refine zE hf hc rfl (eLd1 sc_223 rfl (cell_row (sz := 1) (i := xv.toNat) (j := 0) m8 qr_4 (by subst hmm_2; rfl))) fun a w hf hc => sp 1 hf rfl fun a hf => ?_
     replace hc := tab_out (hc.pick k9) (getM_getI (getM_of he_5 hmm_2))
     replace hc : Ctx G (.gm ((tcq.2 xv.toNat).2) (ALq Value.bool mm_2)::tabI kd_223 ((tabR tcq.2 (b__7.set xv.toNat (some (setA mm p_ true)))).eraseIdx xv.toNat)::.box b_5 [i6 xv] 3::.box b_1 [i6 p_] 3::.box b_ [pq b__1] 166::.box b__2 [.slice p_1 b__0.length c_1] 99::.row p_1 c_1 (b__0.map enc_crew_Refusal) 86 2::.box b__3 [.slice (some ⟨g,0,none⟩) ((b__6.set p_.toNat xv).length) c_2] 25::.row (some ⟨g,0,none⟩) c_2 ((b__6.set p_.toNat xv).map encI_i64) 3 1::.box b__4 [.slice (some ⟨g_1,0,none⟩) ((b__7.set xv.toNat (some (setA mm p_ true))).length) tcq.1] 222::.row (some ⟨g_1,0,none⟩) tcq.1 ((tabR tcq.2 (b__7.set xv.toNat (some (setA mm p_ true)))).map (Kd.v kd_223)) 223 1::.box b__5 [.func (.func 163) #[] #[pq b_,pq b__2,pq b__3,pq b__4,pq b__5]] 213::Lb) w := hc
     refine stAD (enc := Value.bool) (kvs := mm_2) (k := q) hf hc rfl rfl Tryz.underlying223 Tryz.underlying3 rfl rfl u0 fun w hc => ?_
     replace hc := ((((((((((hc.pick k9).pick k9).pick k9).pick k9).pick k9).pick k9).pick k9).pick k9).pick k9).pick k10).pick k10
     replace hc := tab_same (K := kd_223) (y := some (delA mm_2 q)) (getM_getI (getM_of he_5 hmm_2)) rfl hc
     replace hc : Ctx G (.row (some ⟨g_1,0,none⟩) tcq.1 ((tabR tcq.2 ((b__7.set xv.toNat (some (setA mm p_ true))).set xv.toNat (some (delA mm_2 q)))).map (Kd.v kd_223)) 223 1::tabI kd_223 (tabR tcq.2 ((b__7.set xv.toNat (some (setA mm p_ true))).set xv.toNat (some (delA mm_2 q))))::.box b_5 [i6 xv] 3::.box b_1 [i6 p_] 3::.box b_ [pq b__1] 166::.box b__2 [.slice p_1 b__0.length c_1] 99::.row p_1 c_1 (b__0.map enc_crew_Refusal) 86 2::.box b__3 [.slice (some ⟨g,0,none⟩) ((b__6.set p_.toNat xv).length) c_2] 25::.row (some ⟨g,0,none⟩) c_2 ((b__6.set p_.toNat xv).map encI_i64) 3 1::.box b__4 [.slice (some ⟨g_1,0,none⟩) ((b__7.set xv.toNat (some (setA mm p_ true))).length) tcq.1] 222::.box b__5 [.func (.func 163) #[] #[pq b_,pq b__2,pq b__3,pq b__4,pq b__5]] 213::Lb) w := hc
     replace hc := (((((((((hc.pick k1).pick k1).pick k9).pick k9).pick k9).pick k9).pick k9).pick k9).pick k9).pick k9
     refine cNil ?_
     refine h15 _ _ ?_
     refine rSeq fun K16 h16 => rReg (fun _ _ h => h) rfl ?_
     refine zL hf hc sc_25 m5 rfl fun a w hf hc => sp 1 hf rfl fun a hf => ?_
     obtain ⟨e_6,he_6,hF⟩ := bnd_some hF
     obtain ⟨qa_5,qr_5⟩ := row_atk hc m6 he_6
     refine zP hf rfl (pIA Tryz.underlying25 sz_3 rfl rfl (At.len qa_5 (by simp only [List.length_set]))) fun a hf => stRw (vs := [i6 (-1)]) (o' := 0) (z := (-1)) (xs := (b__6.set p_.toNat xv)) hf hc rfl rfl rfl rfl sz_3 rfl (fun x => (one_encI_i64 x).1) (getI_lt he_6) (fun _ _ => rfl) rfl u6 fun w hc => cNil ?_
     refine h16 _ _ ?_
     refine rSeq fun K17 h17 => rReg (fun _ _ h => h) rfl ?_
     refine zL hf hc sc_99 m3 rfl fun a w hf hc => sp 1 hf rfl fun a hf => zL hf hc sc_3 m0 rfl fun a w hf hc => zP hf rfl (pBuildS (cells := [i6 q,i6 xv]) bt_86 rfl rfl) fun a hf => stBS (rows := ([(⟨q,xv⟩ : crew_Refusal)] : List crew_Refusal).map enc_crew_Refusal) (vs := [(0,.agg #[i6 q,i6 xv])]) hf hc rfl rfl sl_99 rfl ⟨rfl,rfl,rfl,trivial⟩ rfl rfl fun b_7 a w hf hc => ?_
     obtain ⟨un,hun,hF⟩ := bnd_some hF
     refine stApm (xs := b__0) (ys := ([(⟨q,xv⟩ : crew_Refusal)] : List crew_Refusal)) hf hc rfl rfl sl_99 rfl rfl rfl rfl rfl one_enc_crew_Refusal (src_row hc m0) (fun _ _ => u5) (by simpa using room_spec hun) fun p_4 c_3 a w hf hc => zW hf hc sz_99 u4 rfl fun w hc => cNil ?_
     refine h17 _ _ ?_
     refine rSeq fun K18 h18 => rReg (fun _ _ h => h) rfl ?_
     refine zL hf hc sc_213 m11 rfl fun a w hf hc => sp 1 hf rfl fun a hf => ?_
     replace hc : Ctx G (.row (some ⟨b_7,0,none⟩) 1 (([(⟨q,xv⟩ : crew_Refusal)] : List crew_Refusal).map enc_crew_Refusal) 86 2::.box b_5 [i6 xv] 3::.box b_1 [i6 p_] 3::.box b_ [pq b__1] 166::.box b__2 [.slice p_4 ((b__0 ++ [(⟨q,xv⟩ : crew_Refusal)]).length) c_3] 99::.row p_4 c_3 ((b__0 ++ [(⟨q,xv⟩ : crew_Refusal)]).map enc_crew_Refusal) 86 2::.box b__3 [.slice (some ⟨g,0,none⟩) (((b__6.set p_.toNat xv).set q.toNat (-1)).length) c_2] 25::.row (some ⟨g,0,none⟩) c_2 (((b__6.set p_.toNat xv).set q.toNat (-1)).map encI_i64) 3 1::.box b__4 [.slice (some ⟨g_1,0,none⟩) (((b__7.set xv.toNat (some (setA mm p_ true))).set xv.toNat (some (delA mm_2 q))).length) tcq.1] 222::.row (some ⟨g_1,0,none⟩) tcq.1 ((tabR tcq.2 ((b__7.set xv.toNat (some (setA mm p_ true))).set xv.toNat (some (delA mm_2 q)))).map (Kd.v kd_223)) 223 1::tabI kd_223 (tabR tcq.2 ((b__7.set xv.toNat (some (setA mm p_ true))).set xv.toNat (some (delA mm_2 q))))::.box b__5 [.func (.func 163) #[] #[pq b_,pq b__2,pq b__3,pq b__4,pq b__5]] 213::Lb) w := by simp only [List.length_set] at hc ⊢; exact hc
     obtain ⟨r_2,hr_2,hF⟩ := bnd_some hF
     refine zC hf en_163 rfl (by have hq := ih q (⟨x.Roster,x.rank⟩ : crew_work) (b__0 ++ [(⟨q,xv⟩ : crew_Refusal)]) ((b__6.set p_.toNat xv).set q.toNat (-1)) ((b__7.set xv.toNat (some (setA mm p_ true))).set xv.toNat (some (delA mm_2 q))) h_x_Roster_People h_x_Roster_Stations h_x_pc (((((((((hc.pick k11).pick k11).pick k11).pick k11).pick k11).pick k11).pick k11).pick k11).pick k11) hr_2; (try simp only [List.length_set] at hq); exact hq) ?_
     rintro _ w ⟨p_5,c_4,p_6,c_5,p_7,tcq_1,rfl,hc⟩
     refine ⟨_,rfl,fun a hf => ?_⟩
     refine cNil ?_
     refine h18 _ _ ?_
     refine rRet ?_
     refine xBlkR ?_
     refine xThenR ?_
     replace hc := (((((((((((hc.drop k10).drop k9).pick k8).pick k4).pick k4).pick k8).pick k5).pick k8).pick k6).pick k8).pick k8).pick k9
     exact ⟨(r_2.1,r_2.2.1,r_2.2.2),_,(sj hF).symm,⟨p_5,c_4,p_6,c_5,p_7,tcq_1,rfl⟩,hc⟩
    have ho14 : ∀ r,x14 = .out r → r = oq := by
     rintro r rfl
     exact sj hF
    replace hc : Ctx G (.box b_5 [i6 xv] 3::.box b_1 [i6 p_] 3::.box b_ [pq b__1] 166::.box b__2 [.slice p_1 b__0.length c_1] 99::.row p_1 c_1 (b__0.map enc_crew_Refusal) 86 2::.box b__3 [.slice (some ⟨g,0,none⟩) ((b__6.set p_.toNat xv).length) c_2] 25::.row (some ⟨g,0,none⟩) c_2 ((b__6.set p_.toNat xv).map encI_i64) 3 1::.box b__4 [.slice (some ⟨g_1,0,none⟩) ((b__7.set xv.toNat (some (setA mm p_ true))).length) tcq.1] 222::.row (some ⟨g_1,0,none⟩) tcq.1 ((tabR tcq.2 (b__7.set xv.toNat (some (setA mm p_ true)))).map (Kd.v kd_223)) 223 1::tabI kd_223 (tabR tcq.2 (b__7.set xv.toNat (some (setA mm p_ true))))::.box b__5 [.func (.func 163) #[] #[pq b_,pq b__2,pq b__3,pq b__4,pq b__5]] 213::Lb) w := by simp only [List.length_set] at hc ⊢; exact hc
    refine rLoop N (loopR (S := S14) (x := x14) ?_ N (p_,0) _ _ ⟨hf.kp rfl,hc⟩ hx14)
    clear hF hf hc
    rintro ⟨q,x_0⟩ st14 a w KB14 ⟨hf,hc⟩ hF hfin14 hK14
    unfold crew_work_settle_1_b14 at hF
    refine rSeq fun K19 h19 => rReg (fun _ _ h => h) rfl ?_
    refine sp 1 hf rfl fun a hf => cNil ?_
    refine h19 _ _ ?_
    refine rSeq fun K20 h20 => rCond (b := (decide (x_0 < ((x.Roster.People.length : Nat) : Int)))) hf rfl (fun hb => ?_) (fun hb => ?_)
    ·replace hF := condT hb hF
     clear hb
     refine rSkip ?_
     refine h20 _ _ ?_
     refine rSeq fun K21 h21 => ?_
     have hj21 : ∀ (q_1 : Int) a w,Has 95 a [(1,pq b_),(2,pq b__2),(3,pq b__3),(4,pq b__4),(5,pq b__5),(7,pq b_5),(8,i6 q_1),(47,i6 ((x.Roster.People.length : Nat) : Int)),(48,i6 x_0)] → Ctx G (.box b_5 [i6 xv] 3::.box b_1 [i6 p_] 3::.box b_ [pq b__1] 166::.box b__2 [.slice p_1 b__0.length c_1] 99::.row p_1 c_1 (b__0.map enc_crew_Refusal) 86 2::.box b__3 [.slice (some ⟨g,0,none⟩) ((b__6.set p_.toNat xv).length) c_2] 25::.row (some ⟨g,0,none⟩) c_2 ((b__6.set p_.toNat xv).map encI_i64) 3 1::.box b__4 [.slice (some ⟨g_1,0,none⟩) ((b__7.set xv.toNat (some (setA mm p_ true))).length) tcq.1] 222::.row (some ⟨g_1,0,none⟩) tcq.1 ((tabR tcq.2 (b__7.set xv.toNat (some (setA mm p_ true)))).map (Kd.v kd_223)) 223 1::tabI kd_223 (tabR tcq.2 (b__7.set xv.toNat (some (setA mm p_ true))))::.box b__5 [.func (.func 163) #[] #[pq b_,pq b__2,pq b__3,pq b__4,pq b__5]] 213::Lb) w → crew_work_settle_1_j21 N x_0 q_1 = some st14 → K21 a w := by
      repeat (clear hF)
      repeat (clear hc)
      repeat (clear hf)
      intro q_1 a w hf hc hF
      unfold crew_work_settle_1_j21 at hF
      refine h21 _ _ ?_
      refine rReg (fun _ _ h => h) rfl ?_
      refine sp 2 hf rfl fun a hf => cNil ?_
      exact hK14 (q_1,W (x_0 + 1)) _ _ (sj hF).symm ⟨hf.kp rfl,hc⟩
     refine rBlock ?_
     refine rSeq fun K22 h22 => rReg (fun _ _ h => h) rfl ?_
     refine sp 2 hf rfl fun a hf => cNil ?_
     refine h22 _ _ ?_
     refine rSeq fun K23 h23 => ?_
     obtain ⟨rg,hrg,hF⟩ := bnd_some hF
     refine rCut (fun a w => Has 95 a [(1,pq b_),(2,pq b__2),(3,pq b__3),(4,pq b__4),(5,pq b__5),(7,pq b_5),(8,i6 q),(9,i6 x_0),(47,i6 ((x.Roster.People.length : Nat) : Int)),(48,i6 x_0),(75,.bool rg)] ∧ Ctx G (.box b_5 [i6 xv] 3::.box b_1 [i6 p_] 3::.box b_ [pq b__1] 166::.box b__2 [.slice p_1 b__0.length c_1] 99::.row p_1 c_1 (b__0.map enc_crew_Refusal) 86 2::.box b__3 [.slice (some ⟨g,0,none⟩) ((b__6.set p_.toNat xv).length) c_2] 25::.row (some ⟨g,0,none⟩) c_2 ((b__6.set p_.toNat xv).map encI_i64) 3 1::.box b__4 [.slice (some ⟨g_1,0,none⟩) ((b__7.set xv.toNat (some (setA mm p_ true))).length) tcq.1] 222::.row (some ⟨g_1,0,none⟩) tcq.1 ((tabR tcq.2 (b__7.set xv.toNat (some (setA mm p_ true)))).map (Kd.v kd_223)) 223 1::tabI kd_223 (tabR tcq.2 (b__7.set xv.toNat (some (setA mm p_ true))))::.box b__5 [.func (.func 163) #[] #[pq b_,pq b__2,pq b__3,pq b__4,pq b__5]] 213::Lb) w) ?_ ?_
     ·clear hF
      have hF := hrg
      clear hrg
      obtain ⟨e_7,he_7,hF⟩ := bnd_some hF
      obtain ⟨qa_6,qr_6⟩ := row_atk hc m8 (tabR_getI he_7)
      obtain ⟨mm_3,hmm_3,hF⟩ := bnd_some hF
      cases hb : ((lkA mm_3 x_0).getD false)
      ·replace hF := condF hb hF
       try rw [hb] at hf
       try rw [hb] at hc
       have hb3 := hb
       clear hb
       obtain ⟨qa_7,qr_7⟩ := row_atk hc m8 (tabR_getI he_7)
       refine rRegE (fun _ _ h => h) rfl (fun θ => (⟨none,none,1,pq b_⟩::⟨none,none,2,pq b__2⟩::⟨none,none,3,pq b__3⟩::⟨none,none,4,pq b__4⟩::⟨none,none,5,pq b__5⟩::⟨none,none,7,pq b_5⟩::⟨none,none,8,i6 q⟩::⟨none,none,9,i6 x_0⟩::⟨none,none,47,i6 ((x.Roster.People.length : Nat) : Int)⟩::⟨none,none,48,i6 x_0⟩::⟨some 0,none,51,.slice (some ⟨g_1,0,none⟩) ((b__7.set xv.toNat (some (setA mm p_ true))).length) tcq.1⟩::⟨some 1,none,52,i6 xv⟩::⟨some 2,none,53,.pointer (some ⟨g_1,xv.toNat * 1,none⟩)⟩::⟨some 3,none,54,.map (some ((tcq.2 xv.toNat).2))⟩::⟨some 4,none,55,i6 x_0⟩::⟨some 5,none,56,.bool false⟩::⟨some 6,none,57,.bool false⟩::⟨some 7,none,58,undef⟩::⟨some 8,none,59,undef⟩::⟨some 9,none,60,undef⟩::⟨some 10,none,61,undef⟩::⟨some 11,none,62,undef⟩::⟨some 12,none,63,undef⟩::⟨some 13,none,64,undef⟩::⟨some 14,none,65,undef⟩::⟨some 15,none,66,undef⟩::⟨some 16,none,67,undef⟩::⟨some 17,none,68,undef⟩::⟨some 18,none,69,undef⟩::⟨some 19,none,70,undef⟩::⟨some 20,none,71,undef⟩::⟨some 21,none,72,undef⟩::⟨some 22,none,73,undef⟩::⟨some 23,none,74,undef⟩::⟨some 24,none,75,.bool false⟩::[])) (fun E θ => .box b_5 [i6 xv] 3::.box b_1 [i6 p_] 3::.box b_ [pq b__1] 166::.box b__2 [.slice p_1 b__0.length c_1] 99::.row p_1 c_1 (b__0.map enc_crew_Refusal) 86 2::.box b__3 [.slice (some ⟨g,0,none⟩) ((b__6.set p_.toNat xv).length) c_2] 25::.row (some ⟨g,0,none⟩) c_2 ((b__6.set p_.toNat xv).map encI_i64) 3 1::.box b__4 [.slice (some ⟨g_1,0,none⟩) ((b__7.set xv.toNat (some (setA mm p_ true))).length) tcq.1] 222::.row (some ⟨g_1,0,none⟩) tcq.1 ((tabR tcq.2 (b__7.set xv.toNat (some (setA mm p_ true)))).map (Kd.v kd_223)) 223 1::tabI kd_223 (tabR tcq.2 (b__7.set xv.toNat (some (setA mm p_ true))))::.box b__5 [.func (.func 163) #[] #[pq b_,pq b__2,pq b__3,pq b__4,pq b__5]] 213::Lb) [] (fun a w => Has 95 a [(1,pq b_),(2,pq b__2),(3,pq b__3),(4,pq b__4),(5,pq b__5),(7,pq b_5),(8,i6 q),(9,i6 x_0),(47,i6 ((x.Roster.People.length : Nat) : Int)),(48,i6 x_0),(58,undef),(59,undef),(60,undef),(61,undef),(62,undef),(63,undef),(64,undef),(65,undef),(66,undef),(67,undef),(68,undef),(69,undef),(70,undef),(71,undef),(72,undef),(73,undef),(74,undef),(75,.bool false)] ∧ Ctx G (.box b_5 [i6 xv] 3::.box b_1 [i6 p_] 3::.box b_ [pq b__1] 166::.box b__2 [.slice p_1 b__0.length c_1] 99::.row p_1 c_1 (b__0.map enc_crew_Refusal) 86 2::.box b__3 [.slice (some ⟨g,0,none⟩) ((b__6.set p_.toNat xv).length) c_2] 25::.row (some ⟨g,0,none⟩) c_2 ((b__6.set p_.toNat xv).map encI_i64) 3 1::.box b__4 [.slice (some ⟨g_1,0,none⟩) ((b__7.set xv.toNat (some (setA mm p_ true))).length) tcq.1] 222::.row (some ⟨g_1,0,none⟩) tcq.1 ((tabR tcq.2 (b__7.set xv.toNat (some (setA mm p_ true)))).map (Kd.v kd_223)) 223 1::tabI kd_223 (tabR tcq.2 (b__7.set xv.toNat (some (setA mm p_ true))))::.box b__5 [.func (.func 163) #[] #[pq b_,pq b__2,pq b__3,pq b__4,pq b__5]] 213::Lb) w) follows_mx (by kernel_rfl) (by kernel_rfl) (HasE.of hf ⟨rfl,rfl,rfl,rfl,rfl,rfl,rfl,rfl,rfl,rfl,trivial,trivial,trivial,trivial,trivial,trivial,trivial,trivial,trivial,trivial,trivial,trivial,trivial,trivial,trivial,trivial,trivial,trivial,trivial,trivial,trivial,trivial,trivial,trivial,trivial,trivial⟩) hc ⟨?_,?_,?_,?_,?_,?_,?_,?_,?_,?_,?_,?_,?_,?_,?_,?_,?_,?_,?_,?_,?_,?_,?_,?_,?_,trivial⟩ ?_ ?_
       ·intro E θ a w hD hi hp he hc
        have hf := he.h0.mT he 3 rfl
        refine zL hf hc sc_222 m7 rfl fun a w hf hc => zD θ he hi hf 10 rfl rfl rfl hc
       ·intro E θ a w hD hi hp he hc
        have hf := he.h0.mT he 5 rfl
        refine zL hf hc sc_3 m0 rfl fun a w hf hc => zD θ he hi hf 11 rfl rfl rfl hc
       ·intro E θ a w hD hi hp he hc
        have e0 := hp.o 0 rfl
        have e1 := hp.o 1 rfl
        have hf := (he.h0.mP he 10 rfl e0).mP he 11 rfl e1
        refine zP hf rfl (pIA Tryz.underlying222 sz_223 rfl rfl (At.len qa_7 (by simp only [tabR_len,List.length_set]))) fun a hf => zD θ he hi hf 12 rfl rfl rfl hc
       ·intro E θ a w hD hi hp he hc
        have e2 := hp.o 2 rfl
        have hf := he.h0.mP he 12 rfl e2
        refine zE hf hc rfl (eLd1 sc_223 rfl (cell_row (sz := 1) (i := xv.toNat) (j := 0) m8 qr_7 (by subst hmm_3; rfl))) fun a w hf hc => zD θ he hi hf 13 rfl rfl rfl hc
       ·intro E θ a w hD hi hp he hc
        have hf := he.h0.mT he 7 rfl
        refine sp 1 hf rfl fun a hf => zD θ he hi hf 14 rfl rfl rfl hc
       ·intro E θ a w hD hi hp he hc
        have e3 := hp.o 3 rfl
        have e4 := hp.o 4 rfl
        have hf := (he.h0.mP he 13 rfl e3).mP he 14 rfl e4
        refine zE hf hc rfl (eLk (enc := Value.bool) (z0 := false) (m := (lkA mm_3)) (alS (tabSm m9 (getM_of he_7 hmm_3))) Tryz.underlying223 Tryz.underlying3 zr_4 rfl rfl) fun a w hf hc => ?_
        rw [hb3] at hf
        exact zD θ he hi hf 15 rfl rfl rfl hc
       ·intro E θ a w hD hi hp he hc
        have e5 := hp.o 5 rfl
        have hf := he.h0.mP he 15 rfl e5
        refine sp 1 hf rfl fun a hf => zD θ he hi hf 16 rfl rfl rfl hc
       ·intro E θ a w hD hi hp he hc
        have e6 := hp.o 6 rfl
        have hf := (he.h0.mT he 0 rfl).mP he 16 rfl e6
        refine stS hf rfl rfl rfl fun a hf => zD θ he hi hf 17 rfl rfl rfl hc
       ·intro E θ a w hD hi hp he hc
        have e6 := hp.o 6 rfl
        have hf := (he.h0.mT he 5 rfl).mP he 16 rfl e6
        refine stS hf rfl rfl rfl fun a hf => zD θ he hi hf 18 rfl rfl rfl hc
       ·intro E θ a w hD hi hp he hc
        have e6 := hp.o 6 rfl
        have hf := (he.h0.mT he 7 rfl).mP he 16 rfl e6
        refine stS hf rfl rfl rfl fun a hf => zD θ he hi hf 19 rfl rfl rfl hc
       ·intro E θ a w hD hi hp he hc
        have e6 := hp.o 6 rfl
        have e7 := hp.o 7 rfl
        have hf := (he.h0.mP he 16 rfl e6).mP he 17 rfl e7
        refine stS hf rfl rfl rfl fun a hf => zD θ he hi hf 20 rfl rfl rfl hc
       ·intro E θ a w hD hi hp he hc
        have e6 := hp.o 6 rfl
        have e10 := hp.o 10 rfl
        have hf := (he.h0.mP he 16 rfl e6).mP he 20 rfl e10
        refine stS hf rfl rfl rfl fun a hf => zD θ he hi hf 21 rfl rfl rfl hc
       ·intro E θ a w hD hi hp he hc
        have e6 := hp.o 6 rfl
        have e8 := hp.o 8 rfl
        have e11 := hp.o 11 rfl
        have hf := ((he.h0.mP he 16 rfl e6).mP he 18 rfl e8).mP he 21 rfl e11
        refine stS hf rfl rfl rfl fun a hf => zD θ he hi hf 22 rfl rfl rfl hc
       ·intro E θ a w hD hi hp he hc
        have e6 := hp.o 6 rfl
        have e9 := hp.o 9 rfl
        have e12 := hp.o 12 rfl
        have hf := ((he.h0.mP he 16 rfl e6).mP he 19 rfl e9).mP he 22 rfl e12
        refine stS hf rfl rfl rfl fun a hf => zD θ he hi hf 23 rfl rfl rfl hc
       ·intro E θ a w hD hi hp he hc
        have e6 := hp.o 6 rfl
        have e13 := hp.o 13 rfl
        have hf := (he.h0.mP he 16 rfl e6).mP he 23 rfl e13
        refine stS hf rfl rfl rfl fun a hf => zD θ he hi hf 24 rfl rfl rfl hc
       ·intro E θ a w hD hi hp he hc
        have e6 := hp.o 6 rfl
        have hf := (he.h0.mT he 0 rfl).mP he 16 rfl e6
        refine stS hf rfl rfl rfl fun a hf => zD θ he hi hf 25 rfl rfl rfl hc
       ·intro E θ a w hD hi hp he hc
        have e6 := hp.o 6 rfl
        have hf := (he.h0.mT he 5 rfl).mP he 16 rfl e6
        refine stS hf rfl rfl rfl fun a hf => zD θ he hi hf 26 rfl rfl rfl hc
       ·intro E θ a w hD hi hp he hc
        have e6 := hp.o 6 rfl
        have hf := (he.h0.mT he 6 rfl).mP he 16 rfl e6
        refine stS hf rfl rfl rfl fun a hf => zD θ he hi hf 27 rfl rfl rfl hc
       ·intro E θ a w hD hi hp he hc
        have e6 := hp.o 6 rfl
        have e15 := hp.o 15 rfl
        have hf := (he.h0.mP he 16 rfl e6).mP he 25 rfl e15
        refine stS hf rfl rfl rfl fun a hf => zD θ he hi hf 28 rfl rfl rfl hc
       ·intro E θ a w hD hi hp he hc
        have e6 := hp.o 6 rfl
        have e18 := hp.o 18 rfl
        have hf := (he.h0.mP he 16 rfl e6).mP he 28 rfl e18
        refine stS hf rfl rfl rfl fun a hf => zD θ he hi hf 29 rfl rfl rfl hc
       ·intro E θ a w hD hi hp he hc
        have e6 := hp.o 6 rfl
        have e16 := hp.o 16 rfl
        have e19 := hp.o 19 rfl
        have hf := ((he.h0.mP he 16 rfl e6).mP he 26 rfl e16).mP he 29 rfl e19
        refine stS hf rfl rfl rfl fun a hf => zD θ he hi hf 30 rfl rfl rfl hc
       ·intro E θ a w hD hi hp he hc
        have e6 := hp.o 6 rfl
        have e17 := hp.o 17 rfl
        have e20 := hp.o 20 rfl
        have hf := ((he.h0.mP he 16 rfl e6).mP he 27 rfl e17).mP he 30 rfl e20
        refine stS hf rfl rfl rfl fun a hf => zD θ he hi hf 31 rfl rfl rfl hc
       ·intro E θ a w hD hi hp he hc
        have e6 := hp.o 6 rfl
        have e21 := hp.o 21 rfl
        have hf := (he.h0.mP he 16 rfl e6).mP he 31 rfl e21
        refine stS hf rfl rfl rfl fun a hf => zD θ he hi hf 32 rfl rfl rfl hc
       ·intro E θ a w hD hi hp he hc
        have e6 := hp.o 6 rfl
        have e14 := hp.o 14 rfl
        have e22 := hp.o 22 rfl
        have hf := ((he.h0.mP he 16 rfl e6).mP he 24 rfl e14).mP he 32 rfl e22
        refine stS hf rfl rfl rfl fun a hf => zD θ he hi hf 33 rfl rfl rfl hc
       ·intro E θ a w hD hi hp he hc
        have e6 := hp.o 6 rfl
        have e23 := hp.o 23 rfl
        have hf := (he.h0.mP he 16 rfl e6).mP he 33 rfl e23
        refine sp 1 hf rfl fun a hf => zD θ he hi hf 34 rfl rfl rfl hc
       ·intro E θ a w hall he hc
        have hf := he.h0
        have e7 := hall 7 rfl
        have e8 := hall 8 rfl
        have e9 := hall 9 rfl
        have e10 := hall 10 rfl
        have e11 := hall 11 rfl
        have e12 := hall 12 rfl
        have e13 := hall 13 rfl
        have e14 := hall 14 rfl
        have e15 := hall 15 rfl
        have e16 := hall 16 rfl
        have e17 := hall 17 rfl
        have e18 := hall 18 rfl
        have e19 := hall 19 rfl
        have e20 := hall 20 rfl
        have e21 := hall 21 rfl
        have e22 := hall 22 rfl
        have e23 := hall 23 rfl
        have e24 := hall 24 rfl
        replace hf := hf.more he 34 rfl (onP e24)
        replace hf := hf.more he 33 rfl (onP e23)
        replace hf := hf.more he 32 rfl (onP e22)
        replace hf := hf.more he 31 rfl (onP e21)
        replace hf := hf.more he 30 rfl (onP e20)
        replace hf := hf.more he 29 rfl (onP e19)
        replace hf := hf.more he 28 rfl (onP e18)
        replace hf := hf.more he 27 rfl (onP e17)
        replace hf := hf.more he 26 rfl (onP e16)
        replace hf := hf.more he 25 rfl (onP e15)
        replace hf := hf.more he 24 rfl (onP e14)
        replace hf := hf.more he 23 rfl (onP e13)
        replace hf := hf.more he 22 rfl (onP e12)
        replace hf := hf.more he 21 rfl (onP e11)
        replace hf := hf.more he 20 rfl (onP e10)
        replace hf := hf.more he 19 rfl (onP e9)
        replace hf := hf.more he 18 rfl (onP e8)
        replace hf := hf.more he 17 rfl (onP e7)
        replace hf := hf.more he 9 rfl (onT)
        replace hf := hf.more he 8 rfl (onT)
        replace hf := hf.more he 7 rfl (onT)
        replace hf := hf.more he 6 rfl (onT)
        replace hf := hf.more he 5 rfl (onT)
        replace hf := hf.more he 4 rfl (onT)
        replace hf := hf.more he 3 rfl (onT)
        replace hf := hf.more he 2 rfl (onT)
        replace hf := hf.more he 1 rfl (onT)
        replace hf := hf.more he 0 rfl (onT)
        exact ⟨hf.kp rfl,hc⟩
       rintro a w ⟨hf,hc⟩
       refine xThenN ?_
       obtain rfl := sj hF
       exact ⟨hf.kp rfl,hc⟩
      ·replace hF := condT hb hF
       try rw [hb] at hf
       try rw [hb] at hc
       have hb3 := hb
       clear hb
       obtain ⟨qa_8,qr_8⟩ := row_atk hc m8 (tabR_getI he_7)
       obtain ⟨un_1,hun_1,hF⟩ := bnd_some hF
       obtain ⟨un_2,hun_2,hF⟩ := bnd_some hF
       obtain ⟨un_3,hun_3,hF⟩ := bnd_some hF
       refine rRegE (fun _ _ h => h) rfl (fun θ => (⟨none,none,1,pq b_⟩::⟨none,none,2,pq b__2⟩::⟨none,none,3,pq b__3⟩::⟨none,none,4,pq b__4⟩::⟨none,none,5,pq b__5⟩::⟨none,none,7,pq b_5⟩::⟨none,none,8,i6 q⟩::⟨none,none,9,i6 x_0⟩::⟨none,none,47,i6 ((x.Roster.People.length : Nat) : Int)⟩::⟨none,none,48,i6 x_0⟩::⟨some 0,none,51,.slice (some ⟨g_1,0,none⟩) ((b__7.set xv.toNat (some (setA mm p_ true))).length) tcq.1⟩::⟨some 1,none,52,i6 xv⟩::⟨some 2,none,53,.pointer (some ⟨g_1,xv.toNat * 1,none⟩)⟩::⟨some 3,none,54,.map (some ((tcq.2 xv.toNat).2))⟩::⟨some 4,none,55,i6 x_0⟩::⟨some 5,none,56,.bool true⟩::⟨some 6,none,57,.bool true⟩::⟨some 7,none,58,pq b__1⟩::⟨some 8,none,59,i6 xv⟩::⟨some 9,none,60,i6 x_0⟩::⟨some 10,none,61,pq b__1⟩::⟨some 11,none,62,.pointer (some ⟨b__1,0 + 2,none⟩)⟩::⟨some 12,none,63,.pointer (some ⟨b__1,0 + 2 + xv.toNat * 12,none⟩)⟩::⟨some 13,none,64,.pointer (some ⟨b__1,0 + 2 + (xv * 12 + x_0).toNat * 1,none⟩)⟩::⟨some 14,none,65,i6 (x.rank (xv * 12 + x_0).toNat)⟩::⟨some 15,none,66,pq b__1⟩::⟨some 16,none,67,i6 xv⟩::⟨some 17,none,68,i6 q⟩::⟨some 18,none,69,pq b__1⟩::⟨some 19,none,70,.pointer (some ⟨b__1,0 + 2,none⟩)⟩::⟨some 20,none,71,.pointer (some ⟨b__1,0 + 2 + xv.toNat * 12,none⟩)⟩::⟨some 21,none,72,.pointer (some ⟨b__1,0 + 2 + (xv * 12 + q).toNat * 1,none⟩)⟩::⟨some 22,none,73,i6 (x.rank (xv * 12 + q).toNat)⟩::⟨some 23,none,74,.bool (decide ((x.rank (xv * 12 + q).toNat) < (x.rank (xv * 12 + x_0).toNat)))⟩::⟨some 24,none,75,.bool (decide ((x.rank (xv * 12 + q).toNat) < (x.rank (xv * 12 + x_0).toNat)))⟩::[])) (fun E θ => .box b_5 [i6 xv] 3::.box b_1 [i6 p_] 3::.box b_ [pq b__1] 166::.box b__2 [.slice p_1 b__0.length c_1] 99::.row p_1 c_1 (b__0.map enc_crew_Refusal) 86 2::.box b__3 [.slice (some ⟨g,0,none⟩) ((b__6.set p_.toNat xv).length) c_2] 25::.row (some ⟨g,0,none⟩) c_2 ((b__6.set p_.toNat xv).map encI_i64) 3 1::.box b__4 [.slice (some ⟨g_1,0,none⟩) ((b__7.set xv.toNat (some (setA mm p_ true))).length) tcq.1] 222::.row (some ⟨g_1,0,none⟩) tcq.1 ((tabR tcq.2 (b__7.set xv.toNat (some (setA mm p_ true)))).map (Kd.v kd_223)) 223 1::tabI kd_223 (tabR tcq.2 (b__7.set xv.toNat (some (setA mm p_ true))))::.box b__5 [.func (.func 163) #[] #[pq b_,pq b__2,pq b__3,pq b__4,pq b__5]] 213::Lb) [] (fun a w => Has 95 a [(1,pq b_),(2,pq b__2),(3,pq b__3),(4,pq b__4),(5,pq b__5),(7,pq b_5),(8,i6 q),(9,i6 x_0),(47,i6 ((x.Roster.People.length : Nat) : Int)),(48,i6 x_0),(58,pq b__1),(59,i6 xv),(60,i6 x_0),(61,pq b__1),(62,.pointer (some ⟨b__1,0 + 2,none⟩)),(63,.pointer (some ⟨b__1,0 + 2 + xv.toNat * 12,none⟩)),(64,.pointer (some ⟨b__1,0 + 2 + (xv * 12 + x_0).toNat * 1,none⟩)),(65,i6 (x.rank (xv * 12 + x_0).toNat)),(66,pq b__1),(67,i6 xv),(68,i6 q),(69,pq b__1),(70,.pointer (some ⟨b__1,0 + 2,none⟩)),(71,.pointer (some ⟨b__1,0 + 2 + xv.toNat * 12,none⟩)),(72,.pointer (some ⟨b__1,0 + 2 + (xv * 12 + q).toNat * 1,none⟩)),(73,i6 (x.rank (xv * 12 + q).toNat)),(74,.bool (decide ((x.rank (xv * 12 + q).toNat) < (x.rank (xv * 12 + x_0).toNat)))),(75,.bool (decide ((x.rank (xv * 12 + q).toNat) < (x.rank (xv * 12 + x_0).toNat))))] ∧ Ctx G (.box b_5 [i6 xv] 3::.box b_1 [i6 p_] 3::.box b_ [pq b__1] 166::.box b__2 [.slice p_1 b__0.length c_1] 99::.row p_1 c_1 (b__0.map enc_crew_Refusal) 86 2::.box b__3 [.slice (some ⟨g,0,none⟩) ((b__6.set p_.toNat xv).length) c_2] 25::.row (some ⟨g,0,none⟩) c_2 ((b__6.set p_.toNat xv).map encI_i64) 3 1::.box b__4 [.slice (some ⟨g_1,0,none⟩) ((b__7.set xv.toNat (some (setA mm p_ true))).length) tcq.1] 222::.row (some ⟨g_1,0,none⟩) tcq.1 ((tabR tcq.2 (b__7.set xv.toNat (some (setA mm p_ true)))).map (Kd.v kd_223)) 223 1::tabI kd_223 (tabR tcq.2 (b__7.set xv.toNat (some (setA mm p_ true))))::.box b__5 [.func (.func 163) #[] #[pq b_,pq b__2,pq b__3,pq b__4,pq b__5]] 213::Lb) w) follows_mx (by kernel_rfl) (by kernel_rfl) (HasE.of hf ⟨rfl,rfl,rfl,rfl,rfl,rfl,rfl,rfl,rfl,rfl,trivial,trivial,trivial,trivial,trivial,trivial,trivial,trivial,trivial,trivial,trivial,trivial,trivial,trivial,trivial,trivial,trivial,trivial,trivial,trivial,trivial,trivial,trivial,trivial,trivial,trivial⟩) hc ⟨?_,?_,?_,?_,?_,?_,?_,?_,?_,?_,?_,?_,?_,?_,?_,?_,?_,?_,?_,?_,?_,?_,?_,?_,?_,trivial⟩ ?_ ?_
       ·intro E θ a w hD hi hp he hc
        have hf := he.h0.mT he 3 rfl
        refine zL hf hc sc_222 m7 rfl fun a w hf hc => zD θ he hi hf 10 rfl rfl rfl hc
       ·intro E θ a w hD hi hp he hc
        have hf := he.h0.mT he 5 rfl
        refine zL hf hc sc_3 m0 rfl fun a w hf hc => zD θ he hi hf 11 rfl rfl rfl hc
       ·intro E θ a w hD hi hp he hc
        have e0 := hp.o 0 rfl
        have e1 := hp.o 1 rfl
        have hf := (he.h0.mP he 10 rfl e0).mP he 11 rfl e1
        refine zP hf rfl (pIA Tryz.underlying222 sz_223 rfl rfl (At.len qa_8 (by simp only [tabR_len,List.length_set]))) fun a hf => zD θ he hi hf 12 rfl rfl rfl hc
       ·intro E θ a w hD hi hp he hc
        have e2 := hp.o 2 rfl
        have hf := he.h0.mP he 12 rfl e2
        refine zE hf hc rfl (eLd1 sc_223 rfl (cell_row (sz := 1) (i := xv.toNat) (j := 0) m8 qr_8 (by subst hmm_3; rfl))) fun a w hf hc => zD θ he hi hf 13 rfl rfl rfl hc
       ·intro E θ a w hD hi hp he hc
        have hf := he.h0.mT he 7 rfl
        refine sp 1 hf rfl fun a hf => zD θ he hi hf 14 rfl rfl rfl hc
       ·intro E θ a w hD hi hp he hc
        have e3 := hp.o 3 rfl
        have e4 := hp.o 4 rfl
        have hf := (he.h0.mP he 13 rfl e3).mP he 14 rfl e4
        refine zE hf hc rfl (eLk (enc := Value.bool) (z0 := false) (m := (lkA mm_3)) (alS (tabSm m9 (getM_of he_7 hmm_3))) Tryz.underlying223 Tryz.underlying3 zr_4 rfl rfl) fun a w hf hc => ?_
        rw [hb3] at hf
        exact zD θ he hi hf 15 rfl rfl rfl hc
       ·intro E θ a w hD hi hp he hc
        have e5 := hp.o 5 rfl
        have hf := he.h0.mP he 15 rfl e5
        refine sp 1 hf rfl fun a hf => zD θ he hi hf 16 rfl rfl rfl hc
       ·intro E θ a w hD hi hp he hc
        have e6 := hp.o 6 rfl
        have hf := (he.h0.mT he 0 rfl).mP he 16 rfl e6
        refine zL hf hc sc_166 m2 rfl fun a w hf hc => zD θ he hi hf 17 rfl rfl rfl hc
       ·intro E θ a w hD hi hp he hc
        have e6 := hp.o 6 rfl
        have hf := (he.h0.mT he 5 rfl).mP he 16 rfl e6
        refine zL hf hc sc_3 m0 rfl fun a w hf hc => zD θ he hi hf 18 rfl rfl rfl hc
       ·intro E θ a w hD hi hp he hc
        have e6 := hp.o 6 rfl
        have hf := (he.h0.mT he 7 rfl).mP he 16 rfl e6
        refine sp 1 hf rfl fun a hf => zD θ he hi hf 19 rfl rfl rfl hc
       ·intro E θ a w hD hi hp he hc
        have e6 := hp.o 6 rfl
        have e7 := hp.o 7 rfl
        have hf := (he.h0.mP he 16 rfl e6).mP he 17 rfl e7
        refine sp 1 hf rfl fun a hf => zD θ he hi hf 20 rfl rfl rfl hc
       ·intro E θ a w hD hi hp he hc
        have e6 := hp.o 6 rfl
        have e10 := hp.o 10 rfl
        have hf := (he.h0.mP he 16 rfl e6).mP he 20 rfl e10
        refine zP hf rfl (pFA fa_181_1 rfl) fun a hf => zD θ he hi hf 21 rfl rfl rfl hc
       ·intro E θ a w hD hi hp he hc
        have e6 := hp.o 6 rfl
        have e8 := hp.o 8 rfl
        have e11 := hp.o 11 rfl
        have hf := ((he.h0.mP he 16 rfl e6).mP he 18 rfl e8).mP he 21 rfl e11
        refine zP hf rfl (pIAA Tryz.underlying179 sz_178 rfl rfl (inR_spec hun_1).1 (inR_spec hun_1).2) fun a hf => zD θ he hi hf 22 rfl rfl rfl hc
       ·intro E θ a w hD hi hp he hc
        have e6 := hp.o 6 rfl
        have e9 := hp.o 9 rfl
        have e12 := hp.o 12 rfl
        have hf := ((he.h0.mP he 16 rfl e6).mP he 19 rfl e9).mP he 22 rfl e12
        refine zP hf rfl (Pu.cast (pIAA Tryz.underlying178 sz_3 rfl rfl (inR_spec hun_2).1 (inR_spec hun_2).2) (congrArg (fun k => Value.pointer (some ⟨b__1,k,none⟩)) (flat_off (M := 12) (0 + 2) hun_1 hun_2 rfl))) fun a hf => zD θ he hi hf 23 rfl rfl rfl hc
       ·intro E θ a w hD hi hp he hc
        have e6 := hp.o 6 rfl
        have e13 := hp.o 13 rfl
        have hf := (he.h0.mP he 16 rfl e6).mP he 23 rfl e13
        refine zE hf hc rfl (eLd1 sc_3 rfl (cell_pca (j := 0) h_x_pc (fun x => (one_encI_i64 x).1) rfl (inR2 hun_1 hun_2 rfl) rfl)) fun a w hf hc => zD θ he hi hf 24 rfl rfl rfl hc
       ·intro E θ a w hD hi hp he hc
        have e6 := hp.o 6 rfl
        have hf := (he.h0.mT he 0 rfl).mP he 16 rfl e6
        refine zL hf hc sc_166 m2 rfl fun a w hf hc => zD θ he hi hf 25 rfl rfl rfl hc
       ·intro E θ a w hD hi hp he hc
        have e6 := hp.o 6 rfl
        have hf := (he.h0.mT he 5 rfl).mP he 16 rfl e6
        refine zL hf hc sc_3 m0 rfl fun a w hf hc => zD θ he hi hf 26 rfl rfl rfl hc
       ·intro E θ a w hD hi hp he hc
        have e6 := hp.o 6 rfl
        have hf := (he.h0.mT he 6 rfl).mP he 16 rfl e6
        refine sp 1 hf rfl fun a hf => zD θ he hi hf 27 rfl rfl rfl hc
       ·intro E θ a w hD hi hp he hc
        have e6 := hp.o 6 rfl
        have e15 := hp.o 15 rfl
        have hf := (he.h0.mP he 16 rfl e6).mP he 25 rfl e15
        refine sp 1 hf rfl fun a hf => zD θ he hi hf 28 rfl rfl rfl hc
       ·intro E θ a w hD hi hp he hc
        have e6 := hp.o 6 rfl
        have e18 := hp.o 18 rfl
        have hf := (he.h0.mP he 16 rfl e6).mP he 28 rfl e18
        refine zP hf rfl (pFA fa_181_1 rfl) fun a hf => zD θ he hi hf 29 rfl rfl rfl hc
       ·intro E θ a w hD hi hp he hc
        have e6 := hp.o 6 rfl
        have e16 := hp.o 16 rfl
        have e19 := hp.o 19 rfl
        have hf := ((he.h0.mP he 16 rfl e6).mP he 26 rfl e16).mP he 29 rfl e19
        refine zP hf rfl (pIAA Tryz.underlying179 sz_178 rfl rfl (inR_spec hun_1).1 (inR_spec hun_1).2) fun a hf => zD θ he hi hf 30 rfl rfl rfl hc
       ·intro E θ a w hD hi hp he hc
        have e6 := hp.o 6 rfl
        have e17 := hp.o 17 rfl
        have e20 := hp.o 20 rfl
        have hf := ((he.h0.mP he 16 rfl e6).mP he 27 rfl e17).mP he 30 rfl e20
        refine zP hf rfl (Pu.cast (pIAA Tryz.underlying178 sz_3 rfl rfl (inR_spec hun_3).1 (inR_spec hun_3).2) (congrArg (fun k => Value.pointer (some ⟨b__1,k,none⟩)) (flat_off (M := 12) (0 + 2) hun_1 hun_3 rfl))) fun a hf => zD θ he hi hf 31 rfl rfl rfl hc
       ·intro E θ a w hD hi hp he hc
        have e6 := hp.o 6 rfl
        have e21 := hp.o 21 rfl
        have hf := (he.h0.mP he 16 rfl e6).mP he 31 rfl e21
        refine zE hf hc rfl (eLd1 sc_3 rfl (cell_pca (j := 0) h_x_pc (fun x => (one_encI_i64 x).1) rfl (inR2 hun_1 hun_3 rfl) rfl)) fun a w hf hc => zD θ he hi hf 32 rfl rfl rfl hc
       ·intro E θ a w hD hi hp he hc
        have e6 := hp.o 6 rfl
        have e14 := hp.o 14 rfl
        have e22 := hp.o 22 rfl
        have hf := ((he.h0.mP he 16 rfl e6).mP he 24 rfl e14).mP he 32 rfl e22
        refine sp 1 hf rfl fun a hf => zD θ he hi hf 33 rfl rfl rfl hc
       ·intro E θ a w hD hi hp he hc
        have e6 := hp.o 6 rfl
        have e23 := hp.o 23 rfl
        have hf := (he.h0.mP he 16 rfl e6).mP he 33 rfl e23
        refine sp 1 hf rfl fun a hf => zD θ he hi hf 34 rfl rfl rfl hc
       ·intro E θ a w hall he hc
        have hf := he.h0
        have e7 := hall 7 rfl
        have e8 := hall 8 rfl
        have e9 := hall 9 rfl
        have e10 := hall 10 rfl
        have e11 := hall 11 rfl
        have e12 := hall 12 rfl
        have e13 := hall 13 rfl
        have e14 := hall 14 rfl
        have e15 := hall 15 rfl
        have e16 := hall 16 rfl
        have e17 := hall 17 rfl
        have e18 := hall 18 rfl
        have e19 := hall 19 rfl
        have e20 := hall 20 rfl
        have e21 := hall 21 rfl
        have e22 := hall 22 rfl
        have e23 := hall 23 rfl
        have e24 := hall 24 rfl
        replace hf := hf.more he 34 rfl (onP e24)
        replace hf := hf.more he 33 rfl (onP e23)
        replace hf := hf.more he 32 rfl (onP e22)
        replace hf := hf.more he 31 rfl (onP e21)
        replace hf := hf.more he 30 rfl (onP e20)
        replace hf := hf.more he 29 rfl (onP e19)
        replace hf := hf.more he 28 rfl (onP e18)
        replace hf := hf.more he 27 rfl (onP e17)
        replace hf := hf.more he 26 rfl (onP e16)
        replace hf := hf.more he 25 rfl (onP e15)
        replace hf := hf.more he 24 rfl (onP e14)
        replace hf := hf.more he 23 rfl (onP e13)
        replace hf := hf.more he 22 rfl (onP e12)
        replace hf := hf.more he 21 rfl (onP e11)
        replace hf := hf.more he 20 rfl (onP e10)
        replace hf := hf.more he 19 rfl (onP e9)
        replace hf := hf.more he 18 rfl (onP e8)
        replace hf := hf.more he 17 rfl (onP e7)
        replace hf := hf.more he 9 rfl (onT)
        replace hf := hf.more he 8 rfl (onT)
        replace hf := hf.more he 7 rfl (onT)
        replace hf := hf.more he 6 rfl (onT)
        replace hf := hf.more he 5 rfl (onT)
        replace hf := hf.more he 4 rfl (onT)
        replace hf := hf.more he 3 rfl (onT)
        replace hf := hf.more he 2 rfl (onT)
        replace hf := hf.more he 1 rfl (onT)
        replace hf := hf.more he 0 rfl (onT)
        exact ⟨hf.kp rfl,hc⟩
       rintro a w ⟨hf,hc⟩
       refine xThenN ?_
       obtain rfl := sj hF
       exact ⟨hf.kp rfl,hc⟩
     rintro a w ⟨hf,hc⟩
     refine h23 _ _ ?_
     refine rCond (b := rg) hf rfl (fun hb => ?_) (fun hb => ?_)
     ·replace hF := condT hb hF
      clear hb
      refine rReg (fun _ _ h => h) rfl ?_
      refine sp 2 hf rfl fun a hf => cNil ?_
      exact hj21 x_0 _ _  (hf.kp rfl) hc hF
     ·replace hF := condF hb hF
      clear hb
      refine rSkip ?_
      exact hj21 q _ _  (hf.kp rfl) hc hF
    ·replace hF := condF hb hF
     clear hb
     refine rExit ?_
     refine xThen ?_
     refine xThen ?_
     have he := sj hF
     rw [← he] at hfin14
     refine cHit ?_
     exact hr14 _ _ _ hfin14 ⟨hf.kp rfl,hc⟩
 ·rintro D_1 ⟨b__0,b__6,b__7⟩ _ a w hsF ⟨p_1,c_1,p_2,c_2,p_3,tcq,rfl⟩ hf hc
  replace hf : Has ⟨95,markL (D_1::[])⟩ a [(1,pq b_),(2,pq b__2),(3,pq b__3),(4,pq b__4),(5,pq b__5),(6,pq b_1)] := hf.kp rfl
  replace hc : Ctx G (.box b_2 [pq b__1] 166::.box b_3 [i6 r.1] 3::.box b_4 [i6 r.2] 3::.box b_1 [i6 p_] 3::.box b_ [pq b__1] 166::.box b__2 [.slice p_1 b__0.length c_1] 99::.row p_1 c_1 (b__0.map enc_crew_Refusal) 86 2::.box b__3 [.slice p_2 b__6.length c_2] 25::.row p_2 c_2 (b__6.map encI_i64) 3 1::.box b__4 [.slice p_3 b__7.length tcq.1] 222::.row p_3 tcq.1 ((tabR tcq.2 b__7).map (Kd.v kd_223)) 223 1::tabI kd_223 (tabR tcq.2 b__7)::.box b__5 [.func (.func 163) #[] #[pq b_,pq b__2,pq b__3,pq b__4,pq b__5]] 213::(raws (D_1::[]) ++ Lf)) w := rawsIn (C := [.box b_2 [pq b__1] 166,.box b_3 [i6 r.1] 3,.box b_4 [i6 r.2] 3]) (L := [.box b_1 [i6 p_] 3,.box b_ [pq b__1] 166,.box b__2 [.slice p_1 b__0.length c_1] 99,.row p_1 c_1 (b__0.map enc_crew_Refusal) 86 2,.box b__3 [.slice p_2 b__6.length c_2] 25,.row p_2 c_2 (b__6.map encI_i64) 3 1,.box b__4 [.slice p_3 b__7.length tcq.1] 222,.row p_3 tcq.1 ((tabR tcq.2 b__7).map (Kd.v kd_223)) 223 1,tabI kd_223 (tabR tcq.2 b__7),.box b__5 [.func (.func 163) #[] #[pq b_,pq b__2,pq b__3,pq b__4,pq b__5]] 213]) hc
  replace hF : (some (b__0,b__6,b__7)) = some res := by rcases hsF with rfl | rfl <;> exact hF
  obtain rfl := sj hF
  replace hc := (((((((((((hc.drop k3).drop k2).drop k1).drop k0).pick k5).pick k4).pick k3).pick k3).pick k7).pick k7).pick k7).pick k7
  refine outM hf ?_
  refine outML [.row p_1 c_1 (b__0.map enc_crew_Refusal) 86 2,.row p_2 c_2 (b__6.map encI_i64) 3 1,.row p_3 tcq.1 ((tabR tcq.2 b__7).map (Kd.v kd_223)) 223 1,tabI kd_223 (tabR tcq.2 b__7),.box b_ [pq b__1] 166,.box b__2 [.slice p_1 b__0.length c_1] 99,.box b__3 [.slice p_2 b__6.length c_2] 25,.box b__4 [.slice p_3 b__7.length tcq.1] 222,.box b__5 [.func (.func 163) #[] #[pq b_,pq b__2,pq b__3,pq b__4,pq b__5]] 213] (D_1::[]) hc fun w hc => ?_
  replace hc : Ctx G (.row p_1 c_1 (b__0.map enc_crew_Refusal) 86 2::.row p_2 c_2 (b__6.map encI_i64) 3 1::.row p_3 tcq.1 ((tabR tcq.2 b__7).map (Kd.v kd_223)) 223 1::tabI kd_223 (tabR tcq.2 b__7)::.box b_ [pq b__1] 166::.box b__2 [.slice p_1 b__0.length c_1] 99::.box b__3 [.slice p_2 b__6.length c_2] 25::.box b__4 [.slice p_3 b__7.length tcq.1] 222::.box b__5 [.func (.func 163) #[] #[pq b_,pq b__2,pq b__3,pq b__4,pq b__5]] 213::Lf) w := hc
  exact outM0 Tryz.results163 ⟨p_1,c_1,p_2,c_2,p_3,tcq,rfl,hc⟩
 ·rintro D_1 ⟨b__0,b__6,b__7⟩ _ a w hsF ⟨p_1,c_1,p_2,c_2,p_3,tcq,rfl⟩ hf hc
  replace hf : Has ⟨95,markL (D_1::[])⟩ a [(1,pq b_),(2,pq b__2),(3,pq b__3),(4,pq b__4),(5,pq b__5),(6,pq b_1)] := hf.kp rfl
  replace hc : Ctx G (.box b_2 [pq b__1] 166::.box b_3 [i6 r.1] 3::.box b_4 [i6 r.2] 3::.box b_1 [i6 p_] 3::.box b_ [pq b__1] 166::.box b__2 [.slice p_1 b__0.length c_1] 99::.row p_1 c_1 (b__0.map enc_crew_Refusal) 86 2::.box b__3 [.slice p_2 b__6.length c_2] 25::.row p_2 c_2 (b__6.map encI_i64) 3 1::.box b__4 [.slice p_3 b__7.length tcq.1] 222::.row p_3 tcq.1 ((tabR tcq.2 b__7).map (Kd.v kd_223)) 223 1::tabI kd_223 (tabR tcq.2 b__7)::.box b__5 [.func (.func 163) #[] #[pq b_,pq b__2,pq b__3,pq b__4,pq b__5]] 213::(raws (D_1::[]) ++ Lf)) w := rawsIn (C := [.box b_2 [pq b__1] 166,.box b_3 [i6 r.1] 3,.box b_4 [i6 r.2] 3]) (L := [.box b_1 [i6 p_] 3,.box b_ [pq b__1] 166,.box b__2 [.slice p_1 b__0.length c_1] 99,.row p_1 c_1 (b__0.map enc_crew_Refusal) 86 2,.box b__3 [.slice p_2 b__6.length c_2] 25,.row p_2 c_2 (b__6.map encI_i64) 3 1,.box b__4 [.slice p_3 b__7.length tcq.1] 222,.row p_3 tcq.1 ((tabR tcq.2 b__7).map (Kd.v kd_223)) 223 1,tabI kd_223 (tabR tcq.2 b__7),.box b__5 [.func (.func 163) #[] #[pq b_,pq b__2,pq b__3,pq b__4,pq b__5]] 213]) hc
  replace hF : (some (b__0,b__6,b__7)) = some res := by subst hsF; exact hF
  obtain rfl := sj hF
  replace hc := (((((((((((hc.drop k3).drop k2).drop k1).drop k0).pick k5).pick k4).pick k3).pick k3).pick k7).pick k7).pick k7).pick k7
  refine outM hf ?_
  refine outML [.row p_1 c_1 (b__0.map enc_crew_Refusal) 86 2,.row p_2 c_2 (b__6.map encI_i64) 3 1,.row p_3 tcq.1 ((tabR tcq.2 b__7).map (Kd.v kd_223)) 223 1,tabI kd_223 (tabR tcq.2 b__7),.box b_ [pq b__1] 166,.box b__2 [.slice p_1 b__0.length c_1] 99,.box b__3 [.slice p_2 b__6.length c_2] 25,.box b__4 [.slice p_3 b__7.length tcq.1] 222,.box b__5 [.func (.func 163) #[] #[pq b_,pq b__2,pq b__3,pq b__4,pq b__5]] 213] (D_1::[]) hc fun w hc => ?_
  replace hc : Ctx G (.row p_1 c_1 (b__0.map enc_crew_Refusal) 86 2::.row p_2 c_2 (b__6.map encI_i64) 3 1::.row p_3 tcq.1 ((tabR tcq.2 b__7).map (Kd.v kd_223)) 223 1::tabI kd_223 (tabR tcq.2 b__7)::.box b_ [pq b__1] 166::.box b__2 [.slice p_1 b__0.length c_1] 99::.box b__3 [.slice p_2 b__6.length c_2] 25::.box b__4 [.slice p_3 b__7.length tcq.1] 222::.box b__5 [.func (.func 163) #[] #[pq b_,pq b__2,pq b__3,pq b__4,pq b__5]] 213::Lf) w := hc
  exact outM0 Tryz.results163 ⟨p_1,c_1,p_2,c_2,p_3,tcq,rfl,hc⟩

def crew_work_settle_b12 (N : Nat) (w_ : crew_work) (x_2 : Int) (x_3 : List Int) (x_4 : List crew_Refusal) (x_5 : List (Option (List (Int × Bool)))) : Option (Step (Int × (List Int) × (List crew_Refusal) × (List (Option (List (Int × Bool))))) ((List Int) × (List crew_Refusal))) :=
 cond (decide (x_2 < ((w_.Roster.People.length : Nat) : Int)))
 (Option.bind (crew_work_settle_1 N x_2 w_ x_4 x_3 x_5) fun r_1 =>
 some (.cont (W (x_2 + 1),r_1.2.1,r_1.1,r_1.2.2)))
 (some (.brk (x_2,x_3,x_4,x_5)))
def crew_work_settle_b5 (N : Nat) (w_ : crew_work) (x : Int) (x_1 : List (Option (List (Int × Bool)))) : Option (Step (Int × (List (Option (List (Int × Bool))))) ((List Int) × (List crew_Refusal))) :=
 cond (decide (x < (((List.replicate ((w_.Roster.Stations.length : Nat) : Int).toNat (none : Option (List (Int × Bool)))).length : Nat) : Int)))
 (Option.bind (getI x_1 x) fun e_1 =>
 some (.cont (W (x + 1),(x_1.set x.toNat (some ([] : List (Int × Bool)))))))
 (some (.brk (x,x_1)))
def crew_work_settle (N : Nat) (w_ : crew_work) : Option ((List Int) × (List crew_Refusal)) :=
 Option.bind (inM ((w_.Roster.Stations.length : Nat) : Int)) fun un =>
 Option.bind (loopO (fun s5 => crew_work_settle_b5 N w_ s5.1 s5.2) N (0,(List.replicate ((w_.Roster.Stations.length : Nat) : Int).toNat (none : Option (List (Int × Bool)))))) fun x5 =>
 exK x5 (fun s5 => Option.bind (slices_Repeat_Lint_int N ([(-1)] : List Int) ((w_.Roster.People.length : Nat) : Int)) fun r =>
 Option.bind (loopO (fun s12 => crew_work_settle_b12 N w_ s12.1 s12.2.1 s12.2.2.1 s12.2.2.2) N (0,r,([] : List crew_Refusal),s5.2)) fun x12 =>
 exK x12 (fun s12 => some (s12.2.1,s12.2.2.1)) some) some
theorem crew_work_settle_ok {N : Nat} {G : Pers} {Lf : List Ent} {w : World} (w_ : crew_work) {b_ : Nat} {w__Roster_People_p : Option Addr} {w__Roster_People_c : Nat} {w__Roster_Stations_p : Option Addr} {w__Roster_Stations_c : Nat} (h_w__Roster_People : RdT kd_25 G 1 w__Roster_People_p w__Roster_People_c w_.Roster.People) (h_w__Roster_Stations : RdT kd_101 G 2 w__Roster_Stations_p w__Roster_Stations_c w_.Roster.Stations) (h_w__pc : PC G b_ 0 (catc [.slice w__Roster_People_p w_.Roster.People.length w__Roster_People_c,.slice w__Roster_Stations_p w_.Roster.Stations.length w__Roster_Stations_c] 144 encI_i64 w_.rank [])) (hc : Ctx G (Lf) w) {res : (List Int) × (List crew_Refusal)} (hF : crew_work_settle N w_ = some res) : Calls Tryz.prog 106 #[pq b_] w (fun e w => ∃ (p'1 : Option Addr) (c'1 : Nat) (p'2 : Option Addr) (c'2 : Nat),e = .returned (.tuple #[.slice p'1 res.1.length c'1,.slice p'2 res.2.length c'2]) ∧ Ctx G (.row p'1 c'1 (res.1.map encI_i64) 3 1::.row p'2 c'2 (res.2.map enc_crew_Refusal) 86 2::Lf) w) := by
 unfold crew_work_settle at hF
 refine fnIn Tryz.func106 rfl Tryz.ntmps106 rfl fun a hf => zS fun K h => zB hf hc rfl fun b_1 a w hf hc => sp 2 hf rfl fun a hf => zT h ?_
 refine zS fun K h => zL hf hc sc_166 m0 rfl fun a w hf hc => sp 1 hf rfl fun a hf => zP hf rfl (pFA fa_181_0 rfl) fun a hf => zP hf rfl (pFA fa_78_1 rfl) fun a hf => zE hf hc rfl (eLd1 sc_76 rfl (cell_pc (j := 1) h_w__pc rfl)) fun a w hf hc => zP hf rfl (pLenS Tryz.underlying76 rfl) fun a hf => ?_
 obtain ⟨un,hun,hF⟩ := bnd_some hF
 refine stMk (m := (List.replicate ((w_.Roster.Stations.length : Nat) : Int).toNat (none : Option (List (Int × Bool)))).length) (rows := (List.replicate ((w_.Roster.Stations.length : Nat) : Int).toNat (((none,0),(none : Option (List (Int × Bool)))) : H2 × (Option (List (Int × Bool))))).map (Kd.v kd_223)) hf hc rfl rfl sl_222 rfl rfl (inM_spec hun) rfl rfl (by simp [List.map_replicate,Value.cells,Kd.v,kM,kL,Kd.comp]) (by simp) fun b_2 a w hf hc => ?_
 obtain ⟨hsq,hc⟩ := tab_make (K := kd_223) (x := (none : Option (List (Int × Bool)))) (fun _ h => h.nilRow _ _) _ hc
 replace hc : Ctx G (.row (some ⟨b_2,0,none⟩) (((w_.Roster.Stations.length : Nat) : Int).toNat) ((tabR hsq (List.replicate ((w_.Roster.Stations.length : Nat) : Int).toNat (none : Option (List (Int × Bool))))).map (Kd.v kd_223)) 223 1::tabI kd_223 (tabR hsq (List.replicate ((w_.Roster.Stations.length : Nat) : Int).toNat (none : Option (List (Int × Bool)))))::.box b_1 [pq b_] 166::Lf) w := hc
 refine zA hf hc zr_222 rfl fun b_3 a w hf hc => zW hf hc sz_222 u0 rfl fun w hc => zT h ?_
 refine wp_seq_k fun K3 h3 => zS fun K h => zL hf hc sc_222 m0 rfl fun a w hf hc => zP hf rfl (pLenS Tryz.underlying222 rfl) fun a hf => sp 1 hf rfl fun a hf => zT h ?_
 refine wp_block ?_
 obtain ⟨x5,hx5,hF⟩ := bnd_some hF
 let S5 : (Int × (List (Option (List (Int × Bool))))) → Act → World → Prop := (fun (zz : Int × (List (Option (List (Int × Bool))))) a w => ∃ (p_1 : Option Addr) (tcq : TabH),Has 51 a [(1,pq b_1),(4,pq b_3),(18,i6 (((List.replicate ((w_.Roster.Stations.length : Nat) : Int).toNat (none : Option (List (Int × Bool)))).length : Nat) : Int)),(19,i6 zz.1)] ∧ Ctx G (.box b_3 [.slice p_1 zz.2.length tcq.1] 222::.row p_1 tcq.1 ((tabR tcq.2 zz.2).map (Kd.v kd_223)) 223 1::tabI kd_223 (tabR tcq.2 zz.2)::.box b_1 [pq b_] 166::Lf) w)
 have hr5 : ∀ (zz : Int × (List (Option (List (Int × Bool))))) a w,x5 = .go zz → S5 zz a w → K3 a w := by
  rintro ⟨x,x_1⟩ a w rfl ⟨p_1,tcq,hf,hc⟩
  replace hF := exK_go hF
  refine h3 _ _ ?_
  refine zS fun K h => stBS (rows := ([(-1)] : List Int).map encI_i64) (vs := [(0,i6 (-1))]) hf hc rfl rfl sl_25 rfl ⟨rfl,rfl,rfl,trivial⟩ rfl rfl fun b_4 a w hf hc => zL hf hc sc_166 m4 rfl fun a w hf hc => sp 1 hf rfl fun a hf => zP hf rfl (pFA fa_181_0 rfl) fun a hf => zP hf rfl (pFA fa_78_0 rfl) fun a hf => zE hf hc rfl (eLd1 sc_75 rfl (cell_pc (j := 0) h_w__pc rfl)) fun a w hf hc => zP hf rfl (pLenS Tryz.underlying75 rfl) fun a hf => ?_
  obtain ⟨r,hr,hF⟩ := bnd_some hF
  obtain ⟨G1,hle1,hrd1,hc,hth1⟩ := lend hc k0
  refine zC hf en_107 rfl (slices_Repeat_Lint_int_ok ([(-1)] : List Int) ((w_.Roster.People.length : Nat) : Int) hrd1 hc hr) ?_
  rintro _ w ⟨p_2,c_1,rfl,hc⟩
  refine ⟨_,rfl,fun a hf => ?_⟩
  replace hc := hth1 _ _ hc
  refine zA hf hc zr_25 rfl fun b_5 a w hf hc => zW hf hc sz_25 u0 rfl fun w hc => zT h ?_
  refine zS fun K h => zA hf hc zr_99 rfl fun b_6 a w hf hc => zT h ?_
  refine wp_seq_k fun K8 h8 => cReg ?_
  refine zA hf hc zr_213 rfl fun b_7 a w hf hc => cNil ?_
  replace hc := hc.drop k3
  refine h8 _ _ ?_
  refine zS fun K h => zP hf rfl (pMF (us := [pq b_1,pq b_6,pq b_5,pq b_3,pq b_7]) rfl rfl) fun a hf => zW hf hc sz_213 u0 rfl fun w hc => zT h ?_
  refine wp_seq_k fun K10 h10 => zS fun K h => zL hf hc sc_166 m7 rfl fun a w hf hc => sp 1 hf rfl fun a hf => zP hf rfl (pFA fa_181_0 rfl) fun a hf => zP hf rfl (pFA fa_78_0 rfl) fun a hf => zE hf hc rfl (eLd1 sc_75 rfl (cell_pc (j := 0) h_w__pc rfl)) fun a w hf hc => zP hf rfl (pLenS Tryz.underlying75 rfl) fun a hf => sp 1 hf rfl fun a hf => zT h ?_
  refine wp_block ?_
  obtain ⟨x12,hx12,hF⟩ := bnd_some hF
  let S12 : (Int × (List Int) × (List crew_Refusal) × (List (Option (List (Int × Bool))))) → Act → World → Prop := (fun (zz : Int × (List Int) × (List crew_Refusal) × (List (Option (List (Int × Bool))))) a w => ∃ (p_3 : Option Addr) (c_2 : Nat) (p_4 : Option Addr) (c_3 : Nat) (p_5 : Option Addr) (tcq_1 : TabH),Has 51 a [(6,pq b_5),(7,pq b_6),(8,pq b_7),(41,i6 ((w_.Roster.People.length : Nat) : Int)),(42,i6 zz.1)] ∧ Ctx G (.row p_4 c_3 (zz.2.2.1.map enc_crew_Refusal) 86 2::.box b_7 [.func (.func 163) #[] #[pq b_1,pq b_6,pq b_5,pq b_3,pq b_7]] 213::.box b_6 [.slice p_4 zz.2.2.1.length c_3] 99::.box b_5 [.slice p_3 zz.2.1.length c_2] 25::.row p_3 c_2 (zz.2.1.map encI_i64) 3 1::.box b_3 [.slice p_5 zz.2.2.2.length tcq_1.1] 222::.row p_5 tcq_1.1 ((tabR tcq_1.2 zz.2.2.2).map (Kd.v kd_223)) 223 1::tabI kd_223 (tabR tcq_1.2 zz.2.2.2)::.box b_1 [pq b_] 166::Lf) w)
  have hr12 : ∀ (zz : Int × (List Int) × (List crew_Refusal) × (List (Option (List (Int × Bool))))) a w,x12 = .go zz → S12 zz a w → K10 a w := by
   rintro ⟨x_2,x_3,x_4,x_5⟩ a w rfl ⟨p_3,c_2,p_4,c_3,p_5,tcq_1,hf,hc⟩
   replace hF := exK_go hF
   refine h10 _ _ ?_
   refine wp_seq_k fun K13 h13 => cQ hc follows_mx (by kernel_rfl) ?_
   refine qE hf rfl rfl rfl (eLd1 sc_25 rfl (cell_box m3 rfl)) fun a hf => qE hf rfl rfl rfl (eLd1 sc_99 rfl (cell_box m2 rfl)) fun a hf => qE hf rfl rfl rfl (Pu.ev (pA rfl)) fun a hf => qE hf rfl rfl rfl (Pu.ev (pA rfl)) fun a hf => ?_
   intro w hc
   replace hc := ((((((hc.drop k8).drop k7).drop k6).drop k5).drop k3).drop k2).drop k1
   refine h13 _ _ ?_
   refine wp_ret ?_
   obtain rfl := sj hF
   replace hc := (hc.pick k0).pick k1
   exact zO2 Tryz.results106 hf rfl rfl ⟨p_3,c_2,p_4,c_3,rfl,hc⟩
  have ho12 : ∀ r,x12 = .out r → r = res := by
   rintro r rfl
   exact sj hF
  replace hc := hc.nilRow 86 2
  refine cLoop N (loopW (S := S12) (x := x12) ?_ N (0,r,([] : List crew_Refusal),x_1) _ _ ⟨p_2,c_1,none,0,p_1,tcq,hf.kp rfl,hc⟩ hx12)
  clear hF hf hc
  rintro ⟨x_2,x_3,x_4,x_5⟩ st12 a w KB12 ⟨p_3,c_2,p_4,c_3,p_5,tcq_1,hf,hc⟩ hF hfin12 hK12
  unfold crew_work_settle_b12 at hF
  refine zS fun K h => sp 1 hf rfl fun a hf => zT h ?_
  refine wp_seq_k fun K15 h15 => zI hf rfl hF ?_ ?_ <;> clear hF <;> intro hF
  ·refine wp_skip ?_
   refine h15 _ _ ?_
   refine wp_seq_k fun K16 h16 => wp_block ?_
   refine zS fun K h => sp 2 hf rfl fun a hf => zT h ?_
   refine cReg ?_
   refine zL hf hc sc_213 m1 rfl fun a w hf hc => sp 1 hf rfl fun a hf => ?_
   obtain ⟨r_1,hr_1,hF⟩ := bnd_some hF
   refine zC hf en_163 rfl (crew_work_settle_1_ok x_2 w_ x_4 x_3 x_5 h_w__Roster_People h_w__Roster_Stations h_w__pc (((((((((hc.pick k1).pick k7).pick k7).pick k7).pick k7).pick k7).pick k6).pick k7).pick k8) hr_1) ?_
   rintro _ w ⟨p_6,c_4,p_7,c_5,p_8,tcq_2,rfl,hc⟩
   refine ⟨_,rfl,fun a hf => ?_⟩
   refine cNil ?_
   refine h16 _ _ ?_
   refine cReg ?_
   refine sp 2 hf rfl fun a hf => cNil ?_
   replace hc := ((((((((hc.pick k4).pick k4).pick k4).pick k7).pick k5).pick k7).pick k7).pick k8).pick k8
   exact hK12 (W (x_2 + 1),r_1.2.1,r_1.1,r_1.2.2) _ _ (sj hF).symm ⟨p_7,c_5,p_6,c_4,p_8,tcq_2,hf.kp rfl,hc⟩
  ·refine wp_exit ?_
   refine xThen ?_
   refine xThen ?_
   have he := sj hF
   rw [← he] at hfin12
   refine cHit ?_
   exact hr12 _ _ _ hfin12 ⟨p_3,c_2,p_4,c_3,p_5,tcq_1,hf.kp rfl,hc⟩
 have ho5 : ∀ r,x5 = .out r → r = res := by
  rintro r rfl
  exact sj hF
 refine cLoop N (loopW (S := S5) (x := x5) ?_ N (0,(List.replicate ((w_.Roster.Stations.length : Nat) : Int).toNat (none : Option (List (Int × Bool))))) _ _ ⟨(some ⟨b_2,0,none⟩),(((w_.Roster.Stations.length : Nat) : Int).toNat,hsq),hf.kp rfl,hc⟩ hx5)
 clear hF hf hc
 rintro ⟨x,x_1⟩ st5 a w KB5 ⟨p_1,tcq,hf,hc⟩ hF hfin5 hK5
 unfold crew_work_settle_b5 at hF
 refine zS fun K h => sp 1 hf rfl fun a hf => zT h ?_
 refine wp_seq_k fun K19 h19 => zI hf rfl hF ?_ ?_ <;> clear hF <;> intro hF
 ·refine wp_skip ?_
  refine h19 _ _ ?_
  refine wp_seq_k fun K20 h20 => wp_block ?_
  refine zS fun K h => sp 2 hf rfl fun a hf => zT h ?_
  refine cReg ?_
  refine zL hf hc sc_222 m0 rfl fun a w hf hc => sp 1 hf rfl fun a hf => stAM (enc := Value.bool) hf hc rfl rfl fun mb a w hf hc => ?_
  obtain ⟨e_1,he_1,hF⟩ := bnd_some hF
  obtain ⟨g,rfl,qa,qr⟩ := row_atm hc m2 (tabR_getI he_1)
  refine zP hf rfl (pIA Tryz.underlying222 sz_223 rfl rfl (At.len qa (by simp only [tabR_len,List.length_set]))) fun a hf => ?_
  replace hc := (tab_out (hc.pick k3) he_1).tail
  replace hc : Ctx G (tabI kd_223 ((tabR tcq.2 x_1).eraseIdx x.toNat)::.gm mb (ALq Value.bool ([] : List (Int × Bool)))::.box b_3 [.slice (some ⟨g,0,none⟩) x_1.length tcq.1] 222::.row (some ⟨g,0,none⟩) tcq.1 ((tabR tcq.2 x_1).map (Kd.v kd_223)) 223 1::.box b_1 [pq b_] 166::Lf) w := hc
  refine stRw (vs := [.map (some mb)]) (o' := 0) (z := ((none,mb),(some ([] : List (Int × Bool))))) (xs := (tabR tcq.2 x_1)) hf hc rfl rfl rfl rfl sz_223 rfl (fun x => (one_kd_223 x).1) (getI_lt (tabR_getI he_1)) (fun e _ => splW (one_kd_223 e).1) rfl u3 fun w hc => ?_
  replace hc := (((hc.pick k2).pick k1).pick k3).pick k3
  obtain ⟨hsq_1,hc⟩ := tab_store (K := kd_223) (h' := (none,mb)) (y := (some ([] : List (Int × Bool)))) he_1 hc
  replace hc : Ctx G (.row (some ⟨g,0,none⟩) tcq.1 ((tabR hsq_1 (x_1.set x.toNat (some ([] : List (Int × Bool))))).map (Kd.v kd_223)) 223 1::tabI kd_223 (tabR hsq_1 (x_1.set x.toNat (some ([] : List (Int × Bool)))))::.box b_3 [.slice (some ⟨g,0,none⟩) x_1.length tcq.1] 222::.box b_1 [pq b_] 166::Lf) w := hc
  refine cNil ?_
  refine h20 _ _ ?_
  refine cReg ?_
  refine sp 2 hf rfl fun a hf => cNil ?_
  replace hc : Ctx G (.row (some ⟨g,0,none⟩) tcq.1 ((tabR hsq_1 (x_1.set x.toNat (some ([] : List (Int × Bool))))).map (Kd.v kd_223)) 223 1::tabI kd_223 (tabR hsq_1 (x_1.set x.toNat (some ([] : List (Int × Bool)))))::.box b_3 [.slice (some ⟨g,0,none⟩) ((x_1.set x.toNat (some ([] : List (Int × Bool)))).length) tcq.1] 222::.box b_1 [pq b_] 166::Lf) w := by simp only [List.length_set] at hc ⊢; exact hc
  replace hc := ((hc.pick k1).pick k1).pick k2
  exact hK5 (W (x + 1),(x_1.set x.toNat (some ([] : List (Int × Bool))))) _ _ (sj hF).symm ⟨(some ⟨g,0,none⟩),(tcq.1,hsq_1),hf.kp rfl,hc⟩
 ·refine wp_exit ?_
  refine xThen ?_
  refine xThen ?_
  have he := sj hF
  rw [← he] at hfin5
  refine cHit ?_
  exact hr5 _ _ _ hfin5 ⟨p_1,tcq,hf.kp rfl,hc⟩

def crew_Assign (N : Nat) (r : crew_Roster) : Option ((List Int) × Int) :=
 Option.bind (crew_opened N r) (sumK (fun r_0 => cond (r_0 != 0)
 (some (([] : List Int),r_0))
 (none))
 (fun r_1 => cond (r_1.2 != 0)
 (some (([] : List Int),r_1.2))
 (Option.bind (crew_work_settle N (⟨r,r_1.1⟩ : crew_work)) fun r_2 =>
 some (r_2.1,0))))
theorem crew_Assign_ok {N : Nat} {G : Pers} {Lf : List Ent} {w : World} (r : crew_Roster) {r_People_p : Option Addr} {r_People_c : Nat} {r_Stations_p : Option Addr} {r_Stations_c : Nat} (h_r_People : RdT kd_25 G 1 r_People_p r_People_c r.People) (h_r_Stations : RdT kd_101 G 2 r_Stations_p r_Stations_c r.Stations) (hc : Ctx G (Lf) w) {res : (List Int) × Int} (hF : crew_Assign N r = some res) : Calls Tryz.prog 43 #[.agg #[.slice r_People_p r.People.length r_People_c,.slice r_Stations_p r.Stations.length r_Stations_c]] w (fun e w => ∃ (p'1 : Option Addr) (c'1 : Nat),e = .returned (.tuple #[.slice p'1 res.1.length c'1,i6 res.2]) ∧ Ctx G (.row p'1 c'1 (res.1.map encI_i64) 3 1::Lf) w) := by
 unfold crew_Assign at hF
 refine fnIn Tryz.func43 rfl Tryz.ntmps43 rfl fun a hf => zS fun K h => zB hf hc rfl fun b_1 a w hf hc => sp 2 hf rfl fun a hf => zT h ?_
 refine wp_seq_k fun K2 h2 => cReg ?_
 refine zN hf hc ag_78 m0 rfl fun a w hf hc => ?_
 obtain ⟨r_0,hr_0,hF⟩ := bnd_some hF
 cases r_0 with
 | inl r_0 =>
  replace hF := sumKl hF
  refine zC hf en_105 rfl (crew_opened_ok r h_r_People h_r_Stations hc hr_0) ?_
  rintro _ w ⟨rfl,hc⟩
  refine ⟨_,rfl,fun a hf => ?_⟩
  refine sp 5 hf rfl fun a hf => cNil ?_
  refine h2 _ _ ?_
  refine wp_seq_k fun K3 h3 => zS fun K h => sp 2 hf rfl fun a hf => zT h ?_
  refine zI hf rfl hF ?_ ?_ <;> clear hF <;> intro hF
  ·refine zS fun K h => sp 3 hf rfl fun a hf => zT h ?_
   refine wp_ret ?_
   refine xThenR ?_
   obtain rfl := sj hF
   replace hc := hc.nilRow 3 1
   replace hc := hc.drop k1
   exact zO2 Tryz.results43 hf rfl rfl ⟨none,0,rfl,hc⟩
  ·refine wp_skip ?_
   refine h3 _ _ ?_
   refine wp_seq_k fun K6 h6 => noneO hF
 | inr r_1 =>
  replace hF := sumKr hF
  have hr_1 := hr_0
  refine zC hf en_105 rfl (crew_opened_ok r h_r_People h_r_Stations hc hr_1) ?_
  rintro _ w ⟨b_2,rfl,hc⟩
  refine ⟨_,rfl,fun a hf => ?_⟩
  refine sp 5 hf rfl fun a hf => cNil ?_
  obtain ⟨G,hle_fz,pc_fz,hc,-⟩ := lendB hc k0
  replace pc_fz := pc_of pc_fz
  refine h2 _ _ ?_
  refine wp_seq_k fun K7 h7 => zS fun K h => sp 2 hf rfl fun a hf => zT h ?_
  refine zI hf rfl hF ?_ ?_ <;> clear hF <;> intro hF
  ·refine zS fun K h => sp 3 hf rfl fun a hf => zT h ?_
   refine wp_ret ?_
   refine xThenR ?_
   obtain rfl := sj hF
   replace hc := hc.down hle_fz
   replace hc := hc.nilRow 3 1
   replace hc := hc.drop k1
   exact zO2 Tryz.results43 hf rfl rfl ⟨none,0,rfl,hc⟩
  ·refine wp_skip ?_
   refine h7 _ _ ?_
   refine zS fun K h => sp 1 hf rfl fun a hf => ?_
   obtain ⟨r_2,hr_2,hF⟩ := bnd_some hF
   refine zC hf en_106 rfl (crew_work_settle_ok (⟨r,r_1.1⟩ : crew_work) (h_r_People.mono hle_fz) (h_r_Stations.mono hle_fz) pc_fz hc hr_2) ?_
   rintro _ w ⟨p_1,c_1,p_2,c_2,rfl,hc⟩
   refine ⟨_,rfl,fun a hf => ?_⟩
   refine sp 5 hf rfl fun a hf => zT h ?_
   refine zS fun K h => sp 3 hf rfl fun a hf => zT h ?_
   refine wp_ret ?_
   obtain rfl := sj hF
   replace hc := hc.down hle_fz
   replace hc := (hc.drop k2).drop k1
   exact zO2 Tryz.results43 hf rfl rfl ⟨p_1,c_1,rfl,hc⟩

def crew_Blocks_1 (s_ : Int) (x : crew_Roster) : Bool :=
 (crew_in s_ (-1) (W (((x.Stations.length : Nat) : Int) - 1)))
theorem crew_Blocks_1_ok {G : Pers} {Lf : List Ent} {w : World} (s_ : Int) (x : crew_Roster) {b_ : Nat} {x_People_p : Option Addr} {x_People_c : Nat} {x_Stations_p : Option Addr} {x_Stations_c : Nat} (h_x_People : RdT kd_25 G 1 x_People_p x_People_c x.People) (h_x_Stations : RdT kd_101 G 2 x_Stations_p x_Stations_c x.Stations) (hc : Ctx G (.box b_ [.slice x_People_p x.People.length x_People_c,.slice x_Stations_p x.Stations.length x_Stations_c] 78::Lf) w) {res : Bool} (hF : crew_Blocks_1 s_ x = res) : Calls Tryz.prog 108 #[i6 s_,pq b_] w (fun e w => e = .returned (.bool res) ∧ Ctx G (.box b_ [.slice x_People_p x.People.length x_People_c,.slice x_Stations_p x.Stations.length x_Stations_c] 78::Lf) w) := by
 unfold crew_Blocks_1 at hF
 refine fnIn Tryz.func108 rfl Tryz.ntmps108 rfl fun a hf => zS fun K h => sp 1 hf rfl fun a hf => zT h ?_
 refine zS fun K h => sp 1 hf rfl fun a hf => zP hf rfl (pFA fa_78_1 rfl) fun a hf => zL hf hc sc_76 m0 rfl fun a w hf hc => zP hf rfl (pLenS Tryz.underlying76 rfl) fun a hf => sp 1 hf rfl fun a hf => zQ (v := .bool (crew_in s_ (-1) (W (((x.Stations.length : Nat) : Int) - 1)))) hf hc en_86 rfl (fun w hc => crew_in_ok s_ (-1) (W (((x.Stations.length : Nat) : Int) - 1)) hc rfl) fun a w hf hc => sp 1 hf rfl fun a hf => zT h ?_
 refine wp_ret ?_
 obtain rfl := hF
 exact zO1 Tryz.results108 hf rfl ⟨rfl,hc⟩

def crew_every_int_1_s3 (x : Int) (x_1 : crew_Roster) : Bool :=
 (!(crew_Blocks_1 x x_1))
theorem crew_every_int_1_s3_ok {G : Pers} {Lf : List Ent} {w : World} (x : Int) (x_1 : crew_Roster) {b_ : Nat} {b__1 : Nat} {x_1_People_p : Option Addr} {x_1_People_c : Nat} {x_1_Stations_p : Option Addr} {x_1_Stations_c : Nat} (h_x_1_People : RdT kd_25 G 1 x_1_People_p x_1_People_c x_1.People) (h_x_1_Stations : RdT kd_101 G 2 x_1_Stations_p x_1_Stations_c x_1.Stations) (hc : Ctx G (.box b_ [.func (.func 108) #[] #[pq b__1]] 143::.box b__1 [.slice x_1_People_p x_1.People.length x_1_People_c,.slice x_1_Stations_p x_1.Stations.length x_1_Stations_c] 78::Lf) w) {res : Bool} (hF : crew_every_int_1_s3 x x_1 = res) : Calls Tryz.prog 157 #[i6 x,pq b_] w (fun e w => e = .returned (.bool res) ∧ Ctx G (.box b_ [.func (.func 108) #[] #[pq b__1]] 143::.box b__1 [.slice x_1_People_p x_1.People.length x_1_People_c,.slice x_1_Stations_p x_1.Stations.length x_1_Stations_c] 78::Lf) w) := by
 unfold crew_every_int_1_s3 at hF
 refine fnIn Tryz.func157 rfl Tryz.ntmps157 rfl fun a hf => zS fun K h => sp 1 hf rfl fun a hf => zT h ?_
 refine zS fun K h => zL hf hc sc_143 m0 rfl fun a w hf hc => sp 1 hf rfl fun a hf => zQ (v := .bool (crew_Blocks_1 x x_1)) hf hc en_108 rfl (fun w hc => (crew_Blocks_1_ok x x_1 h_x_1_People h_x_1_Stations (hc.pick k1) rfl).mono fun e w h => ⟨h.1,(h.2.unpick k1)⟩) fun a w hf hc => sp 2 hf rfl fun a hf => zT h ?_
 refine wp_ret ?_
 obtain rfl := hF
 exact zO1 Tryz.results157 hf rfl ⟨rfl,hc⟩

def slices_IndexFunc_Lint_int_s4_b4 (N : Nat) (s_ : List Int) (f_ : crew_Roster) (x : Int) : Option (Step (Int) (Int)) :=
 cond (decide (x < ((s_.length : Nat) : Int)))
 (Option.bind (getI s_ x) fun e_1 =>
 cond (crew_every_int_1_s3 e_1 f_)
 (some (.ret x))
 (some (.cont (W (x + 1)))))
 (some (.brk x))
def slices_IndexFunc_Lint_int_s4 (N : Nat) (s_ : List Int) (f_ : crew_Roster) : Option (Int) :=
 Option.bind (loopO (fun s4 => slices_IndexFunc_Lint_int_s4_b4 N s_ f_ s4) N 0) fun x4 =>
 exK x4 (fun s4 => some (-1)) some
theorem slices_IndexFunc_Lint_int_s4_ok {N : Nat} {G : Pers} {Lf : List Ent} {w : World} (s_ : List Int) (f_ : crew_Roster) {s__p : Option Addr} {s__c : Nat} {b_ : Nat} {b__1 : Nat} {f__People_p : Option Addr} {f__People_c : Nat} {f__Stations_p : Option Addr} {f__Stations_c : Nat} (h_s_ : Rd G 1 s__p s__c (s_.map encI_i64)) (h_f__People : RdT kd_25 G 1 f__People_p f__People_c f_.People) (h_f__Stations : RdT kd_101 G 2 f__Stations_p f__Stations_c f_.Stations) (hc : Ctx G (.box b_ [.func (.func 108) #[] #[pq b__1]] 143::.box b__1 [.slice f__People_p f_.People.length f__People_c,.slice f__Stations_p f_.Stations.length f__Stations_c] 78::Lf) w) {res : Int} (hF : slices_IndexFunc_Lint_int_s4 N s_ f_ = some res) : Calls Tryz.prog 97 #[.slice s__p s_.length s__c,.func (.func 157) #[] #[pq b_]] w (fun e w => e = .returned (i6 res) ∧ Ctx G (.box b_ [.func (.func 108) #[] #[pq b__1]] 143::.box b__1 [.slice f__People_p f_.People.length f__People_c,.slice f__Stations_p f_.Stations.length f__Stations_c] 78::Lf) w) := by
 unfold slices_IndexFunc_Lint_int_s4 at hF
 refine fnIn Tryz.func97 rfl Tryz.ntmps97 rfl fun a hf => zS fun K h => sp 1 hf rfl fun a hf => zT h ?_
 refine wp_seq_k fun K2 h2 => zS fun K h => sp 1 hf rfl fun a hf => zP hf rfl (pLenS Tryz.underlying25 rfl) fun a hf => sp 1 hf rfl fun a hf => zT h ?_
 refine wp_block ?_
 obtain ⟨x4,hx4,hF⟩ := bnd_some hF
 let S4 : Int → Act → World → Prop := (fun (zz : Int) a w => Has 19 a [(0,.slice s__p s_.length s__c),(1,.func (.func 157) #[] #[pq b_]),(7,i6 ((s_.length : Nat) : Int)),(8,i6 zz)] ∧ Ctx G (.box b_ [.func (.func 108) #[] #[pq b__1]] 143::.box b__1 [.slice f__People_p f_.People.length f__People_c,.slice f__Stations_p f_.Stations.length f__Stations_c] 78::Lf) w)
 have hr4 : ∀ (zz : Int) a w,x4 = .go zz → S4 zz a w → K2 a w := by
  rintro x a w rfl ⟨hf,hc⟩
  replace hF := exK_go hF
  refine h2 _ _ ?_
  refine zS fun K h => sp 1 hf rfl fun a hf => zT h ?_
  refine wp_ret ?_
  obtain rfl := sj hF
  exact zO1 Tryz.results97 hf rfl ⟨rfl,hc⟩
 have ho4 : ∀ r,x4 = .out r → r = res := by
  rintro r rfl
  exact sj hF
 refine cLoop N (loopW (S := S4) (x := x4) ?_ N 0 _ _ ⟨hf.kp rfl,hc⟩ hx4)
 clear hF hf hc
 rintro x st4 a w KB4 ⟨hf,hc⟩ hF hfin4 hK4
 unfold slices_IndexFunc_Lint_int_s4_b4 at hF
 refine zS fun K h => sp 1 hf rfl fun a hf => zT h ?_
 refine wp_seq_k fun K7 h7 => zI hf rfl hF ?_ ?_ <;> clear hF <;> intro hF
 ·refine wp_skip ?_
  refine h7 _ _ ?_
  refine wp_seq_k fun K8 h8 => wp_block ?_
  refine zS fun K h => sp 2 hf rfl fun a hf => zT h ?_
  refine zS fun K h => sp 3 hf rfl fun a hf => ?_
  obtain ⟨e_1,he_1,hF⟩ := bnd_some hF
  obtain ⟨b_1,o,qa,qp⟩ := h_s_.atm he_1
  refine zP hf rfl (pIA Tryz.underlying25 sz_3 rfl rfl qa) fun a hf => zE hf hc rfl (eLd1 sc_3 rfl (cell_pc (j := 0) qp rfl)) fun a w hf hc => zQ (v := .bool (crew_every_int_1_s3 e_1 f_)) hf hc en_157 rfl (fun w hc => (crew_every_int_1_s3_ok e_1 f_ h_f__People h_f__Stations ((hc.pick k1).pick k1) rfl).mono fun e w h => ⟨h.1,((h.2.unpick k1).unpick k1)⟩) fun a w hf hc => zT h ?_
  refine zI hf rfl hF ?_ ?_ <;> clear hF <;> intro hF
  ·refine zS fun K h => sp 2 hf rfl fun a hf => zT h ?_
   refine wp_ret ?_
   refine xBlkR ?_
   refine xThenR ?_
   refine xThenR ?_
   have he := sj hF
   rw [← he] at hfin4
   replace hF := ho4 _ hfin4
   refine xBlkR ?_
   refine xThenR ?_
   obtain rfl := hF
   exact zO1 Tryz.results97 hf rfl ⟨rfl,hc⟩
  ·refine wp_skip ?_
   refine h8 _ _ ?_
   refine cReg ?_
   refine sp 2 hf rfl fun a hf => cNil ?_
   exact hK4 (W (x + 1)) _ _ (sj hF).symm ⟨hf.kp rfl,hc⟩
 ·refine wp_exit ?_
  refine xThen ?_
  refine xThen ?_
  have he := sj hF
  rw [← he] at hfin4
  refine cHit ?_
  exact hr4 _ _ _ hfin4 ⟨hf.kp rfl,hc⟩

def slices_ContainsFunc_Lint_int_s4 (N : Nat) (s_ : List Int) (f_ : crew_Roster) : Option (Bool) :=
 Option.bind (slices_IndexFunc_Lint_int_s4 N s_ f_) fun r =>
 some (decide (0 ≤ r))
theorem slices_ContainsFunc_Lint_int_s4_ok {N : Nat} {G : Pers} {Lf : List Ent} {w : World} (s_ : List Int) (f_ : crew_Roster) {s__p : Option Addr} {s__c : Nat} {b_ : Nat} {b__1 : Nat} {f__People_p : Option Addr} {f__People_c : Nat} {f__Stations_p : Option Addr} {f__Stations_c : Nat} (h_s_ : Rd G 1 s__p s__c (s_.map encI_i64)) (h_f__People : RdT kd_25 G 1 f__People_p f__People_c f_.People) (h_f__Stations : RdT kd_101 G 2 f__Stations_p f__Stations_c f_.Stations) (hc : Ctx G (.box b_ [.func (.func 108) #[] #[pq b__1]] 143::.box b__1 [.slice f__People_p f_.People.length f__People_c,.slice f__Stations_p f_.Stations.length f__Stations_c] 78::Lf) w) {res : Bool} (hF : slices_ContainsFunc_Lint_int_s4 N s_ f_ = some res) : Calls Tryz.prog 113 #[.slice s__p s_.length s__c,.func (.func 157) #[] #[pq b_]] w (fun e w => e = .returned (.bool res) ∧ Ctx G (.box b_ [.func (.func 108) #[] #[pq b__1]] 143::.box b__1 [.slice f__People_p f_.People.length f__People_c,.slice f__Stations_p f_.Stations.length f__Stations_c] 78::Lf) w) := by
 unfold slices_ContainsFunc_Lint_int_s4 at hF
 refine fnIn Tryz.func113 rfl Tryz.ntmps113 rfl fun a hf => zS fun K h => sp 1 hf rfl fun a hf => zT h ?_
 refine zS fun K h => sp 2 hf rfl fun a hf => ?_
 obtain ⟨r,hr,hF⟩ := bnd_some hF
 refine zQ (v := i6 r) hf hc en_97 rfl (fun w hc => (slices_IndexFunc_Lint_int_s4_ok s_ f_ h_s_ h_f__People h_f__Stations ((hc.pick k1).pick k1) hr).mono fun e w h => ⟨h.1,((h.2.unpick k1).unpick k1)⟩) fun a w hf hc => sp 2 hf rfl fun a hf => zT h ?_
 refine wp_ret ?_
 obtain rfl := sj hF
 exact zO1 Tryz.results113 hf rfl ⟨rfl,hc⟩

def crew_every_int_s3 (N : Nat) (l : List Int) (so : crew_Roster) : Option (Bool) :=
 Option.bind (slices_ContainsFunc_Lint_int_s4 N l so) fun r =>
 some (!r)
theorem crew_every_int_s3_ok {N : Nat} {G : Pers} {Lf : List Ent} {w : World} (l : List Int) (so : crew_Roster) {l_p : Option Addr} {l_c : Nat} {b_ : Nat} {so_People_p : Option Addr} {so_People_c : Nat} {so_Stations_p : Option Addr} {so_Stations_c : Nat} (h_l : Rd G 1 l_p l_c (l.map encI_i64)) (h_so_People : RdT kd_25 G 1 so_People_p so_People_c so.People) (h_so_Stations : RdT kd_101 G 2 so_Stations_p so_Stations_c so.Stations) (hc : Ctx G (.box b_ [.slice so_People_p so.People.length so_People_c,.slice so_Stations_p so.Stations.length so_Stations_c] 78::Lf) w) {res : Bool} (hF : crew_every_int_s3 N l so = some res) : Calls Tryz.prog 87 #[.slice l_p l.length l_c,.func (.func 108) #[] #[pq b_]] w (fun e w => e = .returned (.bool res) ∧ Ctx G (.box b_ [.slice so_People_p so.People.length so_People_c,.slice so_Stations_p so.Stations.length so_Stations_c] 78::Lf) w) := by
 unfold crew_every_int_s3 at hF
 refine fnIn Tryz.func87 rfl Tryz.ntmps87 rfl fun a hf => zS fun K h => zB hf hc rfl fun b_1 a w hf hc => sp 1 hf rfl fun a hf => zT h ?_
 refine zS fun K h => sp 1 hf rfl fun a hf => zP hf rfl (pMF (us := [pq b_1]) rfl rfl) fun a hf => ?_
 obtain ⟨r,hr,hF⟩ := bnd_some hF
 refine zQ (v := .bool r) hf hc en_113 rfl (fun w hc => (slices_ContainsFunc_Lint_int_s4_ok l so h_l h_so_People h_so_Stations ((hc.pick k1).pick k1) hr).mono fun e w h => ⟨h.1,((h.2.unpick k1).unpick k1)⟩) fun a w hf hc => sp 2 hf rfl fun a hf => zT h ?_
 refine wp_ret ?_
 obtain rfl := sj hF
 replace hc := hc.drop k0
 exact zO1 Tryz.results87 hf rfl ⟨rfl,hc⟩

def crew_work_has_j9 (N : Nat) (x : Int) (x_2 : List (List Int)) : Option (Step (Int × (List (List Int))) ((List (List Int)))) :=
 some (.cont (W (x + 1),x_2))
def crew_work_has_b5 (N : Nat) (assignment : List Int) (x : Int) (x_1 : List (List Int)) : Option (Step (Int × (List (List Int))) ((List (List Int)))) :=
 cond (decide (x < ((assignment.length : Nat) : Int)))
 (Option.bind (getI assignment x) fun e_1 =>
 cond (e_1 != (-1))
 (Option.bind (inR e_1 12) fun un_1 =>
 Option.bind (getI x_1 e_1) fun e_2 =>
 Option.bind (room ((e_2 ++ [x])).length) fun un_2 =>
 Option.bind (inR e_1 12) fun un_3 =>
 Option.bind (getI x_1 e_1) fun e_3 =>
 crew_work_has_j9 N x (x_1.set e_1.toNat (e_2 ++ [x])))
 (crew_work_has_j9 N x x_1))
 (some (.brk (x,x_1)))
def crew_work_has (N : Nat) (assignment : List Int) : Option ((List (List Int))) :=
 Option.bind (loopO (fun s5 => crew_work_has_b5 N assignment s5.1 s5.2) N (0,(List.replicate 12 ([] : List Int)))) fun x5 =>
 exK x5 (fun s5 => Option.bind (isLen 12 s5.2) fun un =>
 some s5.2) some
theorem crew_work_has_ok {N : Nat} {G : Pers} {Lf : List Ent} {w : World} (assignment : List Int) {assignment_p : Option Addr} {assignment_c : Nat} (h_assignment : Rd G 1 assignment_p assignment_c (assignment.map encI_i64)) (hc : Ctx G (Lf) w) {res : (List (List Int))} (hF : crew_work_has N assignment = some res) : Calls Tryz.prog 109 #[.pointer none,.slice assignment_p assignment.length assignment_c] w (fun e w => ∃ (hsq'1 : Hds),e = .returned (.agg ((tabR hsq'1 res).map (Kd.v kd_25)).flatten.toArray) ∧ Ctx G (tabI kd_25 (tabR hsq'1 res)::Lf) w) := by
 unfold crew_work_has at hF
 refine fnIn Tryz.func109 rfl Tryz.ntmps109 rfl fun a hf => zS fun K h => zA hf hc zr_172 rfl fun b_1 a w hf hc => zT h ?_
 refine zS fun K h => zA hf hc zr_172 rfl fun b_2 a w hf hc => ?_
 obtain ⟨hsq,hc⟩ := tab_arr (K := kd_25) (x := ([] : List Int)) (n := 12) (fun _ h => h.nilRow _ _) one_kd_25 rfl rfl hc
 replace hc : Ctx G (.row (some ⟨b_2,0,none⟩) 12 ((tabR hsq (List.replicate 12 ([] : List Int))).map (Kd.v kd_25)) 172 1::tabI kd_25 (tabR hsq (List.replicate 12 ([] : List Int)))::.box b_1 [.slice none 0 0,.slice none 0 0,.slice none 0 0,.slice none 0 0,.slice none 0 0,.slice none 0 0,.slice none 0 0,.slice none 0 0,.slice none 0 0,.slice none 0 0,.slice none 0 0,.slice none 0 0] 172::Lf) w := hc
 refine zT h ?_
 refine wp_seq_k fun K3 h3 => zS fun K h => sp 1 hf rfl fun a hf => zP hf rfl (pLenS Tryz.underlying25 rfl) fun a hf => sp 1 hf rfl fun a hf => zT h ?_
 refine wp_block ?_
 obtain ⟨x5,hx5,hF⟩ := bnd_some hF
 let S5 : (Int × (List (List Int))) → Act → World → Prop := (fun (zz : Int × (List (List Int))) a w => ∃ (tcq : TabH),Has 27 a [(4,pq b_1),(5,pq b_2),(8,.slice assignment_p assignment.length assignment_c),(9,i6 ((assignment.length : Nat) : Int)),(10,i6 zz.1)] ∧ Ctx G (.row (some ⟨b_2,0,none⟩) tcq.1 ((tabR tcq.2 zz.2).map (Kd.v kd_25)) 172 1::tabI kd_25 (tabR tcq.2 zz.2)::.box b_1 [.slice none 0 0,.slice none 0 0,.slice none 0 0,.slice none 0 0,.slice none 0 0,.slice none 0 0,.slice none 0 0,.slice none 0 0,.slice none 0 0,.slice none 0 0,.slice none 0 0,.slice none 0 0] 172::Lf) w)
 have hr5 : ∀ (zz : Int × (List (List Int))) a w,x5 = .go zz → S5 zz a w → K3 a w := by
  rintro ⟨x,x_1⟩ a w rfl ⟨tcq,hf,hc⟩
  replace hF := exK_go hF
  refine h3 _ _ ?_
  refine zS fun K h => ?_
  obtain ⟨un,hun,hF⟩ := bnd_some hF
  refine zE hf hc rfl (eLdN (vs := ((tabR tcq.2 x_1).map (Kd.v kd_25)).flatten) ag_172 rfl (tarr_len one_kd_25 hun) (cells_rowall m0)) fun a w hf hc => stStW (n := 12) (vs := ((tabR tcq.2 x_1).map (Kd.v kd_25)).flatten) hf hc rfl rfl rfl rfl sz_172 (tarr_len one_kd_25 hun) (tarr_one one_kd_25) rfl u2 fun w hc => zT h ?_
  refine wp_ret ?_
  obtain rfl := sj hF
  replace hc := hc.drop k0
  exact fnOut1 (by simp) rfl Tryz.results109 hf hc (rv_cellN (vs := ((tabR tcq.2 x_1).map (Kd.v kd_25)).flatten) ag_172 rfl (tarr_len one_kd_25 hun) (cells_box (n := 12) m1 (takeW (tarr_len one_kd_25 hun)))) ⟨tcq.2,rfl,(hc.drop k1)⟩
 have ho5 : ∀ r,x5 = .out r → r = res := by
  rintro r rfl
  exact sj hF
 refine cLoop N (loopW (S := S5) (x := x5) ?_ N (0,(List.replicate 12 ([] : List Int))) _ _ ⟨(12,hsq),hf.kp rfl,hc⟩ hx5)
 clear hF hf hc
 rintro ⟨x,x_1⟩ st5 a w KB5 ⟨tcq,hf,hc⟩ hF hfin5 hK5
 unfold crew_work_has_b5 at hF
 refine zS fun K h => sp 1 hf rfl fun a hf => zT h ?_
 refine wp_seq_k fun K8 h8 => zI hf rfl hF ?_ ?_ <;> clear hF <;> intro hF
 ·refine wp_skip ?_
  refine h8 _ _ ?_
  refine wp_seq_k fun K9 h9 => ?_
  have hj9 : ∀ (x_2 : List (List Int)) (tcq_1 : TabH) a w,Has 27 a [(4,pq b_1),(5,pq b_2),(8,.slice assignment_p assignment.length assignment_c),(9,i6 ((assignment.length : Nat) : Int)),(10,i6 x)] → Ctx G (.row (some ⟨b_2,0,none⟩) tcq_1.1 ((tabR tcq_1.2 x_2).map (Kd.v kd_25)) 172 1::tabI kd_25 (tabR tcq_1.2 x_2)::.box b_1 [.slice none 0 0,.slice none 0 0,.slice none 0 0,.slice none 0 0,.slice none 0 0,.slice none 0 0,.slice none 0 0,.slice none 0 0,.slice none 0 0,.slice none 0 0,.slice none 0 0,.slice none 0 0] 172::Lf) w → crew_work_has_j9 N x x_2 = some st5 → K9 a w := by
   repeat (clear hF)
   repeat (clear hc)
   repeat (clear hf)
   intro x_2 tcq_1 a w hf hc hF
   unfold crew_work_has_j9 at hF
   refine h9 _ _ ?_
   refine cReg ?_
   refine sp 2 hf rfl fun a hf => cNil ?_
   exact hK5 (W (x + 1),x_2) _ _ (sj hF).symm ⟨tcq_1,hf.kp rfl,hc⟩
  refine wp_block ?_
  refine zS fun K h => sp 1 hf rfl fun a hf => ?_
  obtain ⟨e_1,he_1,hF⟩ := bnd_some hF
  obtain ⟨b_3,o,qa,qp⟩ := h_assignment.atm he_1
  refine zP hf rfl (pIA Tryz.underlying25 sz_3 rfl rfl qa) fun a hf => zE hf hc rfl (eLd1 sc_3 rfl (cell_pc (j := 0) qp rfl)) fun a w hf hc => sp 2 hf rfl fun a hf => zT h ?_
  refine zS fun K h => sp 2 hf rfl fun a hf => zT h ?_
  refine zI hf rfl hF ?_ ?_ <;> clear hF <;> intro hF
  ·refine cReg ?_
   refine sp 2 hf rfl fun a hf => ?_
   obtain ⟨un_1,hun_1,hF⟩ := bnd_some hF
   obtain ⟨e_2,he_2,hF⟩ := bnd_some hF
   obtain ⟨qa_1,qr⟩ := row_atk hc m0 (tabR_getI he_2)
   refine zP hf rfl (Pu.cast (pIAA Tryz.underlying172 sz_25 rfl rfl (inR_spec hun_1).1 (inR_spec hun_1).2) (congrArg (fun k => Value.pointer (some ⟨b_2,k,none⟩)) (Nat.zero_add _))) fun a hf => zE hf hc rfl (eLd1 sc_25 rfl (cell_row (sz := 1) (i := e_1.toNat) (j := 0) m0 qr rfl)) fun a w hf hc => sp 1 hf rfl fun a hf => stBS (rows := ([x] : List Int).map encI_i64) (vs := [(0,i6 x)]) hf hc rfl rfl sl_25 rfl ⟨rfl,rfl,rfl,trivial⟩ rfl rfl fun b_4 a w hf hc => ?_
   replace hc := tab_out (hc.pick k2) he_2
   replace hc : Ctx G (.row ((tcq.2 e_1.toNat).1) ((tcq.2 e_1.toNat).2) (e_2.map encI_i64) 3 1::tabI kd_25 ((tabR tcq.2 x_1).eraseIdx e_1.toNat)::.row (some ⟨b_4,0,none⟩) 1 (([x] : List Int).map encI_i64) 3 1::.row (some ⟨b_2,0,none⟩) tcq.1 ((tabR tcq.2 x_1).map (Kd.v kd_25)) 172 1::.box b_1 [.slice none 0 0,.slice none 0 0,.slice none 0 0,.slice none 0 0,.slice none 0 0,.slice none 0 0,.slice none 0 0,.slice none 0 0,.slice none 0 0,.slice none 0 0,.slice none 0 0,.slice none 0 0] 172::Lf) w := hc
   obtain ⟨un_2,hun_2,hF⟩ := bnd_some hF
   refine stApm (xs := e_2) (ys := ([x] : List Int)) hf hc rfl rfl sl_25 rfl rfl rfl rfl rfl one_encI_i64 (src_row hc m2) (fun _ _ => u0) (by simpa using room_spec hun_2) fun p_1 c_1 a w hf hc => ?_
   obtain ⟨un_3,hun_3,hF⟩ := bnd_some hF
   obtain ⟨e_3,he_3,hF⟩ := bnd_some hF
   obtain ⟨qa_2,qr_1⟩ := row_atk hc m3 (tabR_getI he_3)
   refine zP hf rfl (Pu.cast (pIAA Tryz.underlying172 sz_25 rfl rfl (inR_spec hun_3).1 (inR_spec hun_3).2) (congrArg (fun k => Value.pointer (some ⟨b_2,k,none⟩)) (Nat.zero_add _))) fun a hf => stRw (vs := [.slice p_1 ((e_2 ++ [x]).length) c_1]) (o' := 0) (z := ((p_1,c_1),(e_2 ++ [x]))) (xs := (tabR tcq.2 x_1)) hf hc rfl rfl rfl rfl sz_25 rfl (fun x => (one_kd_25 x).1) (getI_lt (tabR_getI he_3)) (fun e _ => splW (one_kd_25 e).1) rfl u3 fun w hc => ?_
   replace hc := (((hc.pick k2).pick k2).pick k3).pick k3
   obtain ⟨hsq_1,hc⟩ := tab_store (K := kd_25) (h' := (p_1,c_1)) (y := (e_2 ++ [x])) he_3 hc
   replace hc : Ctx G (.row (some ⟨b_2,0,none⟩) tcq.1 ((tabR hsq_1 (x_1.set e_1.toNat (e_2 ++ [x]))).map (Kd.v kd_25)) 172 1::tabI kd_25 (tabR hsq_1 (x_1.set e_1.toNat (e_2 ++ [x])))::.row (some ⟨b_4,0,none⟩) 1 (([x] : List Int).map encI_i64) 3 1::.box b_1 [.slice none 0 0,.slice none 0 0,.slice none 0 0,.slice none 0 0,.slice none 0 0,.slice none 0 0,.slice none 0 0,.slice none 0 0,.slice none 0 0,.slice none 0 0,.slice none 0 0,.slice none 0 0] 172::Lf) w := hc
   refine cNil ?_
   replace hc := hc.drop k2
   exact hj9 (x_1.set e_1.toNat (e_2 ++ [x])) (tcq.1,hsq_1) _ _  (hf.kp rfl) hc hF
  ·refine wp_skip ?_
   exact hj9 x_1 tcq _ _  (hf.kp rfl) hc hF
 ·refine wp_exit ?_
  refine xThen ?_
  refine xThen ?_
  have he := sj hF
  rw [← he] at hfin5
  refine cHit ?_
  exact hr5 _ _ _ hfin5 ⟨tcq,hf.kp rfl,hc⟩

end Go.Nilo
