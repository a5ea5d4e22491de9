/-
 What functions of the Go text compute, as plain functions, and that they do, part 2 of 3. Conditions: what each theorem names.
-/
import Derived.Test.YtakhbnnlhoninabDc1
import Derived.Test.YtakhbnnlhoninabProg
set_option linter.unusedVariables false
set_option linter.unusedSimpArgs false
set_option maxRecDepth 100000
set_option maxHeartbeats 4000000
namespace Go.Nilo
open Go.Proofs


def daily_opened_r13 (N : Nat) (r : daily_Record) (x_1 : List api_Span) (x_2 : List api_Span) (xv : Int) (xv_1 : Int) : Option (Rs ((List api_Span))) :=
 Option.bind (getI x_2 xv) fun e_1 =>
 Option.bind (getI x_2 xv) fun e_2 =>
 Option.bind (daily_opened_1 N xv_1 (W (e_1.Lo - r.Fall)) (W (e_2.Hi + r.Rise)) r.Rise r.Fall r.Days x_2) fun r_2 =>
 Option.bind (sameL r_2 x_1) fun _ =>
 some (.go r_2)
def daily_opened_r18 (N : Nat) (r : daily_Record) (x_2 : List api_Span) (x_3 : List api_Span) (xv_2 : Int) (xv_3 : Int) : Option (Rs ((List api_Span))) :=
 Option.bind (getI x_3 xv_2) fun e_3 =>
 Option.bind (getI x_3 xv_2) fun e_4 =>
 Option.bind (daily_opened_1 N xv_3 (W (e_3.Lo - r.Rise)) (W (e_4.Hi + r.Fall)) r.Rise r.Fall r.Days x_3) fun r_4 =>
 Option.bind (sameL r_4 x_2) fun _ =>
 some (.go r_4)
def daily_opened_b9 (N : Nat) (r : daily_Record) (x : Int) (x_1 : List api_Span) : Option (Step (Int × (List api_Span)) ((Bool × Int) ⊕ (Int × Int × (List api_Span) × Bool × Int))) :=
 cond (decide (x < ((r.Days.length : Nat) : Int)))
 (Option.bind (getI r.Days x) fun e_5 =>
 Option.bind (daily_Value_span N e_5) fun r_6 =>
 Option.bind (room ((x_1 ++ [r_6])).length) fun un =>
 some (.cont (W (x + 1),(x_1 ++ [r_6]))))
 (some (.brk (x,x_1)))
def daily_opened (N : Nat) (r : daily_Record) : Option ((Bool × Int) ⊕ (Int × Int × (List api_Span) × Bool × Int)) :=
 Option.bind (daily_Check N r) fun r_0 =>
 cond (r_0 != 0)
 (some (.inl (false,r_0)))
 (Option.bind (loopO (fun s9 => daily_opened_b9 N r s9.1 s9.2) N (0,([] : List api_Span))) fun x9 =>
 exK x9 (fun s9 => Option.bind (daily_work_pairs N (⟨r,s9.2⟩ : daily_work) false) fun r_1 =>
 Option.bind (daily_work_pairs_1 N r.Rise r.Fall r.Days r_1 (rY (fun (zz : (List api_Span)) (ix_ : (Int × Int)) => daily_opened_r13 N r s9.2 zz ix_.1 ix_.2)) (.go s9.2)) fun x13 =>
 rsK x13 (fun zz13 => Option.bind (daily_work_pairs N (⟨r,zz13⟩ : daily_work) true) fun r_3 =>
 Option.bind (daily_work_pairs_1 N r.Rise r.Fall r.Days r_3 (rY (fun (zz : (List api_Span)) (ix_ : (Int × Int)) => daily_opened_r18 N r zz13 zz ix_.1 ix_.2)) (.go zz13)) fun x18 =>
 rsK x18 (fun zz18 => Option.bind (daily_every_api_Span N zz18) fun r_5 =>
 some (.inr (r.Rise,r.Fall,zz18,r_5,0))) (fun zz18 => none)) (fun zz13 => none)) some)
theorem daily_opened_ok {N : Nat} {G : Pers} {Lf : List Ent} {w : World} (r : daily_Record) {r_Days_p : Option Addr} {r_Days_c : Nat} (h_r_Days : Rd G 3 r_Days_p r_Days_c (r.Days.map enc_daily_Value)) (hc : Ctx G (Lf) w) {res : (Bool × Int) ⊕ (Int × Int × (List api_Span) × Bool × Int)} (hF : daily_opened N r = some res) : Calls Try.prog 64 #[.agg #[i6 r.Rise,i6 r.Fall,.slice r_Days_p r.Days.length r_Days_c]] w (fun e w => sumK (fun rr => e = .returned (.tuple #[.pointer none,.bool rr.1,i6 rr.2]) ∧ Ctx G (Lf) w) (fun rr => ∃ (b'1 : Nat) (p'1 : Option Addr) (c'1 : Nat),e = .returned (.tuple #[pq b'1,.bool rr.2.2.2.1,i6 rr.2.2.2.2]) ∧ Ctx G (.row p'1 c'1 (rr.2.2.1.map enc_api_Span) 68 2::.box b'1 [i6 rr.1,i6 rr.2.1,.slice r_Days_p r.Days.length r_Days_c,.slice p'1 rr.2.2.1.length c'1] 95::Lf) w) res) := by
 unfold daily_opened at hF
 refine fnInM Try.func64 rfl Try.ntmps64 rfl fun a hf => zS fun K h => zB hf hc rfl fun b_1 a w hf hc => sp 3 hf rfl fun a hf => zT h ?_
 refine wp_seq_k fun K2 h2 => zS fun K h => zN hf hc ag_65 m0 rfl fun a w hf hc => ?_
 obtain ⟨r_0,hr_0,hF⟩ := bnd_some hF
 refine zQ (v := i6 r_0) hf hc en_40 rfl (fun w hc => daily_Check_ok r h_r_Days hc hr_0) fun a w hf hc => sp 1 hf rfl fun a hf => zT h ?_
 refine zS fun K h => sp 2 hf rfl fun a hf => zT h ?_
 refine zI hf rfl hF ?_ ?_ <;> clear hF <;> intro hF
 ·refine zS fun K h => sp 4 hf rfl fun a hf => zT h ?_
  refine wp_ret ?_
  refine xThenR ?_
  obtain rfl := sj hF
  replace hc := hc.drop k0
  refine outM hf ?_
  exact outM3 Try.results64 hf hc (show look _ 2 = _ from rfl) (show look _ 3 = _ from rfl) (show look _ 4 = _ from rfl) ⟨rfl,hc⟩
 ·refine wp_skip ?_
  refine h2 _ _ ?_
  refine zS fun K h => zN hf hc ag_65 m0 rfl fun a w hf hc => zP hf rfl (pBuildS (cells := [i6 r.Rise,i6 r.Fall,.slice r_Days_p r.Days.length r_Days_c,.slice none 0 0]) bt_95 rfl rfl) fun a hf => zB hf hc rfl fun b_2 a w hf hc => zA hf hc zr_91 rfl fun b_3 a w hf hc => zW hf hc sz_91 u0 rfl fun w hc => zT h ?_
  refine wp_seq_k fun K7 h7 => zS fun K h => zP hf rfl (pFA fa_65_2 rfl) fun a hf => zL hf hc sc_63 m2 rfl fun a w hf hc => zP hf rfl (pLenS Try.underlying63 rfl) fun a hf => sp 1 hf rfl fun a hf => zT h ?_
  refine wp_block ?_
  obtain ⟨x9,hx9,hF⟩ := bnd_some hF
  let S9 : (Int × (List api_Span)) → Act → World → Prop := (fun (zz : Int × (List api_Span)) a w => ∃ (p_1 : Option Addr) (c_1 : Nat),Has 118 a [(6,pq b_3),(23,.slice r_Days_p r.Days.length r_Days_c),(24,i6 ((r.Days.length : Nat) : Int)),(25,i6 zz.1)] ∧ Ctx G (.row p_1 c_1 (zz.2.map enc_api_Span) 68 2::.box b_3 [pq b_2] 91::.box b_2 [i6 r.Rise,i6 r.Fall,.slice r_Days_p r.Days.length r_Days_c,.slice p_1 zz.2.length c_1] 95::Lf) w)
  have hr9 : ∀ (zz : Int × (List api_Span)) a w,x9 = .go zz → S9 zz a w → K7 a w := by
   rintro ⟨x,x_1⟩ a w rfl ⟨p_1,c_1,hf,hc⟩
   replace hF := exK_go hF
   refine h7 _ _ ?_
   refine zS fun K h => zP hf rfl (pMF (us := [pq b_3]) rfl rfl) fun a hf => zA hf hc zr_141 rfl fun b_4 a w hf hc => zW hf hc sz_141 u0 rfl fun w hc => zT h ?_
   refine wp_seq_k fun K11 h11 => zS fun K h => zL hf hc sc_91 m2 rfl fun a w hf hc => ?_
   obtain ⟨r_1,hr_1,hF⟩ := bnd_some hF
   obtain ⟨G1,hle1,hrd1,hc,hth1⟩ := lend hc k1
   refine zC hf en_81 rfl (daily_work_pairs_ok (⟨r,x_1⟩ : daily_work) false (h_r_Days.mono hle1) hrd1 (hc.pick k2) hr_1) ?_
   rintro _ w ⟨b_5,b_6,rfl,hc⟩
   refine ⟨_,rfl,fun a hf => ?_⟩
   replace hc := hth1 _ _ hc
   refine zT h ?_
   obtain ⟨x13,hx13,hF⟩ := bnd_some hF
   replace hc := (((hc.pick k0).pick k3).pick k3).pick k3
   refine cRangeC (C := [.box b_5 [pq b_2] 91,.box b_6 [.bool r_1] 4]) (C2 := [.box b_5 [pq b_2] 91,.box b_6 [.bool r_1] 4]) (L0 := [.box b_2 [i6 r.Rise,i6 r.Fall,.slice r_Days_p r.Days.length r_Days_c,.slice p_1 x_1.length c_1] 95,.row p_1 c_1 (x_1.map enc_api_Span) 68 2,.box b_4 [.func (.func 80) #[] #[pq b_3]] 141,.box b_3 [pq b_2] 91]) (Lf := Lf) (encs := fun x : (Int × Int) => [i6 x.1,i6 x.2]) (fun (zz : (List api_Span)) L => zz.length = x_1.length ∧ L = [.box b_2 [i6 r.Rise,i6 r.Fall,.slice r_Days_p r.Days.length r_Days_c,.slice p_1 zz.length c_1] 95,.row p_1 c_1 (zz.map enc_api_Span) 68 2,.box b_4 [.func (.func 80) #[] #[pq b_3]] 141,.box b_3 [pq b_2] 91]) (fun (zz : (List api_Span)) (ix_ : (Int × Int)) => daily_opened_r13 N r x_1 zz ix_.1 ix_.2) x_1 x13 hf hc rfl en_88 (fun _ => rfl) rfl ⟨rfl,rfl⟩ ?_ ?_ ?_ ?_
   ·intro lq mq J L Lx w hy hQ hJ hc
    have hje_ : ∀ (zz : (List api_Span)) (M : List Ent),(fun (zz : (List api_Span)) L => zz.length = x_1.length ∧ L = [.box b_2 [i6 r.Rise,i6 r.Fall,.slice r_Days_p r.Days.length r_Days_c,.slice p_1 zz.length c_1] 95,.row p_1 c_1 (zz.map enc_api_Span) 68 2,.box b_4 [.func (.func 80) #[] #[pq b_3]] 141,.box b_3 [pq b_2] 91]) zz M → ∃ A B,M = A ++ (.box b_2 [i6 r.Rise,i6 r.Fall,.slice r_Days_p r.Days.length r_Days_c,.slice p_1 x_1.length c_1] 95::B) := by
     rintro x_2 _ ⟨hl,rfl⟩
     try rw [show _ = _ from hl]
     exact ⟨[],_,rfl⟩
    exact daily_work_pairs_1_ok r.Rise r.Fall r.Days r_1 h_r_Days J _ hy _ hJ (hQ _ hje_) hc hx13
   ·clear hF hf hc
    rintro lq mq x_2 ⟨xv,xv_1⟩ oq _ Lr Lb a w hK0 ⟨hl,rfl⟩ hF hf hc hK
    replace hf : Has 118 a [(6,pq b_3),(9,pq b_4),(44,i6 xv),(45,i6 xv_1)] := hf.kp rfl
    replace hc : Ctx G (.box b_2 [i6 r.Rise,i6 r.Fall,.slice r_Days_p r.Days.length r_Days_c,.slice p_1 x_2.length c_1] 95::.row p_1 c_1 (x_2.map enc_api_Span) 68 2::.box b_4 [.func (.func 80) #[] #[pq b_3]] 141::.box b_3 [pq b_2] 91::Lr) w := hc
    replace hF : daily_opened_r13 N r x_1 x_2 xv xv_1 = some oq := hF
    unfold daily_opened_r13 at hF
    refine rSeq fun K14 h14 => rReg (fun _ _ h => h) rfl ?_
    refine sp 1 hf rfl fun a hf => cNil ?_
    refine h14 _ _ ?_
    refine rReg (fun _ _ h => h) rfl ?_
    refine sp 1 hf rfl fun a hf => cNil ?_
    refine hK _ _ [.box b_2 [i6 r.Rise,i6 r.Fall,.slice r_Days_p r.Days.length r_Days_c,.slice p_1 x_2.length c_1] 95,.row p_1 c_1 (x_2.map enc_api_Span) 68 2,.box b_4 [.func (.func 80) #[] #[pq b_3]] 141,.box b_3 [pq b_2] 91] hc fun w hc => ?_
    replace hc : Ctx G (.box b_2 [i6 r.Rise,i6 r.Fall,.slice r_Days_p r.Days.length r_Days_c,.slice p_1 x_2.length c_1] 95::.row p_1 c_1 (x_2.map enc_api_Span) 68 2::.box b_4 [.func (.func 80) #[] #[pq b_3]] 141::.box b_3 [pq b_2] 91::Lb) w := hc
    refine rThenK fun K15 h15 => rBlock ?_
    obtain ⟨e_1,he_1,hF⟩ := bnd_some hF
    obtain ⟨g,rfl,qa,qr⟩ := row_atm hc m1 he_1
    obtain ⟨e_2,he_2,hF⟩ := bnd_some hF
    obtain ⟨qa_1,qr_1⟩ := row_atk hc m1 he_2
    obtain ⟨r_2,hr_2,hF⟩ := bnd_some hF
    refine rRegE (fun _ _ h => h) rfl (fun θ => (⟨none,none,6,pq b_3⟩::⟨none,none,9,pq b_4⟩::⟨none,none,10,i6 xv⟩::⟨none,none,11,i6 xv_1⟩::⟨some 0,none,46,.func (.func 80) #[] #[pq b_3]⟩::⟨some 1,none,47,i6 xv_1⟩::⟨some 2,none,48,pq b_2⟩::⟨some 3,none,49,pq b_2⟩::⟨some 4,none,50,.pointer (some ⟨b_2,3,none⟩)⟩::⟨some 5,none,51,.slice (some ⟨g,0,none⟩) x_2.length c_1⟩::⟨some 6,none,52,i6 xv⟩::⟨some 7,none,53,.pointer (some ⟨g,xv.toNat * 2,none⟩)⟩::⟨some 8,none,54,.pointer (some ⟨g,xv.toNat * 2 + 0,none⟩)⟩::⟨some 9,none,55,i6 e_1.Lo⟩::⟨some 10,none,56,pq b_2⟩::⟨some 11,none,57,pq b_2⟩::⟨some 12,none,58,pq b_2⟩::⟨some 13,none,59,.pointer (some ⟨b_2,1,none⟩)⟩::⟨some 14,none,60,i6 r.Fall⟩::⟨some 15,none,61,i6 (W (e_1.Lo - r.Fall))⟩::⟨some 16,none,62,pq b_2⟩::⟨some 17,none,63,pq b_2⟩::⟨some 18,none,64,.pointer (some ⟨b_2,3,none⟩)⟩::⟨some 19,none,65,.slice (some ⟨g,0,none⟩) x_2.length c_1⟩::⟨some 20,none,66,i6 xv⟩::⟨some 21,none,67,.pointer (some ⟨g,xv.toNat * 2,none⟩)⟩::⟨some 22,none,68,.pointer (some ⟨g,xv.toNat * 2 + 1,none⟩)⟩::⟨some 23,none,69,i6 e_2.Hi⟩::⟨some 24,none,70,pq b_2⟩::⟨some 25,none,71,pq b_2⟩::⟨some 26,none,72,pq b_2⟩::⟨some 27,none,73,pq b_2⟩::⟨some 28,none,74,i6 r.Rise⟩::⟨some 29,none,75,i6 (W (e_2.Hi + r.Rise))⟩::⟨some 30,none,76,.tuple #[]⟩::[])) (fun E θ => (bif E 30 then .box b_2 [i6 r.Rise,i6 r.Fall,.slice r_Days_p r.Days.length r_Days_c,.slice (some ⟨g,0,none⟩) r_2.length c_1] 95 else .box b_2 [i6 r.Rise,i6 r.Fall,.slice r_Days_p r.Days.length r_Days_c,.slice (some ⟨g,0,none⟩) x_2.length c_1] 95)::(bif E 30 then .row (some ⟨g,0,none⟩) c_1 (r_2.map enc_api_Span) 68 2 else .row (some ⟨g,0,none⟩) c_1 (x_2.map enc_api_Span) 68 2)::.box b_4 [.func (.func 80) #[] #[pq b_3]] 141::.box b_3 [pq b_2] 91::Lb) [(7,5),(8,7),(9,8),(15,9),(30,15),(15,14),(21,19),(22,21),(23,22),(29,23),(30,29),(29,28)] (fun a w => Has 118 a [(6,pq b_3),(9,pq b_4)] ∧ Ctx G (.box b_2 [i6 r.Rise,i6 r.Fall,.slice r_Days_p r.Days.length r_Days_c,.slice (some ⟨g,0,none⟩) r_2.length c_1] 95::.row (some ⟨g,0,none⟩) c_1 (r_2.map enc_api_Span) 68 2::.box b_4 [.func (.func 80) #[] #[pq b_3]] 141::.box b_3 [pq b_2] 91::Lb) w) follows_mx (by kernel_rfl) (by kernel_rfl) (HasE.of hf ⟨rfl,rfl,rfl,rfl,trivial,trivial,trivial,trivial,trivial,trivial,trivial,trivial,trivial,trivial,trivial,trivial,trivial,trivial,trivial,trivial,trivial,trivial,trivial,trivial,trivial,trivial,trivial,trivial,trivial,trivial,trivial,trivial,trivial,trivial,trivial,trivial⟩) hc ⟨?_,?_,?_,?_,?_,?_,?_,?_,?_,?_,?_,?_,?_,?_,?_,?_,?_,?_,?_,?_,?_,?_,?_,?_,?_,?_,?_,?_,?_,?_,?_,trivial⟩ ?_ ?_
    ·intro E θ a w hD hi hp he hc
     have hf := he.h0.mT he 1 rfl
     refine zL hf hc sc_141 m2 rfl fun a w hf hc => zD θ he hi hf 4 rfl rfl rfl hc
    ·intro E θ a w hD hi hp he hc
     have hf := he.h0.mT he 3 rfl
     refine sp 1 hf rfl fun a hf => zD θ he hi hf 5 rfl rfl rfl hc
    ·intro E θ a w hD hi hp he hc
     have hf := he.h0.mT he 0 rfl
     refine zL hf hc sc_91 m3 rfl fun a w hf hc => zD θ he hi hf 6 rfl rfl rfl hc
    ·intro E θ a w hD hi hp he hc
     have e2 := hp.o 2 rfl
     have hf := he.h0.mP he 6 rfl e2
     refine sp 1 hf rfl fun a hf => zD θ he hi hf 7 rfl rfl rfl hc
    ·intro E θ a w hD hi hp he hc
     have e3 := hp.o 3 rfl
     have hf := he.h0.mP he 7 rfl e3
     refine zP hf rfl (pFA fa_95_1 rfl) fun a hf => zD θ he hi hf 8 rfl rfl rfl hc
    ·intro E θ a w hD hi hp he hc
     have e4 := hp.o 4 rfl
     have e7 := hD.f 0 rfl hi
     have e8 := hD.f 1 rfl e7
     have e9 := hD.f 2 rfl e8
     have e15 := hD.f 3 rfl e9
     have e30 := hD.f 4 rfl e15
     try dsimp only at hc
     rw [e30] at hc
     have hf := he.h0.mP he 8 rfl e4
     refine zL hf hc sc_60 m0 rfl fun a w hf hc => zD θ he hi hf 9 rfl rfl rfl ?_
     try dsimp only
     rw [updE_fls 5 e30 rfl]
     exact hc
    ·intro E θ a w hD hi hp he hc
     have hf := he.h0.mT he 2 rfl
     refine sp 1 hf rfl fun a hf => zD θ he hi hf 10 rfl rfl rfl hc
    ·intro E θ a w hD hi hp he hc
     have e5 := hp.o 5 rfl
     have e6 := hp.o 6 rfl
     have e8 := hD.f 1 rfl hi
     have e9 := hD.f 2 rfl e8
     have e15 := hD.f 3 rfl e9
     have e30 := hD.f 4 rfl e15
     try dsimp only at hc
     rw [e30] at hc
     have hf := (he.h0.mP he 9 rfl e5).mP he 10 rfl e6
     refine zP hf rfl (pIA Try.underlying60 sz_68 rfl rfl qa) fun a hf => zD θ he hi hf 11 rfl rfl rfl ?_
     try dsimp only
     rw [updE_fls 7 e30 rfl]
     exact hc
    ·intro E θ a w hD hi hp he hc
     have e7 := hp.o 7 rfl
     have hf := he.h0.mP he 11 rfl e7
     refine zP hf rfl (pFA fa_68_0 rfl) fun a hf => zD θ he hi hf 12 rfl rfl rfl hc
    ·intro E θ a w hD hi hp he hc
     have e8 := hp.o 8 rfl
     have e15 := hD.f 3 rfl hi
     have e30 := hD.f 4 rfl e15
     try dsimp only at hc
     rw [e30] at hc
     have hf := he.h0.mP he 12 rfl e8
     refine zE hf hc rfl (eLd1 sc_3 rfl (cell_row (sz := 2) (i := xv.toNat) (j := 0) m1 qr rfl)) fun a w hf hc => zD θ he hi hf 13 rfl rfl rfl ?_
     try dsimp only
     rw [updE_fls 9 e30 rfl]
     exact hc
    ·intro E θ a w hD hi hp he hc
     have hf := he.h0.mT he 0 rfl
     refine zL hf hc sc_91 m3 rfl fun a w hf hc => zD θ he hi hf 14 rfl rfl rfl hc
    ·intro E θ a w hD hi hp he hc
     have e10 := hp.o 10 rfl
     have hf := he.h0.mP he 14 rfl e10
     refine sp 1 hf rfl fun a hf => zD θ he hi hf 15 rfl rfl rfl hc
    ·intro E θ a w hD hi hp he hc
     have e11 := hp.o 11 rfl
     have hf := he.h0.mP he 15 rfl e11
     refine zP hf rfl (pFA fa_95_0 rfl) fun a hf => zD θ he hi hf 16 rfl rfl rfl hc
    ·intro E θ a w hD hi hp he hc
     have e12 := hp.o 12 rfl
     have hf := he.h0.mP he 16 rfl e12
     refine zP hf rfl (pFA fa_65_1 rfl) fun a hf => zD θ he hi hf 17 rfl rfl rfl hc
    ·intro E θ a w hD hi hp he hc
     have e13 := hp.o 13 rfl
     have e15 := hD.f 5 rfl hi
     have e30 := hD.f 4 rfl e15
     try dsimp only at hc
     rw [e30] at hc
     have hf := he.h0.mP he 17 rfl e13
     refine zL hf hc sc_3 m0 rfl fun a w hf hc => zD θ he hi hf 18 rfl rfl rfl ?_
     try dsimp only
     rw [updE_fls 14 e30 rfl]
     exact hc
    ·intro E θ a w hD hi hp he hc
     have e9 := hp.o 9 rfl
     have e14 := hp.o 14 rfl
     have hf := (he.h0.mP he 13 rfl e9).mP he 18 rfl e14
     refine sp 1 hf rfl fun a hf => zD θ he hi hf 19 rfl rfl rfl hc
    ·intro E θ a w hD hi hp he hc
     have hf := he.h0.mT he 0 rfl
     refine zL hf hc sc_91 m3 rfl fun a w hf hc => zD θ he hi hf 20 rfl rfl rfl hc
    ·intro E θ a w hD hi hp he hc
     have e16 := hp.o 16 rfl
     have hf := he.h0.mP he 20 rfl e16
     refine sp 1 hf rfl fun a hf => zD θ he hi hf 21 rfl rfl rfl hc
    ·intro E θ a w hD hi hp he hc
     have e17 := hp.o 17 rfl
     have hf := he.h0.mP he 21 rfl e17
     refine zP hf rfl (pFA fa_95_1 rfl) fun a hf => zD θ he hi hf 22 rfl rfl rfl hc
    ·intro E θ a w hD hi hp he hc
     have e18 := hp.o 18 rfl
     have e21 := hD.f 6 rfl hi
     have e22 := hD.f 7 rfl e21
     have e23 := hD.f 8 rfl e22
     have e29 := hD.f 9 rfl e23
     have e30 := hD.f 10 rfl e29
     try dsimp only at hc
     rw [e30] at hc
     have hf := he.h0.mP he 22 rfl e18
     refine zL hf hc sc_60 m0 rfl fun a w hf hc => zD θ he hi hf 23 rfl rfl rfl ?_
     try dsimp only
     rw [updE_fls 19 e30 rfl]
     exact hc
    ·intro E θ a w hD hi hp he hc
     have hf := he.h0.mT he 2 rfl
     refine sp 1 hf rfl fun a hf => zD θ he hi hf 24 rfl rfl rfl hc
    ·intro E θ a w hD hi hp he hc
     have e19 := hp.o 19 rfl
     have e20 := hp.o 20 rfl
     have e22 := hD.f 7 rfl hi
     have e23 := hD.f 8 rfl e22
     have e29 := hD.f 9 rfl e23
     have e30 := hD.f 10 rfl e29
     try dsimp only at hc
     rw [e30] at hc
     have hf := (he.h0.mP he 23 rfl e19).mP he 24 rfl e20
     refine zP hf rfl (pIA Try.underlying60 sz_68 rfl rfl qa_1) fun a hf => zD θ he hi hf 25 rfl rfl rfl ?_
     try dsimp only
     rw [updE_fls 21 e30 rfl]
     exact hc
    ·intro E θ a w hD hi hp he hc
     have e21 := hp.o 21 rfl
     have hf := he.h0.mP he 25 rfl e21
     refine zP hf rfl (pFA fa_68_1 rfl) fun a hf => zD θ he hi hf 26 rfl rfl rfl hc
    ·intro E θ a w hD hi hp he hc
     have e22 := hp.o 22 rfl
     have e29 := hD.f 9 rfl hi
     have e30 := hD.f 10 rfl e29
     try dsimp only at hc
     rw [e30] at hc
     have hf := he.h0.mP he 26 rfl e22
     refine zE hf hc rfl (eLd1 sc_3 rfl (cell_row (sz := 2) (i := xv.toNat) (j := 1) m1 qr_1 rfl)) fun a w hf hc => zD θ he hi hf 27 rfl rfl rfl ?_
     try dsimp only
     rw [updE_fls 23 e30 rfl]
     exact hc
    ·intro E θ a w hD hi hp he hc
     have hf := he.h0.mT he 0 rfl
     refine zL hf hc sc_91 m3 rfl fun a w hf hc => zD θ he hi hf 28 rfl rfl rfl hc
    ·intro E θ a w hD hi hp he hc
     have e24 := hp.o 24 rfl
     have hf := he.h0.mP he 28 rfl e24
     refine sp 1 hf rfl fun a hf => zD θ he hi hf 29 rfl rfl rfl hc
    ·intro E θ a w hD hi hp he hc
     have e25 := hp.o 25 rfl
     have hf := he.h0.mP he 29 rfl e25
     refine zP hf rfl (pFA fa_95_0 rfl) fun a hf => zD θ he hi hf 30 rfl rfl rfl hc
    ·intro E θ a w hD hi hp he hc
     have e26 := hp.o 26 rfl
     have hf := he.h0.mP he 30 rfl e26
     refine zP hf rfl (pFA fa_65_0 rfl) fun a hf => zD θ he hi hf 31 rfl rfl rfl hc
    ·intro E θ a w hD hi hp he hc
     have e27 := hp.o 27 rfl
     have e29 := hD.f 11 rfl hi
     have e30 := hD.f 10 rfl e29
     try dsimp only at hc
     rw [e30] at hc
     have hf := he.h0.mP he 31 rfl e27
     refine zL hf hc sc_3 m0 rfl fun a w hf hc => zD θ he hi hf 32 rfl rfl rfl ?_
     try dsimp only
     rw [updE_fls 28 e30 rfl]
     exact hc
    ·intro E θ a w hD hi hp he hc
     have e23 := hp.o 23 rfl
     have e28 := hp.o 28 rfl
     have hf := (he.h0.mP he 27 rfl e23).mP he 32 rfl e28
     refine sp 1 hf rfl fun a hf => zD θ he hi hf 33 rfl rfl rfl hc
    ·intro E θ a w hD hi hp he hc
     have e0 := hp.o 0 rfl
     have e1 := hp.o 1 rfl
     have e15 := hp.o 15 rfl
     have e29 := hp.o 29 rfl
     try dsimp only at hc
     rw [hi] at hc
     have hf := (((he.h0.mP he 4 rfl e0).mP he 5 rfl e1).mP he 19 rfl e15).mP he 33 rfl e29
     refine zC hf en_80 rfl (daily_opened_1_ok xv_1 (W (e_1.Lo - r.Fall)) (W (e_2.Hi + r.Rise)) r.Rise r.Fall r.Days x_2 h_r_Days (((hc.pick k1).pick k1).pick k3) hr_2) ?_
     rintro _ w ⟨rfl,hl_1,hc⟩
     refine ⟨_,rfl,fun a hf => ?_⟩
     try rw [← hl_1] at hf
     try rw [← hl_1] at hc
     refine cNil ?_
     refine xThenN ?_
     intro ds u hau
     replace hc := (((hc.pick k0).pick k3).pick k3).pick k3
     refine ⟨θ,he.put0 hi hau hf rfl 34 rfl rfl,?_⟩
     try dsimp only
     rw [updE_self E 30]
     exact hc
    ·intro E θ a w hall he hc
     have hf := he.h0
     have e30 := hall 30 rfl
     replace hf := hf.more he 1 rfl (onT)
     replace hf := hf.more he 0 rfl (onT)
     try dsimp only at hc
     rw [e30] at hc
     exact ⟨hf.kp rfl,hc⟩
    rintro a w ⟨hf,hc⟩
    refine h15 _ _ ?_
    obtain ⟨_,hl_2,hF⟩ := same_len hF
    exact ⟨r_2,_,(sj hF).symm,⟨hl_2,rfl⟩,hc⟩
   ·rintro D_1 x_2 _ a w hsF ⟨hl,rfl⟩ hf hc
    replace hf : Has ⟨118,markL (D_1::[])⟩ a [(6,pq b_3),(9,pq b_4)] := hf.kp rfl
    replace hc : Ctx G (.box b_5 [pq b_2] 91::.box b_6 [.bool r_1] 4::.box b_2 [i6 r.Rise,i6 r.Fall,.slice r_Days_p r.Days.length r_Days_c,.slice p_1 x_2.length c_1] 95::.row p_1 c_1 (x_2.map enc_api_Span) 68 2::.box b_4 [.func (.func 80) #[] #[pq b_3]] 141::.box b_3 [pq b_2] 91::(raws (D_1::[]) ++ Lf)) w := rawsIn (C := [.box b_5 [pq b_2] 91,.box b_6 [.bool r_1] 4]) (L := [.box b_2 [i6 r.Rise,i6 r.Fall,.slice r_Days_p r.Days.length r_Days_c,.slice p_1 x_2.length c_1] 95,.row p_1 c_1 (x_2.map enc_api_Span) 68 2,.box b_4 [.func (.func 80) #[] #[pq b_3]] 141,.box b_3 [pq b_2] 91]) hc
    replace hF : (Option.bind (daily_work_pairs N (⟨r,x_2⟩ : daily_work) true) fun r_3 => Option.bind (daily_work_pairs_1 N r.Rise r.Fall r.Days r_3 (rY (fun (zz : (List api_Span)) (ix_ : (Int × Int)) => daily_opened_r18 N r x_2 zz ix_.1 ix_.2)) (.go x_2)) fun x18 => rsK x18 (fun zz18 => Option.bind (daily_every_api_Span N zz18) fun r_5 => some (.inr (r.Rise,r.Fall,zz18,r_5,0))) (fun zz18 => none)) = some res := by rcases hsF with rfl | rfl <;> exact hF
    refine h11 _ _ ?_
    refine wp_seq_k fun K16 h16 => zS fun K h => zL hf hc sc_91 m5 rfl fun a w hf hc => ?_
    obtain ⟨r_3,hr_3,hF⟩ := bnd_some hF
    obtain ⟨G1,hle1,hrd1,hc,hth1⟩ := lend hc k3
    refine zC hf en_81 rfl (daily_work_pairs_ok (⟨r,x_2⟩ : daily_work) true (h_r_Days.mono hle1) hrd1 (hc.pick k2) hr_3) ?_
    rintro _ w ⟨b_7,b_8,rfl,hc⟩
    refine ⟨_,rfl,fun a hf => ?_⟩
    replace hc := hth1 _ _ hc
    refine zT h ?_
    obtain ⟨x18,hx18,hF⟩ := bnd_some hF
    replace hc := (((((hc.drop k5).drop k4).pick k0).pick k3).pick k3).pick k3
    refine cRangeC (C := [.box b_7 [pq b_2] 91,.box b_8 [.bool r_3] 4]) (C2 := [.box b_7 [pq b_2] 91,.box b_8 [.bool r_3] 4]) (L0 := [.box b_2 [i6 r.Rise,i6 r.Fall,.slice r_Days_p r.Days.length r_Days_c,.slice p_1 x_2.length c_1] 95,.row p_1 c_1 (x_2.map enc_api_Span) 68 2,.box b_4 [.func (.func 80) #[] #[pq b_3]] 141,.box b_3 [pq b_2] 91]) (Lf := (raws (D_1::[]) ++ Lf)) (encs := fun x : (Int × Int) => [i6 x.1,i6 x.2]) (fun (zz : (List api_Span)) L => zz.length = x_2.length ∧ L = [.box b_2 [i6 r.Rise,i6 r.Fall,.slice r_Days_p r.Days.length r_Days_c,.slice p_1 zz.length c_1] 95,.row p_1 c_1 (zz.map enc_api_Span) 68 2,.box b_4 [.func (.func 80) #[] #[pq b_3]] 141,.box b_3 [pq b_2] 91]) (fun (zz : (List api_Span)) (ix_ : (Int × Int)) => daily_opened_r18 N r x_2 zz ix_.1 ix_.2) x_2 x18 hf hc rfl en_88 (fun _ => rfl) rfl ⟨rfl,rfl⟩ ?_ ?_ ?_ ?_
    ·intro lq mq J L Lx w hy hQ hJ hc
     have hje_ : ∀ (zz : (List api_Span)) (M : List Ent),(fun (zz : (List api_Span)) L => zz.length = x_2.length ∧ L = [.box b_2 [i6 r.Rise,i6 r.Fall,.slice r_Days_p r.Days.length r_Days_c,.slice p_1 zz.length c_1] 95,.row p_1 c_1 (zz.map enc_api_Span) 68 2,.box b_4 [.func (.func 80) #[] #[pq b_3]] 141,.box b_3 [pq b_2] 91]) zz M → ∃ A B,M = A ++ (.box b_2 [i6 r.Rise,i6 r.Fall,.slice r_Days_p r.Days.length r_Days_c,.slice p_1 x_2.length c_1] 95::B) := by
      rintro x_3 _ ⟨hl_3,rfl⟩
      try rw [show _ = _ from hl_3]
      exact ⟨[],_,rfl⟩
     exact daily_work_pairs_1_ok r.Rise r.Fall r.Days r_3 h_r_Days J _ hy _ hJ (hQ _ hje_) hc hx18
    ·clear hF hf hc
     rintro lq mq x_3 ⟨xv_2,xv_3⟩ oq _ Lr Lb a w hK0 ⟨hl_3,rfl⟩ hF hf hc hK
     replace hf : Has 118 a [(6,pq b_3),(9,pq b_4),(79,i6 xv_2),(80,i6 xv_3)] := hf.kp rfl
     replace hc : Ctx G (.box b_2 [i6 r.Rise,i6 r.Fall,.slice r_Days_p r.Days.length r_Days_c,.slice p_1 x_3.length c_1] 95::.row p_1 c_1 (x_3.map enc_api_Span) 68 2::.box b_4 [.func (.func 80) #[] #[pq b_3]] 141::.box b_3 [pq b_2] 91::Lr) w := hc
     replace hF : daily_opened_r18 N r x_2 x_3 xv_2 xv_3 = some oq := hF
     unfold daily_opened_r18 at hF
     refine rSeq fun K19 h19 => rReg (fun _ _ h => h) rfl ?_
     refine sp 1 hf rfl fun a hf => cNil ?_
     refine h19 _ _ ?_
     refine rReg (fun _ _ h => h) rfl ?_
     refine sp 1 hf rfl fun a hf => cNil ?_
     refine hK _ _ [.box b_2 [i6 r.Rise,i6 r.Fall,.slice r_Days_p r.Days.length r_Days_c,.slice p_1 x_3.length c_1] 95,.row p_1 c_1 (x_3.map enc_api_Span) 68 2,.box b_4 [.func (.func 80) #[] #[pq b_3]] 141,.box b_3 [pq b_2] 91] hc fun w hc => ?_
     replace hc : Ctx G (.box b_2 [i6 r.Rise,i6 r.Fall,.slice r_Days_p r.Days.length r_Days_c,.slice p_1 x_3.length c_1] 95::.row p_1 c_1 (x_3.map enc_api_Span) 68 2::.box b_4 [.func (.func 80) #[] #[pq b_3]] 141::.box b_3 [pq b_2] 91::Lb) w := hc
     refine rThenK fun K20 h20 => rBlock ?_
     obtain ⟨e_3,he_3,hF⟩ := bnd_some hF
     obtain ⟨g_1,rfl,qa_2,qr_2⟩ := row_atm hc m1 he_3
     obtain ⟨e_4,he_4,hF⟩ := bnd_some hF
     obtain ⟨qa_3,qr_3⟩ := row_atk hc m1 he_4
     obtain ⟨r_4,hr_4,hF⟩ := bnd_some hF
     refine rRegE (fun _ _ h => h) rfl (fun θ => (⟨none,none,6,pq b_3⟩::⟨none,none,9,pq b_4⟩::⟨none,none,12,i6 xv_2⟩::⟨none,none,13,i6 xv_3⟩::⟨some 0,none,81,.func (.func 80) #[] #[pq b_3]⟩::⟨some 1,none,82,i6 xv_3⟩::⟨some 2,none,83,pq b_2⟩::⟨some 3,none,84,pq b_2⟩::⟨some 4,none,85,.pointer (some ⟨b_2,3,none⟩)⟩::⟨some 5,none,86,.slice (some ⟨g_1,0,none⟩) x_3.length c_1⟩::⟨some 6,none,87,i6 xv_2⟩::⟨some 7,none,88,.pointer (some ⟨g_1,xv_2.toNat * 2,none⟩)⟩::⟨some 8,none,89,.pointer (some ⟨g_1,xv_2.toNat * 2 + 0,none⟩)⟩::⟨some 9,none,90,i6 e_3.Lo⟩::⟨some 10,none,91,pq b_2⟩::⟨some 11,none,92,pq b_2⟩::⟨some 12,none,93,pq b_2⟩::⟨some 13,none,94,pq b_2⟩::⟨some 14,none,95,i6 r.Rise⟩::⟨some 15,none,96,i6 (W (e_3.Lo - r.Rise))⟩::⟨some 16,none,97,pq b_2⟩::⟨some 17,none,98,pq b_2⟩::⟨some 18,none,99,.pointer (some ⟨b_2,3,none⟩)⟩::⟨some 19,none,100,.slice (some ⟨g_1,0,none⟩) x_3.length c_1⟩::⟨some 20,none,101,i6 xv_2⟩::⟨some 21,none,102,.pointer (some ⟨g_1,xv_2.toNat * 2,none⟩)⟩::⟨some 22,none,103,.pointer (some ⟨g_1,xv_2.toNat * 2 + 1,none⟩)⟩::⟨some 23,none,104,i6 e_4.Hi⟩::⟨some 24,none,105,pq b_2⟩::⟨some 25,none,106,pq b_2⟩::⟨some 26,none,107,pq b_2⟩::⟨some 27,none,108,.pointer (some ⟨b_2,1,none⟩)⟩::⟨some 28,none,109,i6 r.Fall⟩::⟨some 29,none,110,i6 (W (e_4.Hi + r.Fall))⟩::⟨some 30,none,111,.tuple #[]⟩::[])) (fun E θ => (bif E 30 then .box b_2 [i6 r.Rise,i6 r.Fall,.slice r_Days_p r.Days.length r_Days_c,.slice (some ⟨g_1,0,none⟩) r_4.length c_1] 95 else .box b_2 [i6 r.Rise,i6 r.Fall,.slice r_Days_p r.Days.length r_Days_c,.slice (some ⟨g_1,0,none⟩) x_3.length c_1] 95)::(bif E 30 then .row (some ⟨g_1,0,none⟩) c_1 (r_4.map enc_api_Span) 68 2 else .row (some ⟨g_1,0,none⟩) c_1 (x_3.map enc_api_Span) 68 2)::.box b_4 [.func (.func 80) #[] #[pq b_3]] 141::.box b_3 [pq b_2] 91::Lb) [(7,5),(8,7),(9,8),(15,9),(30,15),(15,14),(21,19),(22,21),(23,22),(29,23),(30,29),(29,28)] (fun a w => Has 118 a [(6,pq b_3),(9,pq b_4)] ∧ Ctx G (.box b_2 [i6 r.Rise,i6 r.Fall,.slice r_Days_p r.Days.length r_Days_c,.slice (some ⟨g_1,0,none⟩) r_4.length c_1] 95::.row (some ⟨g_1,0,none⟩) c_1 (r_4.map enc_api_Span) 68 2::.box b_4 [.func (.func 80) #[] #[pq b_3]] 141::.box b_3 [pq b_2] 91::Lb) w) follows_mx (by kernel_rfl) (by kernel_rfl) (HasE.of hf ⟨rfl,rfl,rfl,rfl,trivial,trivial,trivial,trivial,trivial,trivial,trivial,trivial,trivial,trivial,trivial,trivial,trivial,trivial,trivial,trivial,trivial,trivial,trivial,trivial,trivial,trivial,trivial,trivial,trivial,trivial,trivial,trivial,trivial,trivial,trivial,trivial⟩) hc ⟨?_,?_,?_,?_,?_,?_,?_,?_,?_,?_,?_,?_,?_,?_,?_,?_,?_,?_,?_,?_,?_,?_,?_,?_,?_,?_,?_,?_,?_,?_,?_,trivial⟩ ?_ ?_
     ·intro E θ a w hD hi hp he hc
      have hf := he.h0.mT he 1 rfl
      refine zL hf hc sc_141 m2 rfl fun a w hf hc => zD θ he hi hf 4 rfl rfl rfl hc
     ·intro E θ a w hD hi hp he hc
      have hf := he.h0.mT he 3 rfl
      refine sp 1 hf rfl fun a hf => zD θ he hi hf 5 rfl rfl rfl hc
     ·intro E θ a w hD hi hp he hc
      have hf := he.h0.mT he 0 rfl
      refine zL hf hc sc_91 m3 rfl fun a w hf hc => zD θ he hi hf 6 rfl rfl rfl hc
     ·intro E θ a w hD hi hp he hc
      have e2 := hp.o 2 rfl
      have hf := he.h0.mP he 6 rfl e2
      refine sp 1 hf rfl fun a hf => zD θ he hi hf 7 rfl rfl rfl hc
     ·intro E θ a w hD hi hp he hc
      have e3 := hp.o 3 rfl
      have hf := he.h0.mP he 7 rfl e3
      refine zP hf rfl (pFA fa_95_1 rfl) fun a hf => zD θ he hi hf 8 rfl rfl rfl hc
     ·intro E θ a w hD hi hp he hc
      have e4 := hp.o 4 rfl
      have e7 := hD.f 0 rfl hi
      have e8 := hD.f 1 rfl e7
      have e9 := hD.f 2 rfl e8
      have e15 := hD.f 3 rfl e9
      have e30 := hD.f 4 rfl e15
      try dsimp only at hc
      rw [e30] at hc
      have hf := he.h0.mP he 8 rfl e4
      refine zL hf hc sc_60 m0 rfl fun a w hf hc => zD θ he hi hf 9 rfl rfl rfl ?_
      try dsimp only
      rw [updE_fls 5 e30 rfl]
      exact hc
     ·intro E θ a w hD hi hp he hc
      have hf := he.h0.mT he 2 rfl
      refine sp 1 hf rfl fun a hf => zD θ he hi hf 10 rfl rfl rfl hc
     ·intro E θ a w hD hi hp he hc
      have e5 := hp.o 5 rfl
      have e6 := hp.o 6 rfl
      have e8 := hD.f 1 rfl hi
      have e9 := hD.f 2 rfl e8
      have e15 := hD.f 3 rfl e9
      have e30 := hD.f 4 rfl e15
      try dsimp only at hc
      rw [e30] at hc
      have hf := (he.h0.mP he 9 rfl e5).mP he 10 rfl e6
      refine zP hf rfl (pIA Try.underlying60 sz_68 rfl rfl qa_2) fun a hf => zD θ he hi hf 11 rfl rfl rfl ?_
      try dsimp only
      rw [updE_fls 7 e30 rfl]
      exact hc
     ·intro E θ a w hD hi hp he hc
      have e7 := hp.o 7 rfl
      have hf := he.h0.mP he 11 rfl e7
      refine zP hf rfl (pFA fa_68_0 rfl) fun a hf => zD θ he hi hf 12 rfl rfl rfl hc
     ·intro E θ a w hD hi hp he hc
      have e8 := hp.o 8 rfl
      have e15 := hD.f 3 rfl hi
      have e30 := hD.f 4 rfl e15
      try dsimp only at hc
      rw [e30] at hc
      have hf := he.h0.mP he 12 rfl e8
      refine zE hf hc rfl (eLd1 sc_3 rfl (cell_row (sz := 2) (i := xv_2.toNat) (j := 0) m1 qr_2 rfl)) fun a w hf hc => zD θ he hi hf 13 rfl rfl rfl ?_
      try dsimp only
      rw [updE_fls 9 e30 rfl]
      exact hc
     ·intro E θ a w hD hi hp he hc
      have hf := he.h0.mT he 0 rfl
      refine zL hf hc sc_91 m3 rfl fun a w hf hc => zD θ he hi hf 14 rfl rfl rfl hc
     ·intro E θ a w hD hi hp he hc
      have e10 := hp.o 10 rfl
      have hf := he.h0.mP he 14 rfl e10
      refine sp 1 hf rfl fun a hf => zD θ he hi hf 15 rfl rfl rfl hc
     ·intro E θ a w hD hi hp he hc
      have e11 := hp.o 11 rfl
      have hf := he.h0.mP he 15 rfl e11
      refine zP hf rfl (pFA fa_95_0 rfl) fun a hf => zD θ he hi hf 16 rfl rfl rfl hc
     ·intro E θ a w hD hi hp he hc
      have e12 := hp.o 12 rfl
      have hf := he.h0.mP he 16 rfl e12
      refine zP hf rfl (pFA fa_65_0 rfl) fun a hf => zD θ he hi hf 17 rfl rfl rfl hc
     ·intro E θ a w hD hi hp he hc
      have e13 := hp.o 13 rfl
      have e15 := hD.f 5 rfl hi
      have e30 := hD.f 4 rfl e15
      try dsimp only at hc
      rw [e30] at hc
      have hf := he.h0.mP he 17 rfl e13
      refine zL hf hc sc_3 m0 rfl fun a w hf hc => zD θ he hi hf 18 rfl rfl rfl ?_
      try dsimp only
      rw [updE_fls 14 e30 rfl]
      exact hc
     ·intro E θ a w hD hi hp he hc
      have e9 := hp.o 9 rfl
      have e14 := hp.o 14 rfl
      have hf := (he.h0.mP he 13 rfl e9).mP he 18 rfl e14
      refine sp 1 hf rfl fun a hf => zD θ he hi hf 19 rfl rfl rfl hc
     ·intro E θ a w hD hi hp he hc
      have hf := he.h0.mT he 0 rfl
      refine zL hf hc sc_91 m3 rfl fun a w hf hc => zD θ he hi hf 20 rfl rfl rfl hc
     ·intro E θ a w hD hi hp he hc
      have e16 := hp.o 16 rfl
      have hf := he.h0.mP he 20 rfl e16
      refine sp 1 hf rfl fun a hf => zD θ he hi hf 21 rfl rfl rfl hc
     ·intro E θ a w hD hi hp he hc
      have e17 := hp.o 17 rfl
      have hf := he.h0.mP he 21 rfl e17
      refine zP hf rfl (pFA fa_95_1 rfl) fun a hf => zD θ he hi hf 22 rfl rfl rfl hc
     ·intro E θ a w hD hi hp he hc
      have e18 := hp.o 18 rfl
      have e21 := hD.f 6 rfl hi
      have e22 := hD.f 7 rfl e21
      have e23 := hD.f 8 rfl e22
      have e29 := hD.f 9 rfl e23
      have e30 := hD.f 10 rfl e29
      try dsimp only at hc
      rw [e30] at hc
      have hf := he.h0.mP he 22 rfl e18
      refine zL hf hc sc_60 m0 rfl fun a w hf hc => zD θ he hi hf 23 rfl rfl rfl ?_
      try dsimp only
      rw [updE_fls 19 e30 rfl]
      exact hc
     ·intro E θ a w hD hi hp he hc
      have hf := he.h0.mT he 2 rfl
      refine sp 1 hf rfl fun a hf => zD θ he hi hf 24 rfl rfl rfl hc
     ·intro E θ a w hD hi hp he hc
      have e19 := hp.o 19 rfl
      have e20 := hp.o 20 rfl
      have e22 := hD.f 7 rfl hi
      have e23 := hD.f 8 rfl e22
      have e29 := hD.f 9 rfl e23
      have e30 := hD.f 10 rfl e29
      try dsimp only at hc
      rw [e30] at hc
      have hf := (he.h0.mP he 23 rfl e19).mP he 24 rfl e20
      refine zP hf rfl (pIA Try.underlying60 sz_68 rfl rfl qa_3) fun a hf => zD θ he hi hf 25 rfl rfl rfl ?_
      try dsimp only
      rw [updE_fls 21 e30 rfl]
      exact hc
     ·intro E θ a w hD hi hp he hc
      have e21 := hp.o 21 rfl
      have hf := he.h0.mP he 25 rfl e21
      refine zP hf rfl (pFA fa_68_1 rfl) fun a hf => zD θ he hi hf 26 rfl rfl rfl hc
     ·intro E θ a w hD hi hp he hc
      have e22 := hp.o 22 rfl
      have e29 := hD.f 9 rfl hi
      have e30 := hD.f 10 rfl e29
      try dsimp only at hc
      rw [e30] at hc
      have hf := he.h0.mP he 26 rfl e22
      refine zE hf hc rfl (eLd1 sc_3 rfl (cell_row (sz := 2) (i := xv_2.toNat) (j := 1) m1 qr_3 rfl)) fun a w hf hc => zD θ he hi hf 27 rfl rfl rfl ?_
      try dsimp only
      rw [updE_fls 23 e30 rfl]
      exact hc
     ·intro E θ a w hD hi hp he hc
      have hf := he.h0.mT he 0 rfl
      refine zL hf hc sc_91 m3 rfl fun a w hf hc => zD θ he hi hf 28 rfl rfl rfl hc
     ·intro E θ a w hD hi hp he hc
      have e24 := hp.o 24 rfl
      have hf := he.h0.mP he 28 rfl e24
      refine sp 1 hf rfl fun a hf => zD θ he hi hf 29 rfl rfl rfl hc
     ·intro E θ a w hD hi hp he hc
      have e25 := hp.o 25 rfl
      have hf := he.h0.mP he 29 rfl e25
      refine zP hf rfl (pFA fa_95_0 rfl) fun a hf => zD θ he hi hf 30 rfl rfl rfl hc
     ·intro E θ a w hD hi hp he hc
      have e26 := hp.o 26 rfl
      have hf := he.h0.mP he 30 rfl e26
      refine zP hf rfl (pFA fa_65_1 rfl) fun a hf => zD θ he hi hf 31 rfl rfl rfl hc
     ·intro E θ a w hD hi hp he hc
      have e27 := hp.o 27 rfl
      have e29 := hD.f 11 rfl hi
      have e30 := hD.f 10 rfl e29
      try dsimp only at hc
      rw [e30] at hc
      have hf := he.h0.mP he 31 rfl e27
      refine zL hf hc sc_3 m0 rfl fun a w hf hc => zD θ he hi hf 32 rfl rfl rfl ?_
      try dsimp only
      rw [updE_fls 28 e30 rfl]
      exact hc
     ·intro E θ a w hD hi hp he hc
      have e23 := hp.o 23 rfl
      have e28 := hp.o 28 rfl
      have hf := (he.h0.mP he 27 rfl e23).mP he 32 rfl e28
      refine sp 1 hf rfl fun a hf => zD θ he hi hf 33 rfl rfl rfl hc
     ·intro E θ a w hD hi hp he hc
      have e0 := hp.o 0 rfl
      have e1 := hp.o 1 rfl
      have e15 := hp.o 15 rfl
      have e29 := hp.o 29 rfl
      try dsimp only at hc
      rw [hi] at hc
      have hf := (((he.h0.mP he 4 rfl e0).mP he 5 rfl e1).mP he 19 rfl e15).mP he 33 rfl e29
      refine zC hf en_80 rfl (daily_opened_1_ok xv_3 (W (e_3.Lo - r.Rise)) (W (e_4.Hi + r.Fall)) r.Rise r.Fall r.Days x_3 h_r_Days (((hc.pick k1).pick k1).pick k3) hr_4) ?_
      rintro _ w ⟨rfl,hl_4,hc⟩
      refine ⟨_,rfl,fun a hf => ?_⟩
      try rw [← hl_4] at hf
      try rw [← hl_4] at hc
      refine cNil ?_
      refine xThenN ?_
      intro ds u hau
      replace hc := (((hc.pick k0).pick k3).pick k3).pick k3
      refine ⟨θ,he.put0 hi hau hf rfl 34 rfl rfl,?_⟩
      try dsimp only
      rw [updE_self E 30]
      exact hc
     ·intro E θ a w hall he hc
      have hf := he.h0
      have e30 := hall 30 rfl
      replace hf := hf.more he 1 rfl (onT)
      replace hf := hf.more he 0 rfl (onT)
      try dsimp only at hc
      rw [e30] at hc
      exact ⟨hf.kp rfl,hc⟩
     rintro a w ⟨hf,hc⟩
     refine h20 _ _ ?_
     obtain ⟨_,hl_5,hF⟩ := same_len hF
     exact ⟨r_4,_,(sj hF).symm,⟨hl_5,rfl⟩,hc⟩
    ·rintro D_2 x_3 _ a w hsF ⟨hl_3,rfl⟩ hf hc
     replace hf : Has ⟨118,markL (D_2::(D_1::[]))⟩ a [(6,pq b_3),(9,pq b_4)] := hf.kp rfl
     replace hc : Ctx G (.box b_7 [pq b_2] 91::.box b_8 [.bool r_3] 4::.box b_2 [i6 r.Rise,i6 r.Fall,.slice r_Days_p r.Days.length r_Days_c,.slice p_1 x_3.length c_1] 95::.row p_1 c_1 (x_3.map enc_api_Span) 68 2::.box b_4 [.func (.func 80) #[] #[pq b_3]] 141::.box b_3 [pq b_2] 91::(raws (D_2::(D_1::[])) ++ Lf)) w := rawsIn (C := [.box b_7 [pq b_2] 91,.box b_8 [.bool r_3] 4]) (L := [.box b_2 [i6 r.Rise,i6 r.Fall,.slice r_Days_p r.Days.length r_Days_c,.slice p_1 x_3.length c_1] 95,.row p_1 c_1 (x_3.map enc_api_Span) 68 2,.box b_4 [.func (.func 80) #[] #[pq b_3]] 141,.box b_3 [pq b_2] 91]) hc
     replace hF : (Option.bind (daily_every_api_Span N x_3) fun r_5 => some (.inr (r.Rise,r.Fall,x_3,r_5,0))) = some res := by rcases hsF with rfl | rfl <;> exact hF
     refine h16 _ _ ?_
     refine wp_seq_k fun K21 h21 => ?_
     obtain ⟨r_5,hr_5,hF⟩ := bnd_some hF
     refine cQ hc follows_mx (by kernel_rfl) ?_
     refine qE hf rfl rfl rfl (eLd1 sc_91 rfl (cell_box m5 rfl)) fun a hf => qE hf rfl rfl rfl (eLd1 sc_91 rfl (cell_box m5 rfl)) fun a hf => qE hf rfl rfl rfl (Pu.ev (pNC rfl)) fun a hf => qE hf rfl rfl rfl (Pu.ev (pFA fa_95_1 rfl)) fun a hf => qE hf rfl rfl rfl (eLd1 sc_60 rfl (cell_box m2 rfl)) fun a hf => qE hf rfl rfl rfl (eC (v := .bool r_5) (vs := [.slice p_1 x_3.length c_1,.func (.func 82) #[] #[]]) (caps := []) en_46 rfl rfl rfl rfl (fun w hc => by obtain ⟨G1,hle1,hrd1,hc,hth1⟩ := lend hc k3; exact (daily_every_api_Span_ok x_3 hrd1 hc hr_5).mono fun e w h => ⟨h.1,((hth1 _ _ h.2).unpick k3)⟩)) fun a hf => qE hf rfl rfl rfl (Pu.ev (pA rfl)) fun a hf => qE hf rfl rfl rfl (Pu.ev (pA rfl)) fun a hf => qE hf rfl rfl rfl (Pu.ev (pA rfl)) fun a hf => ?_
     intro w hc
     refine h21 _ _ ?_
     refine wp_ret ?_
     obtain rfl := sj hF
     replace hc := (((((hc.drop k5).drop k4).drop k1).drop k0).pick k0).pick k1
     refine outM hf ?_
     refine outML [.row p_1 c_1 (x_3.map enc_api_Span) 68 2,.box b_2 [i6 r.Rise,i6 r.Fall,.slice r_Days_p r.Days.length r_Days_c,.slice p_1 x_3.length c_1] 95] (D_2::(D_1::[])) hc fun w hc => ?_
     replace hc : Ctx G (.row p_1 c_1 (x_3.map enc_api_Span) 68 2::.box b_2 [i6 r.Rise,i6 r.Fall,.slice r_Days_p r.Days.length r_Days_c,.slice p_1 x_3.length c_1] 95::Lf) w := hc
     exact outM3 Try.results64 hf hc (show look _ 2 = _ from rfl) (show look _ 3 = _ from rfl) (show look _ 4 = _ from rfl) ⟨b_2,p_1,c_1,rfl,hc⟩
    ·rintro D_2 x_3 _ a w hsF ⟨hl_3,rfl⟩ hf hc
     replace hf : Has ⟨118,markL (D_2::(D_1::[]))⟩ a [(6,pq b_3),(9,pq b_4)] := hf.kp rfl
     replace hc : Ctx G (.box b_7 [pq b_2] 91::.box b_8 [.bool r_3] 4::.box b_2 [i6 r.Rise,i6 r.Fall,.slice r_Days_p r.Days.length r_Days_c,.slice p_1 x_3.length c_1] 95::.row p_1 c_1 (x_3.map enc_api_Span) 68 2::.box b_4 [.func (.func 80) #[] #[pq b_3]] 141::.box b_3 [pq b_2] 91::(raws (D_2::(D_1::[])) ++ Lf)) w := rawsIn (C := [.box b_7 [pq b_2] 91,.box b_8 [.bool r_3] 4]) (L := [.box b_2 [i6 r.Rise,i6 r.Fall,.slice r_Days_p r.Days.length r_Days_c,.slice p_1 x_3.length c_1] 95,.row p_1 c_1 (x_3.map enc_api_Span) 68 2,.box b_4 [.func (.func 80) #[] #[pq b_3]] 141,.box b_3 [pq b_2] 91]) hc
     replace hF : (none) = some res := by subst hsF; exact hF
     cases hF
   ·rintro D_1 x_2 _ a w hsF ⟨hl,rfl⟩ hf hc
    replace hf : Has ⟨118,markL (D_1::[])⟩ a [(6,pq b_3),(9,pq b_4)] := hf.kp rfl
    replace hc : Ctx G (.box b_5 [pq b_2] 91::.box b_6 [.bool r_1] 4::.box b_2 [i6 r.Rise,i6 r.Fall,.slice r_Days_p r.Days.length r_Days_c,.slice p_1 x_2.length c_1] 95::.row p_1 c_1 (x_2.map enc_api_Span) 68 2::.box b_4 [.func (.func 80) #[] #[pq b_3]] 141::.box b_3 [pq b_2] 91::(raws (D_1::[]) ++ Lf)) w := rawsIn (C := [.box b_5 [pq b_2] 91,.box b_6 [.bool r_1] 4]) (L := [.box b_2 [i6 r.Rise,i6 r.Fall,.slice r_Days_p r.Days.length r_Days_c,.slice p_1 x_2.length c_1] 95,.row p_1 c_1 (x_2.map enc_api_Span) 68 2,.box b_4 [.func (.func 80) #[] #[pq b_3]] 141,.box b_3 [pq b_2] 91]) hc
    replace hF : (none) = some res := by subst hsF; exact hF
    cases hF
  have ho9 : ∀ r,x9 = .out r → r = res := by
   rintro r rfl
   exact sj hF
  replace hc := hc.nilRow 68 2
  replace hc := hc.drop k3
  refine cLoop N (loopW (S := S9) (x := x9) ?_ N (0,([] : List api_Span)) _ _ ⟨none,0,hf.kp rfl,hc⟩ hx9)
  clear hF hf hc
  rintro ⟨x,x_1⟩ st9 a w KB9 ⟨p_1,c_1,hf,hc⟩ hF hfin9 hK9
  unfold daily_opened_b9 at hF
  refine zS fun K h => sp 1 hf rfl fun a hf => zT h ?_
  refine wp_seq_k fun K23 h23 => zI hf rfl hF ?_ ?_ <;> clear hF <;> intro hF
  ·refine wp_skip ?_
   refine h23 _ _ ?_
   refine wp_seq_k fun K24 h24 => wp_block ?_
   refine zS fun K h => ?_
   obtain ⟨e_5,he_5,hF⟩ := bnd_some hF
   obtain ⟨b_9,o,qa_4,qp⟩ := h_r_Days.atm he_5
   refine zP hf rfl (pIA Try.underlying63 sz_97 rfl rfl qa_4) fun a hf => zE hf hc rfl (eLdN (vs := [.bool e_5.Known,i6 e_5.Flow.Lo,i6 e_5.Flow.Hi]) ag_97 rfl rfl (cells_pc qp (n := 3) (o' := 0) rfl)) fun a w hf hc => zA hf hc zr_97 rfl fun b_10 a w hf hc => zW hf hc sz_97 u0 rfl fun w hc => zT h ?_
   obtain ⟨r_6,hr_6,hF⟩ := bnd_some hF
   obtain ⟨un,hun,hF⟩ := bnd_some hF
   replace hc := hc.nilRow 0 0
   refine regionE (fun θ => [⟨none,none,6,pq b_3⟩,⟨none,none,8,pq b_10⟩,⟨none,none,23,.slice r_Days_p r.Days.length r_Days_c⟩,⟨none,none,24,i6 ((r.Days.length : Nat) : Int)⟩,⟨none,none,25,i6 x⟩,⟨some 0,none,29,pq b_2⟩,⟨some 1,none,30,pq b_2⟩,⟨some 2,none,31,pq b_2⟩,⟨some 3,none,32,.pointer (some ⟨b_2,3,none⟩)⟩,⟨some 4,none,33,.slice p_1 x_1.length c_1⟩,⟨some 5,none,34,.agg #[.bool e_5.Known,i6 e_5.Flow.Lo,i6 e_5.Flow.Hi]⟩,⟨some 6,none,35,.agg #[i6 r_6.Lo,i6 r_6.Hi]⟩,⟨some 7,none,36,.slice (some ⟨(θ 56).b,0,none⟩) 1 1⟩,⟨some 8,none,37,.slice ((θ 64).p) ((x_1 ++ [r_6]).length) ((θ 64).c)⟩,⟨some 9,none,38,pq b_2⟩,⟨some 10,none,39,.pointer (some ⟨b_2,3,none⟩)⟩]) (fun E θ => (bif E 7 then .row (some ⟨(θ 56).b,0,none⟩) 1 (([r_6] : List api_Span).map enc_api_Span) 68 2 else .row none 0 [] 0 0)::.box b_10 [.bool e_5.Known,i6 e_5.Flow.Lo,i6 e_5.Flow.Hi] 97::(bif E 8 then .row ((θ 64).p) ((θ 64).c) ((x_1 ++ [r_6]).map enc_api_Span) 68 2 else .row p_1 c_1 (x_1.map enc_api_Span) 68 2)::.box b_3 [pq b_2] 91::(bif E 11 then .box b_2 [i6 r.Rise,i6 r.Fall,.slice r_Days_p r.Days.length r_Days_c,.slice ((θ 64).p) ((x_1 ++ [r_6]).length) ((θ 64).c)] 95 else .box b_2 [i6 r.Rise,i6 r.Fall,.slice r_Days_p r.Days.length r_Days_c,.slice p_1 x_1.length c_1] 95)::Lf) [(11,4),(11,8)] (fun a w => ∃ (b_12 : Nat) (p_3 : Option Addr) (c_3 : Nat),Has 118 a [(6,pq b_3),(23,.slice r_Days_p r.Days.length r_Days_c),(24,i6 ((r.Days.length : Nat) : Int)),(25,i6 x)] ∧ Ctx G (.row (some ⟨b_12,0,none⟩) 1 (([r_6] : List api_Span).map enc_api_Span) 68 2::.box b_10 [.bool e_5.Known,i6 e_5.Flow.Lo,i6 e_5.Flow.Hi] 97::.row p_3 c_3 ((x_1 ++ [r_6]).map enc_api_Span) 68 2::.box b_3 [pq b_2] 91::.box b_2 [i6 r.Rise,i6 r.Fall,.slice r_Days_p r.Days.length r_Days_c,.slice p_3 ((x_1 ++ [r_6]).length) c_3] 95::Lf) w) follows_mx (by kernel_rfl) (by kernel_rfl) (HasE.of hf ⟨rfl,rfl,rfl,rfl,rfl,trivial,trivial,trivial,trivial,trivial,trivial,trivial,trivial,trivial,trivial,trivial,trivial⟩) hc ⟨?_,?_,?_,?_,?_,?_,?_,?_,?_,?_,?_,?_,trivial⟩ ?_ ?_
   ·intro E θ a w hD hi hp he hc
    have hf := he.h0.mT he 0 rfl
    refine zL hf hc sc_91 m3 rfl fun a w hf hc => zD θ he hi hf 5 rfl rfl rfl hc
   ·intro E θ a w hD hi hp he hc
    have hf := he.h0.mT he 0 rfl
    refine zL hf hc sc_91 m3 rfl fun a w hf hc => zD θ he hi hf 6 rfl rfl rfl hc
   ·intro E θ a w hD hi hp he hc
    have e1 := hp.o 1 rfl
    have hf := he.h0.mP he 6 rfl e1
    refine sp 1 hf rfl fun a hf => zD θ he hi hf 7 rfl rfl rfl hc
   ·intro E θ a w hD hi hp he hc
    have e2 := hp.o 2 rfl
    have hf := he.h0.mP he 7 rfl e2
    refine zP hf rfl (pFA fa_95_1 rfl) fun a hf => zD θ he hi hf 8 rfl rfl rfl hc
   ·intro E θ a w hD hi hp he hc
    have e3 := hp.o 3 rfl
    have e11 := hD.f 0 rfl hi
    try dsimp only at hc
    rw [e11] at hc
    have hf := he.h0.mP he 8 rfl e3
    refine zL hf hc sc_60 m4 rfl fun a w hf hc => zD θ he hi hf 9 rfl rfl rfl ?_
    try dsimp only
    rw [updE_fls 4 e11 rfl]
    exact hc
   ·intro E θ a w hD hi hp he hc
    have hf := he.h0.mT he 1 rfl
    refine zN hf hc ag_97 m1 rfl fun a w hf hc => zD θ he hi hf 10 rfl rfl rfl hc
   ·intro E θ a w hD hi hp he hc
    have e5 := hp.o 5 rfl
    have hf := he.h0.mP he 10 rfl e5
    refine zQ (v := .agg #[i6 r_6.Lo,i6 r_6.Hi]) hf hc en_45 rfl (fun w hc => daily_Value_span_ok e_5 hc hr_6) fun a w hf hc => zD θ he hi hf 11 rfl rfl rfl hc
   ·intro E θ a w hD hi hp he hc
    have e6 := hp.o 6 rfl
    try dsimp only at hc
    rw [hi] at hc
    have hf := he.h0.mP he 11 rfl e6
    refine stBS (rows := ([r_6] : List api_Span).map enc_api_Span) (vs := [(0,.agg #[i6 r_6.Lo,i6 r_6.Hi])]) hf hc rfl rfl sl_60 rfl ⟨rfl,rfl,rfl,trivial⟩ rfl rfl fun b_11 a w hf hc => cNil ?_
    refine xThenN ?_
    intro ds u hau
    replace hc := hc.drop k1
    refine ⟨(setT θ 56 ⟨b_11,none,0,(fun _ => (none,0))⟩),he.put hi hau hf rfl [] trivial ⟨qq,qq,qq,qq,qq,qq,qq,qq,qq,qq,qq,qq,qq,qq,qq,qq,trivial⟩,?_⟩
    try dsimp only
    rw [updE_self E 7]
    exact hc
   ·intro E θ a w hD hi hp he hc
    have e4 := hp.o 4 rfl
    have e7 := hp.o 7 rfl
    have e11 := hD.f 1 rfl hi
    try dsimp only at hc
    rw [e7,hi,e11] at hc
    have hf := (he.h0.mP he 9 rfl e4).mP he 12 rfl e7
    refine stApm (xs := x_1) (ys := ([r_6] : List api_Span)) hf hc rfl rfl sl_60 rfl rfl rfl rfl rfl one_enc_api_Span (src_row hc m0) (fun _ _ => u2) (by simpa using room_spec hun) fun p_2 c_2 a w hf hc => cNil ?_
    refine xThenN ?_
    intro ds u hau
    refine ⟨(setT θ 64 ⟨0,p_2,c_2,(fun _ => (none,0))⟩),he.put hi hau hf rfl [] trivial ⟨qq,qq,qq,qq,qq,qq,qq,qq,qq,qq,qq,qq,qq,qq,qq,qq,trivial⟩,?_⟩
    try dsimp only
    rw [updE_tru 8 e7,updE_self E 8,updE_fls 8 e11 rfl]
    exact hc
   ·intro E θ a w hD hi hp he hc
    have e0 := hp.o 0 rfl
    have hf := he.h0.mP he 5 rfl e0
    refine sp 1 hf rfl fun a hf => zD θ he hi hf 14 rfl rfl rfl hc
   ·intro E θ a w hD hi hp he hc
    have e9 := hp.o 9 rfl
    have hf := he.h0.mP he 14 rfl e9
    refine zP hf rfl (pFA fa_95_1 rfl) fun a hf => zD θ he hi hf 15 rfl rfl rfl hc
   ·intro E θ a w hD hi hp he hc
    have e8 := hp.o 8 rfl
    have e10 := hp.o 10 rfl
    try dsimp only at hc
    rw [hi] at hc
    have hf := (he.h0.mP he 13 rfl e8).mP he 15 rfl e10
    refine zW hf hc sz_60 u4 rfl fun w hc => zG θ he hi hf rfl ?_
    try dsimp only
    rw [updE_self E 11]
    exact hc
   ·intro E θ a w hall he hc
    have hf := he.h0
    have e7 := hall 7 rfl
    have e8 := hall 8 rfl
    have e11 := hall 11 rfl
    replace hf := hf.more he 4 rfl (onT)
    replace hf := hf.more he 3 rfl (onT)
    replace hf := hf.more he 2 rfl (onT)
    replace hf := hf.more he 0 rfl (onT)
    try dsimp only at hc
    rw [e7,e8,e11] at hc
    exact ⟨(θ 56).b,(θ 64).p,(θ 64).c,hf.kp rfl,hc⟩
   rintro a w ⟨b_12,p_3,c_3,hf,hc⟩
   refine h24 _ _ ?_
   refine cReg ?_
   refine sp 2 hf rfl fun a hf => cNil ?_
   replace hc := (hc.drop k1).drop k0
   exact hK9 (W (x + 1),(x_1 ++ [r_6])) _ _ (sj hF).symm ⟨p_3,c_3,hf.kp rfl,hc⟩
  ·refine wp_exit ?_
   refine xThen ?_
   refine xThen ?_
   have he := sj hF
   rw [← he] at hfin9
   refine cHit ?_
   exact hr9 _ _ _ hfin9 ⟨p_1,c_1,hf.kp rfl,hc⟩

def daily_agreed_j3 (N : Nat) (e_1 : Int) : Option ((Int) ⊕ (Int × Int × (List api_Span) × Int)) :=
 some (.inl e_1)
def daily_agreed_j6 (N : Nat) (r_1 : Int × Int × (List api_Span) × Bool × Int) (e_2 : Int) : Option ((Int) ⊕ (Int × Int × (List api_Span) × Int)) :=
 some (.inr (r_1.1,r_1.2.1,r_1.2.2.1,e_2))
def daily_agreed (N : Nat) (r : daily_Record) : Option ((Int) ⊕ (Int × Int × (List api_Span) × Int)) :=
 Option.bind (daily_opened N r) (sumK (fun r_0 => cond ((r_0.2 == 0) && (!r_0.1))
 (daily_agreed_j3 N 7)
 (daily_agreed_j3 N r_0.2))
 (fun r_1 => cond ((r_1.2.2.2.2 == 0) && (!r_1.2.2.2.1))
 (daily_agreed_j6 N r_1 7)
 (daily_agreed_j6 N r_1 r_1.2.2.2.2)))
theorem daily_agreed_ok {N : Nat} {G : Pers} {Lf : List Ent} {w : World} (r : daily_Record) {r_Days_p : Option Addr} {r_Days_c : Nat} (h_r_Days : Rd G 3 r_Days_p r_Days_c (r.Days.map enc_daily_Value)) (hc : Ctx G (Lf) w) {res : (Int) ⊕ (Int × Int × (List api_Span) × Int)} (hF : daily_agreed N r = some res) : Calls Try.prog 38 #[.agg #[i6 r.Rise,i6 r.Fall,.slice r_Days_p r.Days.length r_Days_c]] w (fun e w => sumK (fun rr => e = .returned (.tuple #[.pointer none,i6 rr]) ∧ Ctx G (Lf) w) (fun rr => ∃ (b'1 : Nat) (p'1 : Option Addr) (c'1 : Nat),e = .returned (.tuple #[pq b'1,i6 rr.2.2.2]) ∧ Ctx G (.row p'1 c'1 (rr.2.2.1.map enc_api_Span) 68 2::.box b'1 [i6 rr.1,i6 rr.2.1,.slice r_Days_p r.Days.length r_Days_c,.slice p'1 rr.2.2.1.length c'1] 95::Lf) w) res) := by
 unfold daily_agreed at hF
 refine fnIn Try.func38 rfl Try.ntmps38 rfl fun a hf => zS fun K h => zB hf hc rfl fun b_1 a w hf hc => sp 2 hf rfl fun a hf => zT h ?_
 refine zS fun K h => zN hf hc ag_65 m0 rfl fun a w hf hc => ?_
 obtain ⟨r_0,hr_0,hF⟩ := bnd_some hF
 cases r_0 with
 | inl r_0 =>
  replace hF := sumKl hF
  refine zC hf en_64 rfl (daily_opened_ok r h_r_Days hc hr_0) ?_
  rintro _ w ⟨rfl,hc⟩
  refine ⟨_,rfl,fun a hf => ?_⟩
  refine sp 7 hf rfl fun a hf => zT h ?_
  refine wp_seq_k fun K3 h3 => ?_
  have hj3 : ∀ (e_1 : Int) a w,Has 21 a [(4,.pointer none),(6,i6 e_1)] → Ctx G (Lf) w → daily_agreed_j3 N e_1 = some res → K3 a w := by
   repeat (clear hF)
   repeat (clear hc)
   repeat (clear hf)
   intro e_1 a w hf hc hF
   unfold daily_agreed_j3 at hF
   refine h3 _ _ ?_
   refine zS fun K h => sp 4 hf rfl fun a hf => zT h ?_
   refine wp_ret ?_
   obtain rfl := sj hF
   exact zO2 Try.results38 hf rfl rfl ⟨rfl,hc⟩
  refine zS fun K h => sp 3 hf rfl fun a hf => stCc 3 (fun a => Has 21 a [(4,.pointer none),(5,.bool r_0.1),(6,i6 r_0.2),(13,i6 r_0.2),(14,.bool (r_0.2 == 0)),(15,.bool (r_0.2 == 0)),(18,.bool ((r_0.2 == 0) && (!r_0.1)))]) hc ?_ ?_
  ·cases hb : (r_0.2 == 0)
   ·rw [hb] at hf
    refine stS hf rfl rfl rfl fun a hf => stS hf rfl rfl rfl fun a hf => sp 1 hf rfl fun a hf => cNil ⟨hf.kp rfl,hc⟩
   ·rw [hb] at hf
    refine sp 3 hf rfl fun a hf => cNil ⟨hf.kp rfl,hc⟩
  intro a w ⟨hf,hc⟩
  refine zT h ?_
  refine zI hf rfl hF ?_ ?_ <;> clear hF <;> intro hF
  ·refine cReg ?_
   refine sp 1 hf rfl fun a hf => cNil ?_
   replace hc := hc.drop k0
   exact hj3 7 _ _  (hf.kp rfl) hc hF
  ·refine wp_skip ?_
   replace hc := hc.drop k0
   exact hj3 r_0.2 _ _  (hf.kp rfl) hc hF
 | inr r_1 =>
  replace hF := sumKr hF
  have hr_1 := hr_0
  refine zC hf en_64 rfl (daily_opened_ok r h_r_Days hc hr_1) ?_
  rintro _ w ⟨b_2,p_1,c_1,rfl,hc⟩
  refine ⟨_,rfl,fun a hf => ?_⟩
  refine sp 7 hf rfl fun a hf => zT h ?_
  refine wp_seq_k fun K6 h6 => ?_
  have hj6 : ∀ (e_2 : Int) a w,Has 21 a [(4,pq b_2),(6,i6 e_2)] → Ctx G (.row p_1 c_1 (r_1.2.2.1.map enc_api_Span) 68 2::.box b_2 [i6 r_1.1,i6 r_1.2.1,.slice r_Days_p r.Days.length r_Days_c,.slice p_1 r_1.2.2.1.length c_1] 95::Lf) w → daily_agreed_j6 N r_1 e_2 = some res → K6 a w := by
   repeat (clear hF)
   repeat (clear hc)
   repeat (clear hf)
   intro e_2 a w hf hc hF
   unfold daily_agreed_j6 at hF
   refine h6 _ _ ?_
   refine zS fun K h => sp 4 hf rfl fun a hf => zT h ?_
   refine wp_ret ?_
   obtain rfl := sj hF
   exact zO2 Try.results38 hf rfl rfl ⟨b_2,p_1,c_1,rfl,hc⟩
  refine zS fun K h => sp 3 hf rfl fun a hf => stCc 3 (fun a => Has 21 a [(4,pq b_2),(5,.bool r_1.2.2.2.1),(6,i6 r_1.2.2.2.2),(13,i6 r_1.2.2.2.2),(14,.bool (r_1.2.2.2.2 == 0)),(15,.bool (r_1.2.2.2.2 == 0)),(18,.bool ((r_1.2.2.2.2 == 0) && (!r_1.2.2.2.1)))]) hc ?_ ?_
  ·cases hb : (r_1.2.2.2.2 == 0)
   ·rw [hb] at hf
    refine stS hf rfl rfl rfl fun a hf => stS hf rfl rfl rfl fun a hf => sp 1 hf rfl fun a hf => cNil ⟨hf.kp rfl,hc⟩
   ·rw [hb] at hf
    refine sp 3 hf rfl fun a hf => cNil ⟨hf.kp rfl,hc⟩
  intro a w ⟨hf,hc⟩
  refine zT h ?_
  refine zI hf rfl hF ?_ ?_ <;> clear hF <;> intro hF
  ·refine cReg ?_
   refine sp 1 hf rfl fun a hf => cNil ?_
   replace hc := hc.drop k2
   exact hj6 7 _ _  (hf.kp rfl) hc hF
  ·refine wp_skip ?_
   replace hc := hc.drop k2
   exact hj6 r_1.2.2.2.2 _ _  (hf.kp rfl) hc hF

def daily_Fill (N : Nat) (r : daily_Record) : Option ((List api_Span) × Int) :=
 Option.bind (daily_agreed N r) (sumK (fun r_0 => cond (r_0 != 0)
 (some (([] : List api_Span),r_0))
 (none))
 (fun r_1 => cond (r_1.2.2.2 != 0)
 (some (([] : List api_Span),r_1.2.2.2))
 (some (r_1.2.2.1,0))))
theorem daily_Fill_ok {N : Nat} {G : Pers} {Lf : List Ent} {w : World} (r : daily_Record) {r_Days_p : Option Addr} {r_Days_c : Nat} (h_r_Days : Rd G 3 r_Days_p r_Days_c (r.Days.map enc_daily_Value)) (hc : Ctx G (Lf) w) {res : (List api_Span) × Int} (hF : daily_Fill N r = some res) : Calls Try.prog 21 #[.agg #[i6 r.Rise,i6 r.Fall,.slice r_Days_p r.Days.length r_Days_c]] w (fun e w => ∃ (p'1 : Option Addr) (c'1 : Nat),e = .returned (.tuple #[.slice p'1 res.1.length c'1,i6 res.2]) ∧ Ctx G (.row p'1 c'1 (res.1.map enc_api_Span) 68 2::Lf) w) := by
 unfold daily_Fill at hF
 refine fnIn Try.func21 rfl Try.ntmps21 rfl fun a hf => zS fun K h => zB hf hc rfl fun b_1 a w hf hc => sp 2 hf rfl fun a hf => zT h ?_
 refine zS fun K h => zN hf hc ag_65 m0 rfl fun a w hf hc => ?_
 obtain ⟨r_0,hr_0,hF⟩ := bnd_some hF
 cases r_0 with
 | inl r_0 =>
  replace hF := sumKl hF
  refine zC hf en_38 rfl (daily_agreed_ok r h_r_Days hc hr_0) ?_
  rintro _ w ⟨rfl,hc⟩
  refine ⟨_,rfl,fun a hf => ?_⟩
  refine sp 5 hf rfl fun a hf => zT h ?_
  refine wp_seq_k fun K3 h3 => zS fun K h => sp 2 hf rfl fun a hf => zT h ?_
  refine zI hf rfl hF ?_ ?_ <;> clear hF <;> intro hF
  ·refine zS fun K h => sp 3 hf rfl fun a hf => zT h ?_
   refine wp_ret ?_
   refine xThenR ?_
   obtain rfl := sj hF
   replace hc := hc.nilRow 68 2
   replace hc := hc.drop k1
   exact zO2 Try.results21 hf rfl rfl ⟨none,0,rfl,hc⟩
  ·refine wp_skip ?_
   refine h3 _ _ ?_
   refine wp_seq_k fun K6 h6 => noneO hF
 | inr r_1 =>
  replace hF := sumKr hF
  have hr_1 := hr_0
  refine zC hf en_38 rfl (daily_agreed_ok r h_r_Days hc hr_1) ?_
  rintro _ w ⟨b_2,p_1,c_1,rfl,hc⟩
  refine ⟨_,rfl,fun a hf => ?_⟩
  refine sp 5 hf rfl fun a hf => zT h ?_
  refine wp_seq_k fun K7 h7 => zS fun K h => sp 2 hf rfl fun a hf => zT h ?_
  refine zI hf rfl hF ?_ ?_ <;> clear hF <;> intro hF
  ·refine zS fun K h => sp 3 hf rfl fun a hf => zT h ?_
   refine wp_ret ?_
   refine xThenR ?_
   obtain rfl := sj hF
   replace hc := hc.nilRow 68 2
   replace hc := ((hc.drop k3).drop k2).drop k1
   exact zO2 Try.results21 hf rfl rfl ⟨none,0,rfl,hc⟩
  ·refine wp_skip ?_
   refine h7 _ _ ?_
   refine zS fun K h => sp 2 hf rfl fun a hf => zP hf rfl (pFA fa_95_1 rfl) fun a hf => zL hf hc sc_60 m1 rfl fun a w hf hc => sp 2 hf rfl fun a hf => zT h ?_
   refine wp_ret ?_
   obtain rfl := sj hF
   replace hc := (hc.drop k2).drop k1
   exact zO2 Try.results21 hf rfl rfl ⟨p_1,c_1,rfl,hc⟩

def daily_both  : Unit :=
 ()
theorem daily_both_ok {G : Pers} {Lf : List Ent} {w : World}    (hc : Ctx G (Lf) w) {res : Unit} (hF : daily_both = res) : Calls Try.prog 41 #[] w (fun e w => e = .returned (.agg #[.func (.func 68) #[] #[],.func (.func 69) #[] #[]]) ∧ Ctx G (Lf) w) := by
 unfold daily_both at hF
 refine fnIn Try.func41 rfl Try.ntmps41 rfl fun a hf => zS fun K h => zA hf hc zr_103 rfl fun b_1 a w hf hc => zT h ?_
 refine zS fun K h => zP hf rfl (pBuildS (cells := [.func (.func 68) #[] #[]]) bt_102 rfl rfl) fun a hf => zP hf rfl (pBuildS (cells := [.func (.func 69) #[] #[]]) bt_102 rfl rfl) fun a hf => zP hf rfl (pBuild (cells := [.func (.func 68) #[] #[],.func (.func 69) #[] #[]]) rfl (by rfl)) fun a hf => zW hf hc sz_103 u0 rfl fun w hc => zT h ?_
 refine wp_ret ?_
 obtain rfl := hF
 exact fnOut1 (by simp) rfl Try.results41 hf hc (rv_cellN (vs := [.func (.func 68) #[] #[],.func (.func 69) #[] #[]]) ag_103 rfl rfl (cells_box (n := 2) m0 rfl)) ⟨rfl,(hc.drop k0)⟩

def daily_both_1 (s_ : api_Span) : Int :=
 s_.Lo
theorem daily_both_1_ok {G : Pers} {Lf : List Ent} {w : World} (s_ : api_Span)   (hc : Ctx G (Lf) w) {res : Int} (hF : daily_both_1 s_ = res) : Calls Try.prog 68 #[.agg #[i6 s_.Lo,i6 s_.Hi]] w (fun e w => e = .returned (i6 res) ∧ Ctx G (Lf) w) := by
 unfold daily_both_1 at hF
 refine fnIn Try.func68 rfl Try.ntmps68 rfl fun a hf => zS fun K h => zB hf hc rfl fun b_1 a w hf hc => sp 1 hf rfl fun a hf => zT h ?_
 refine zS fun K h => zP hf rfl (pFA fa_68_0 rfl) fun a hf => zL hf hc sc_3 m0 rfl fun a w hf hc => sp 1 hf rfl fun a hf => zT h ?_
 refine wp_ret ?_
 obtain rfl := hF
 replace hc := hc.drop k0
 exact zO1 Try.results68 hf rfl ⟨rfl,hc⟩

def daily_ends_b5 (N : Nat) (l : List api_Span) (out : List Int) (x : Int) : Option (Step ((List Int) × Int) ((List Int))) :=
 cond (decide (x < ((l.length : Nat) : Int)))
 (Option.bind (getI l x) fun e_1 =>
 Option.bind (room ((out ++ [(daily_both_1 e_1)])).length) fun un =>
 some (.cont ((out ++ [(daily_both_1 e_1)]),W (x + 1))))
 (some (.brk (out,x)))
def daily_ends (N : Nat) (l : List api_Span) : Option ((List Int)) :=
 Option.bind (loopO (fun s5 => daily_ends_b5 N l s5.1 s5.2) N (([] : List Int),0)) fun x5 =>
 exK x5 (fun s5 => some s5.1) some
theorem daily_ends_ok {N : Nat} {G : Pers} {Lf : List Ent} {w : World} (l : List api_Span) {l_p : Option Addr} {l_c : Nat} (h_l : Rd G 2 l_p l_c (l.map enc_api_Span)) (hc : Ctx G (Lf) w) {res : (List Int)} (hF : daily_ends N l = some res) : Calls Try.prog 43 #[.slice l_p l.length l_c,.agg #[.func (.func 68) #[] #[]]] w (fun e w => ∃ (p'1 : Option Addr) (c'1 : Nat),e = .returned (.slice p'1 res.length c'1) ∧ Ctx G (.row p'1 c'1 (res.map encI_i64) 3 1::Lf) w) := by
 unfold daily_ends at hF
 refine fnIn Try.func43 rfl Try.ntmps43 rfl fun a hf => zS fun K h => zB hf hc rfl fun b_1 a w hf hc => sp 1 hf rfl fun a hf => zT h ?_
 refine zS fun K h => sp 1 hf rfl fun a hf => zT h ?_
 refine wp_seq_k fun K3 h3 => zS fun K h => sp 1 hf rfl fun a hf => zP hf rfl (pLenS Try.underlying60 rfl) fun a hf => sp 1 hf rfl fun a hf => zT h ?_
 refine wp_block ?_
 obtain ⟨x5,hx5,hF⟩ := bnd_some hF
 let S5 : ((List Int) × Int) → Act → World → Prop := (fun (zz : (List Int) × Int) a w => ∃ (p_1 : Option Addr) (c_1 : Nat),Has 23 a [(3,pq b_1),(5,.slice p_1 zz.1.length c_1),(8,.slice l_p l.length l_c),(9,i6 ((l.length : Nat) : Int)),(10,i6 zz.2)] ∧ Ctx G (.row p_1 c_1 (zz.1.map encI_i64) 3 1::.box b_1 [.func (.func 68) #[] #[]] 102::Lf) w)
 have hr5 : ∀ (zz : (List Int) × Int) a w,x5 = .go zz → S5 zz a w → K3 a w := by
  rintro ⟨out,x⟩ a w rfl ⟨p_1,c_1,hf,hc⟩
  replace hF := exK_go hF
  refine h3 _ _ ?_
  refine zS fun K h => sp 2 hf rfl fun a hf => zT h ?_
  refine wp_ret ?_
  obtain rfl := sj hF
  replace hc := hc.drop k1
  exact zO1 Try.results43 hf rfl ⟨p_1,c_1,rfl,hc⟩
 have ho5 : ∀ r,x5 = .out r → r = res := by
  rintro r rfl
  exact sj hF
 replace hc := hc.nilRow 3 1
 refine cLoop N (loopW (S := S5) (x := x5) ?_ N (([] : List Int),0) _ _ ⟨none,0,hf.kp rfl,hc⟩ hx5)
 clear hF hf hc
 rintro ⟨out,x⟩ st5 a w KB5 ⟨p_1,c_1,hf,hc⟩ hF hfin5 hK5
 unfold daily_ends_b5 at hF
 refine zS fun K h => sp 1 hf rfl fun a hf => zT h ?_
 refine wp_seq_k fun K8 h8 => zI hf rfl hF ?_ ?_ <;> clear hF <;> intro hF
 ·refine wp_skip ?_
  refine h8 _ _ ?_
  refine wp_seq_k fun K9 h9 => wp_block ?_
  refine zS fun K h => ?_
  obtain ⟨e_1,he_1,hF⟩ := bnd_some hF
  obtain ⟨b_2,o,qa,qp⟩ := h_l.atm he_1
  refine zP hf rfl (pIA Try.underlying60 sz_68 rfl rfl qa) fun a hf => zE hf hc rfl (eLdN (vs := [i6 e_1.Lo,i6 e_1.Hi]) ag_68 rfl rfl (cells_pc qp (n := 2) (o' := 0) rfl)) fun a w hf hc => zA hf hc zr_68 rfl fun b_3 a w hf hc => zW hf hc sz_68 u0 rfl fun w hc => zT h ?_
  refine cReg ?_
  refine sp 1 hf rfl fun a hf => zP hf rfl (pFA fa_102_0 rfl) fun a hf => zL hf hc sc_100 m2 rfl fun a w hf hc => zN hf hc ag_68 m0 rfl fun a w hf hc => zQ (v := i6 (daily_both_1 e_1)) hf hc en_68 rfl (fun w hc => daily_both_1_ok e_1 hc rfl) fun a w hf hc => stBS (rows := ([(daily_both_1 e_1)] : List Int).map encI_i64) (vs := [(0,i6 (daily_both_1 e_1))]) hf hc rfl rfl sl_27 rfl ⟨rfl,rfl,rfl,trivial⟩ rfl rfl fun b_4 a w hf hc => ?_
  obtain ⟨un,hun,hF⟩ := bnd_some hF
  refine stApm (xs := out) (ys := ([(daily_both_1 e_1)] : List Int)) hf hc rfl rfl sl_27 rfl rfl rfl rfl rfl one_encI_i64 (src_row hc m0) (fun _ _ => u2) (by simpa using room_spec hun) fun p_2 c_2 a w hf hc => sp 1 hf rfl fun a hf => cNil ?_
  refine h9 _ _ ?_
  refine cReg ?_
  refine sp 2 hf rfl fun a hf => cNil ?_
  replace hc := (hc.drop k1).drop k0
  exact hK5 ((out ++ [(daily_both_1 e_1)]),W (x + 1)) _ _ (sj hF).symm ⟨p_2,c_2,hf.kp rfl,hc⟩
 ·refine wp_exit ?_
  refine xThen ?_
  refine xThen ?_
  have he := sj hF
  rw [← he] at hfin5
  refine cHit ?_
  exact hr5 _ _ _ hfin5 ⟨p_1,c_1,hf.kp rfl,hc⟩

def daily_sum_b5 (N : Nat) (l : List Int) (out : Int) (x : Int) : Option (Step (Int × Int) (Int)) :=
 cond (decide (x < ((l.length : Nat) : Int)))
 (Option.bind (getI l x) fun e_1 =>
 some (.cont (W (out + e_1),W (x + 1))))
 (some (.brk (out,x)))
def daily_sum (N : Nat) (l : List Int) : Option (Int) :=
 Option.bind (loopO (fun s5 => daily_sum_b5 N l s5.1 s5.2) N (0,0)) fun x5 =>
 exK x5 (fun s5 => some s5.1) some
theorem daily_sum_ok {N : Nat} {G : Pers} {Lf : List Ent} {w : World} (l : List Int) {l_p : Option Addr} {l_c : Nat} (h_l : Rd G 1 l_p l_c (l.map encI_i64)) (hc : Ctx G (Lf) w) {res : Int} (hF : daily_sum N l = some res) : Calls Try.prog 42 #[.slice l_p l.length l_c] w (fun e w => e = .returned (i6 res) ∧ Ctx G (Lf) w) := by
 unfold daily_sum at hF
 refine fnIn Try.func42 rfl Try.ntmps42 rfl fun a hf => zS fun K h => sp 1 hf rfl fun a hf => zT h ?_
 refine zS fun K h => sp 1 hf rfl fun a hf => zT h ?_
 refine wp_seq_k fun K3 h3 => zS fun K h => sp 1 hf rfl fun a hf => zP hf rfl (pLenS Try.underlying27 rfl) fun a hf => sp 1 hf rfl fun a hf => zT h ?_
 refine wp_block ?_
 obtain ⟨x5,hx5,hF⟩ := bnd_some hF
 let S5 : (Int × Int) → Act → World → Prop := (fun (zz : Int × Int) a w => Has 17 a [(3,i6 zz.1),(6,.slice l_p l.length l_c),(7,i6 ((l.length : Nat) : Int)),(8,i6 zz.2)] ∧ Ctx G (Lf) w)
 have hr5 : ∀ (zz : Int × Int) a w,x5 = .go zz → S5 zz a w → K3 a w := by
  rintro ⟨out,x⟩ a w rfl ⟨hf,hc⟩
  replace hF := exK_go hF
  refine h3 _ _ ?_
  refine zS fun K h => sp 2 hf rfl fun a hf => zT h ?_
  refine wp_ret ?_
  obtain rfl := sj hF
  exact zO1 Try.results42 hf rfl ⟨rfl,hc⟩
 have ho5 : ∀ r,x5 = .out r → r = res := by
  rintro r rfl
  exact sj hF
 refine cLoop N (loopW (S := S5) (x := x5) ?_ N (0,0) _ _ ⟨hf.kp rfl,hc⟩ hx5)
 clear hF hf hc
 rintro ⟨out,x⟩ st5 a w KB5 ⟨hf,hc⟩ hF hfin5 hK5
 unfold daily_sum_b5 at hF
 refine zS fun K h => sp 1 hf rfl fun a hf => zT h ?_
 refine wp_seq_k fun K8 h8 => zI hf rfl hF ?_ ?_ <;> clear hF <;> intro hF
 ·refine wp_skip ?_
  refine h8 _ _ ?_
  refine wp_seq_k fun K9 h9 => wp_block ?_
  refine zS fun K h => ?_
  obtain ⟨e_1,he_1,hF⟩ := bnd_some hF
  obtain ⟨b_1,o,qa,qp⟩ := h_l.atm he_1
  refine zP hf rfl (pIA Try.underlying27 sz_3 rfl rfl qa) fun a hf => zE hf hc rfl (eLd1 sc_3 rfl (cell_pc (j := 0) qp rfl)) fun a w hf hc => sp 1 hf rfl fun a hf => zT h ?_
  refine cReg ?_
  refine sp 4 hf rfl fun a hf => cNil ?_
  refine h9 _ _ ?_
  refine cReg ?_
  refine sp 2 hf rfl fun a hf => cNil ?_
  exact hK5 (W (out + e_1),W (x + 1)) _ _ (sj hF).symm ⟨hf.kp rfl,hc⟩
 ·refine wp_exit ?_
  refine xThen ?_
  refine xThen ?_
  have he := sj hF
  rw [← he] at hfin5
  refine cHit ?_
  exact hr5 _ _ _ hfin5 ⟨hf.kp rfl,hc⟩

def daily_both_2 (s_ : api_Span) : Int :=
 s_.Hi
theorem daily_both_2_ok {G : Pers} {Lf : List Ent} {w : World} (s_ : api_Span)   (hc : Ctx G (Lf) w) {res : Int} (hF : daily_both_2 s_ = res) : Calls Try.prog 69 #[.agg #[i6 s_.Lo,i6 s_.Hi]] w (fun e w => e = .returned (i6 res) ∧ Ctx G (Lf) w) := by
 unfold daily_both_2 at hF
 refine fnIn Try.func69 rfl Try.ntmps69 rfl fun a hf => zS fun K h => zB hf hc rfl fun b_1 a w hf hc => sp 1 hf rfl fun a hf => zT h ?_
 refine zS fun K h => zP hf rfl (pFA fa_68_1 rfl) fun a hf => zL hf hc sc_3 m0 rfl fun a w hf hc => sp 1 hf rfl fun a hf => zT h ?_
 refine wp_ret ?_
 obtain rfl := hF
 replace hc := hc.drop k0
 exact zO1 Try.results69 hf rfl ⟨rfl,hc⟩

def daily_ends_s2_b5 (N : Nat) (l : List api_Span) (out : List Int) (x : Int) : Option (Step ((List Int) × Int) ((List Int))) :=
 cond (decide (x < ((l.length : Nat) : Int)))
 (Option.bind (getI l x) fun e_1 =>
 Option.bind (room ((out ++ [(daily_both_2 e_1)])).length) fun un =>
 some (.cont ((out ++ [(daily_both_2 e_1)]),W (x + 1))))
 (some (.brk (out,x)))
def daily_ends_s2 (N : Nat) (l : List api_Span) : Option ((List Int)) :=
 Option.bind (loopO (fun s5 => daily_ends_s2_b5 N l s5.1 s5.2) N (([] : List Int),0)) fun x5 =>
 exK x5 (fun s5 => some s5.1) some
theorem daily_ends_s2_ok {N : Nat} {G : Pers} {Lf : List Ent} {w : World} (l : List api_Span) {l_p : Option Addr} {l_c : Nat} (h_l : Rd G 2 l_p l_c (l.map enc_api_Span)) (hc : Ctx G (Lf) w) {res : (List Int)} (hF : daily_ends_s2 N l = some res) : Calls Try.prog 43 #[.slice l_p l.length l_c,.agg #[.func (.func 69) #[] #[]]] w (fun e w => ∃ (p'1 : Option Addr) (c'1 : Nat),e = .returned (.slice p'1 res.length c'1) ∧ Ctx G (.row p'1 c'1 (res.map encI_i64) 3 1::Lf) w) := by
 unfold daily_ends_s2 at hF
 refine fnIn Try.func43 rfl Try.ntmps43 rfl fun a hf => zS fun K h => zB hf hc rfl fun b_1 a w hf hc => sp 1 hf rfl fun a hf => zT h ?_
 refine zS fun K h => sp 1 hf rfl fun a hf => zT h ?_
 refine wp_seq_k fun K3 h3 => zS fun K h => sp 1 hf rfl fun a hf => zP hf rfl (pLenS Try.underlying60 rfl) fun a hf => sp 1 hf rfl fun a hf => zT h ?_
 refine wp_block ?_
 obtain ⟨x5,hx5,hF⟩ := bnd_some hF
 let S5 : ((List Int) × Int) → Act → World → Prop := (fun (zz : (List Int) × Int) a w => ∃ (p_1 : Option Addr) (c_1 : Nat),Has 23 a [(3,pq b_1),(5,.slice p_1 zz.1.length c_1),(8,.slice l_p l.length l_c),(9,i6 ((l.length : Nat) : Int)),(10,i6 zz.2)] ∧ Ctx G (.row p_1 c_1 (zz.1.map encI_i64) 3 1::.box b_1 [.func (.func 69) #[] #[]] 102::Lf) w)
 have hr5 : ∀ (zz : (List Int) × Int) a w,x5 = .go zz → S5 zz a w → K3 a w := by
  rintro ⟨out,x⟩ a w rfl ⟨p_1,c_1,hf,hc⟩
  replace hF := exK_go hF
  refine h3 _ _ ?_
  refine zS fun K h => sp 2 hf rfl fun a hf => zT h ?_
  refine wp_ret ?_
  obtain rfl := sj hF
  replace hc := hc.drop k1
  exact zO1 Try.results43 hf rfl ⟨p_1,c_1,rfl,hc⟩
 have ho5 : ∀ r,x5 = .out r → r = res := by
  rintro r rfl
  exact sj hF
 replace hc := hc.nilRow 3 1
 refine cLoop N (loopW (S := S5) (x := x5) ?_ N (([] : List Int),0) _ _ ⟨none,0,hf.kp rfl,hc⟩ hx5)
 clear hF hf hc
 rintro ⟨out,x⟩ st5 a w KB5 ⟨p_1,c_1,hf,hc⟩ hF hfin5 hK5
 unfold daily_ends_s2_b5 at hF
 refine zS fun K h => sp 1 hf rfl fun a hf => zT h ?_
 refine wp_seq_k fun K8 h8 => zI hf rfl hF ?_ ?_ <;> clear hF <;> intro hF
 ·refine wp_skip ?_
  refine h8 _ _ ?_
  refine wp_seq_k fun K9 h9 => wp_block ?_
  refine zS fun K h => ?_
  obtain ⟨e_1,he_1,hF⟩ := bnd_some hF
  obtain ⟨b_2,o,qa,qp⟩ := h_l.atm he_1
  refine zP hf rfl (pIA Try.underlying60 sz_68 rfl rfl qa) fun a hf => zE hf hc rfl (eLdN (vs := [i6 e_1.Lo,i6 e_1.Hi]) ag_68 rfl rfl (cells_pc qp (n := 2) (o' := 0) rfl)) fun a w hf hc => zA hf hc zr_68 rfl fun b_3 a w hf hc => zW hf hc sz_68 u0 rfl fun w hc => zT h ?_
  refine cReg ?_
  refine sp 1 hf rfl fun a hf => zP hf rfl (pFA fa_102_0 rfl) fun a hf => zL hf hc sc_100 m2 rfl fun a w hf hc => zN hf hc ag_68 m0 rfl fun a w hf hc => zQ (v := i6 (daily_both_2 e_1)) hf hc en_69 rfl (fun w hc => daily_both_2_ok e_1 hc rfl) fun a w hf hc => stBS (rows := ([(daily_both_2 e_1)] : List Int).map encI_i64) (vs := [(0,i6 (daily_both_2 e_1))]) hf hc rfl rfl sl_27 rfl ⟨rfl,rfl,rfl,trivial⟩ rfl rfl fun b_4 a w hf hc => ?_
  obtain ⟨un,hun,hF⟩ := bnd_some hF
  refine stApm (xs := out) (ys := ([(daily_both_2 e_1)] : List Int)) hf hc rfl rfl sl_27 rfl rfl rfl rfl rfl one_encI_i64 (src_row hc m0) (fun _ _ => u2) (by simpa using room_spec hun) fun p_2 c_2 a w hf hc => sp 1 hf rfl fun a hf => cNil ?_
  refine h9 _ _ ?_
  refine cReg ?_
  refine sp 2 hf rfl fun a hf => cNil ?_
  replace hc := (hc.drop k1).drop k0
  exact hK5 ((out ++ [(daily_both_2 e_1)]),W (x + 1)) _ _ (sj hF).symm ⟨p_2,c_2,hf.kp rfl,hc⟩
 ·refine wp_exit ?_
  refine xThen ?_
  refine xThen ?_
  have he := sj hF
  rw [← he] at hfin5
  refine cHit ?_
  exact hr5 _ _ _ hfin5 ⟨p_1,c_1,hf.kp rfl,hc⟩

def daily_Volume (N : Nat) (r : daily_Record) (from_ : Int) (to_ : Int) : Option (api_Span × Int) :=
 Option.bind (daily_Check N r) fun r_0 =>
 cond (r_0 != 0)
 (some ((⟨0,0⟩ : api_Span),r_0))
 (cond ((!(daily_in from_ 0 to_)) || (decide (((r.Days.length : Nat) : Int) ≤ to_)))
 (some ((⟨0,0⟩ : api_Span),2))
 (Option.bind (daily_agreed N r) (sumK (fun r_1 => cond (r_1 != 0)
 (some ((⟨0,0⟩ : api_Span),r_1))
 (none))
 (fun r_2 => cond (r_2.2.2.2 != 0)
 (some ((⟨0,0⟩ : api_Span),r_2.2.2.2))
 (Option.bind (subO r_2.2.2.1 from_ (W (to_ + 1))) fun sub =>
 Option.bind (daily_ends N sub) fun r_3 =>
 Option.bind (daily_sum N r_3) fun r_4 =>
 Option.bind (daily_ends_s2 N sub) fun r_5 =>
 Option.bind (daily_sum N r_5) fun r_6 =>
 some ((⟨r_4,r_6⟩ : api_Span),0))))))
theorem daily_Volume_ok {N : Nat} {G : Pers} {Lf : List Ent} {w : World} (r : daily_Record) (from_ : Int) (to_ : Int) {r_Days_p : Option Addr} {r_Days_c : Nat} (h_r_Days : Rd G 3 r_Days_p r_Days_c (r.Days.map enc_daily_Value)) (hc : Ctx G (Lf) w) {res : api_Span × Int} (hF : daily_Volume N r from_ to_ = some res) : Calls Try.prog 23 #[.agg #[i6 r.Rise,i6 r.Fall,.slice r_Days_p r.Days.length r_Days_c],i6 from_,i6 to_] w (fun e w => e = .returned (.tuple #[.agg #[i6 res.1.Lo,i6 res.1.Hi],i6 res.2]) ∧ Ctx G (Lf) w) := by
 unfold daily_Volume at hF
 refine fnIn Try.func23 rfl Try.ntmps23 rfl fun a hf => zS fun K h => zB hf hc rfl fun b_1 a w hf hc => zA hf hc zr_68 rfl fun b_2 a w hf hc => sp 1 hf rfl fun a hf => zT h ?_
 refine wp_seq_k fun K2 h2 => zS fun K h => zN hf hc ag_65 m1 rfl fun a w hf hc => ?_
 obtain ⟨r_0,hr_0,hF⟩ := bnd_some hF
 refine zQ (v := i6 r_0) hf hc en_40 rfl (fun w hc => daily_Check_ok r h_r_Days hc hr_0) fun a w hf hc => sp 1 hf rfl fun a hf => zT h ?_
 refine zS fun K h => sp 2 hf rfl fun a hf => zT h ?_
 refine zI hf rfl hF ?_ ?_ <;> clear hF <;> intro hF
 ·refine zS fun K h => zP hf rfl (pBuildS (cells := [i6 0,i6 0]) bt_68 rfl rfl) fun a hf => sp 1 hf rfl fun a hf => zW hf hc sz_68 u0 rfl fun w hc => sp 1 hf rfl fun a hf => zT h ?_
  refine wp_ret ?_
  refine xThenR ?_
  obtain rfl := sj hF
  replace hc := hc.drop k1
  exact fnOut2 (by simp) rfl Try.results23 hf hc (rv_cellN (vs := [i6 0,i6 0]) ag_68 rfl rfl (cells_box (n := 2) m0 rfl)) (show look _ 7 = _ from rfl) ⟨rfl,(hc.drop k0)⟩
 ·refine wp_skip ?_
  refine h2 _ _ ?_
  refine wp_seq_k fun K6 h6 => zS fun K h => sp 2 hf rfl fun a hf => zQ (v := .bool (daily_in from_ 0 to_)) hf hc en_30 rfl (fun w hc => daily_in_ok from_ 0 to_ hc rfl) fun a w hf hc => sp 2 hf rfl fun a hf => stCc 6 (fun a => Has 60 a [(1,i6 from_),(2,i6 to_),(3,pq b_1),(6,pq b_2),(19,i6 from_),(20,i6 to_),(21,.bool (daily_in from_ 0 to_)),(22,.bool (!(daily_in from_ 0 to_))),(23,.bool (!(daily_in from_ 0 to_))),(29,.bool ((!(daily_in from_ 0 to_)) || (decide (((r.Days.length : Nat) : Int) ≤ to_))))]) hc ?_ ?_
  ·cases hb : (!(daily_in from_ 0 to_))
   ·rw [hb] at hf
    refine sp 1 hf rfl fun a hf => zP hf rfl (pFA fa_65_2 rfl) fun a hf => zL hf hc sc_63 m1 rfl fun a w hf hc => zP hf rfl (pLenS Try.underlying63 rfl) fun a hf => sp 2 hf rfl fun a hf => cNil ⟨hf.kp rfl,hc⟩
   ·rw [hb] at hf
    refine stS hf rfl rfl rfl fun a hf => stS hf rfl rfl rfl fun a hf => stS hf rfl rfl rfl fun a hf => stS hf rfl rfl rfl fun a hf => stS hf rfl rfl rfl fun a hf => sp 1 hf rfl fun a hf => cNil ⟨hf.kp rfl,hc⟩
  intro a w ⟨hf,hc⟩
  refine zT h ?_
  refine zI hf rfl hF ?_ ?_ <;> clear hF <;> intro hF
  ·refine zS fun K h => zP hf rfl (pBuildS (cells := [i6 0,i6 0]) bt_68 rfl rfl) fun a hf => zW hf hc sz_68 u0 rfl fun w hc => sp 1 hf rfl fun a hf => zT h ?_
   refine wp_ret ?_
   refine xThenR ?_
   obtain rfl := sj hF
   replace hc := hc.drop k1
   exact fnOut2 (by simp) rfl Try.results23 hf hc (rv_cellN (vs := [i6 0,i6 0]) ag_68 rfl rfl (cells_box (n := 2) m0 rfl)) (show look _ 7 = _ from rfl) ⟨rfl,(hc.drop k0)⟩
  ·refine wp_skip ?_
   refine h6 _ _ ?_
   refine zS fun K h => zN hf hc ag_65 m1 rfl fun a w hf hc => ?_
   obtain ⟨r_1,hr_1,hF⟩ := bnd_some hF
   cases r_1 with
   | inl r_1 =>
    replace hF := sumKl hF
    refine zC hf en_38 rfl (daily_agreed_ok r h_r_Days hc hr_1) ?_
    rintro _ w ⟨rfl,hc⟩
    refine ⟨_,rfl,fun a hf => ?_⟩
    refine sp 5 hf rfl fun a hf => zT h ?_
    refine wp_seq_k fun K10 h10 => zS fun K h => sp 2 hf rfl fun a hf => zT h ?_
    refine zI hf rfl hF ?_ ?_ <;> clear hF <;> intro hF
    ·refine zS fun K h => zP hf rfl (pBuildS (cells := [i6 0,i6 0]) bt_68 rfl rfl) fun a hf => sp 1 hf rfl fun a hf => zW hf hc sz_68 u0 rfl fun w hc => sp 1 hf rfl fun a hf => zT h ?_
     refine wp_ret ?_
     refine xThenR ?_
     obtain rfl := sj hF
     replace hc := hc.drop k1
     exact fnOut2 (by simp) rfl Try.results23 hf hc (rv_cellN (vs := [i6 0,i6 0]) ag_68 rfl rfl (cells_box (n := 2) m0 rfl)) (show look _ 7 = _ from rfl) ⟨rfl,(hc.drop k0)⟩
    ·refine wp_skip ?_
     refine h10 _ _ ?_
     refine wp_seq_k fun K13 h13 => noneO hF
   | inr r_2 =>
    replace hF := sumKr hF
    have hr_2 := hr_1
    refine zC hf en_38 rfl (daily_agreed_ok r h_r_Days hc hr_2) ?_
    rintro _ w ⟨b_3,p_1,c_1,rfl,hc⟩
    refine ⟨_,rfl,fun a hf => ?_⟩
    refine sp 5 hf rfl fun a hf => zT h ?_
    refine wp_seq_k fun K14 h14 => zS fun K h => sp 2 hf rfl fun a hf => zT h ?_
    refine zI hf rfl hF ?_ ?_ <;> clear hF <;> intro hF
    ·refine zS fun K h => zP hf rfl (pBuildS (cells := [i6 0,i6 0]) bt_68 rfl rfl) fun a hf => sp 1 hf rfl fun a hf => zW hf hc sz_68 u2 rfl fun w hc => sp 1 hf rfl fun a hf => zT h ?_
     refine wp_ret ?_
     refine xThenR ?_
     obtain rfl := sj hF
     replace hc := ((hc.drop k3).drop k1).drop k0
     exact fnOut2 (by simp) rfl Try.results23 hf hc (rv_cellN (vs := [i6 0,i6 0]) ag_68 rfl rfl (cells_box (n := 2) m0 rfl)) (show look _ 7 = _ from rfl) ⟨rfl,(hc.drop k0)⟩
    ·refine wp_skip ?_
     refine h14 _ _ ?_
     refine wp_seq_k fun K17 h17 => ?_
     have qc := row_cap hc m0
     obtain ⟨sub,hsub,hF⟩ := bnd_some hF
     replace hc := hc.nilRow 0 0
     refine regionE (fun θ => [⟨none,none,1,i6 from_⟩,⟨none,none,2,i6 to_⟩,⟨none,none,6,pq b_2⟩,⟨none,none,9,pq b_3⟩,⟨some 0,none,40,pq b_3⟩,⟨some 1,none,41,pq b_3⟩,⟨some 2,none,42,.pointer (some ⟨b_3,3,none⟩)⟩,⟨some 3,none,43,.slice p_1 r_2.2.2.1.length c_1⟩,⟨some 4,none,44,i6 from_⟩,⟨some 5,none,45,i6 to_⟩,⟨some 6,none,46,i6 (W (to_ + 1))⟩,⟨some 7,none,47,.slice (subP p_1 c_1 from_.toNat 2) sub.length (c_1 - from_.toNat)⟩,⟨some 8,none,48,.agg #[.func (.func 68) #[] #[],.func (.func 69) #[] #[]]⟩,⟨some 9,none,12,.pointer (some ⟨(θ 72).b,0,none⟩)⟩,⟨some 10,none,11,.slice (subP p_1 c_1 from_.toNat 2) sub.length (c_1 - from_.toNat)⟩]) (fun E θ => (bif E 11 then .box (θ 72).b [.func (.func 68) #[] #[],.func (.func 69) #[] #[]] 103 else bif E 9 then .box (θ 72).b [.nilFunc,.nilFunc] 103 else .row none 0 [] 0 0)::.row p_1 c_1 (r_2.2.2.1.map enc_api_Span) 68 2::.box b_3 [i6 r_2.1,i6 r_2.2.1,.slice r_Days_p r.Days.length r_Days_c,.slice p_1 r_2.2.2.1.length c_1] 95::.box b_2 [i6 0,i6 0] 68::.box b_1 [i6 r.Rise,i6 r.Fall,.slice r_Days_p r.Days.length r_Days_c] 65::Lf) [(11,9)] (fun a w => ∃ (b_5 : Nat),Has 60 a [(6,pq b_2),(12,pq b_5),(11,.slice (subP p_1 c_1 from_.toNat 2) sub.length (c_1 - from_.toNat))] ∧ Ctx G (.box b_5 [.func (.func 68) #[] #[],.func (.func 69) #[] #[]] 103::.row p_1 c_1 (r_2.2.2.1.map enc_api_Span) 68 2::.box b_3 [i6 r_2.1,i6 r_2.2.1,.slice r_Days_p r.Days.length r_Days_c,.slice p_1 r_2.2.2.1.length c_1] 95::.box b_2 [i6 0,i6 0] 68::.box b_1 [i6 r.Rise,i6 r.Fall,.slice r_Days_p r.Days.length r_Days_c] 65::Lf) w) follows_mx (by kernel_rfl) (by kernel_rfl) (HasE.of hf ⟨rfl,rfl,rfl,rfl,trivial,trivial,trivial,trivial,trivial,trivial,trivial,trivial,trivial,trivial,trivial,trivial⟩) hc ⟨?_,?_,?_,?_,?_,?_,?_,?_,?_,?_,?_,?_,trivial⟩ ?_ ?_
     ·intro E θ a w hD hi hp he hc
      have hf := he.h0.mT he 3 rfl
      refine sp 1 hf rfl fun a hf => zD θ he hi hf 4 rfl rfl rfl hc
     ·intro E θ a w hD hi hp he hc
      have e0 := hp.o 0 rfl
      have hf := he.h0.mP he 4 rfl e0
      refine sp 1 hf rfl fun a hf => zD θ he hi hf 5 rfl rfl rfl hc
     ·intro E θ a w hD hi hp he hc
      have e1 := hp.o 1 rfl
      have hf := he.h0.mP he 5 rfl e1
      refine zP hf rfl (pFA fa_95_1 rfl) fun a hf => zD θ he hi hf 6 rfl rfl rfl hc
     ·intro E θ a w hD hi hp he hc
      have e2 := hp.o 2 rfl
      have hf := he.h0.mP he 6 rfl e2
      refine zL hf hc sc_60 m2 rfl fun a w hf hc => zD θ he hi hf 7 rfl rfl rfl hc
     ·intro E θ a w hD hi hp he hc
      have hf := he.h0.mT he 0 rfl
      refine sp 1 hf rfl fun a hf => zD θ he hi hf 8 rfl rfl rfl hc
     ·intro E θ a w hD hi hp he hc
      have hf := he.h0.mT he 1 rfl
      refine sp 1 hf rfl fun a hf => zD θ he hi hf 9 rfl rfl rfl hc
     ·intro E θ a w hD hi hp he hc
      have e5 := hp.o 5 rfl
      have hf := he.h0.mP he 9 rfl e5
      refine sp 1 hf rfl fun a hf => zD θ he hi hf 10 rfl rfl rfl hc
     ·intro E θ a w hD hi hp he hc
      have e3 := hp.o 3 rfl
      have e4 := hp.o 4 rfl
      have e6 := hp.o 6 rfl
      have hf := ((he.h0.mP he 7 rfl e3).mP he 8 rfl e4).mP he 10 rfl e6
      refine zP hf rfl (pSl Try.underlying60 sz_68 rfl rfl qc rfl rfl hsub) fun a hf => zD θ he hi hf 11 rfl rfl rfl hc
     ·intro E θ a w hD hi hp he hc
      have hf := he.h0
      refine zQ (v := .agg #[.func (.func 68) #[] #[],.func (.func 69) #[] #[]]) hf hc en_41 rfl (fun w hc => daily_both_ok hc rfl) fun a w hf hc => zD θ he hi hf 12 rfl rfl rfl hc
     ·intro E θ a w hD hi hp he hc
      have e11 := hD.f 0 rfl hi
      try dsimp only at hc
      rw [hi,e11] at hc
      have hf := he.h0
      refine zA hf hc zr_103 rfl fun b_4 a w hf hc => cNil ?_
      refine xThenN ?_
      intro ds u hau
      replace hc := hc.drop k1
      refine ⟨(setT θ 72 ⟨b_4,none,0,(fun _ => (none,0))⟩),he.put hi hau hf rfl [] trivial ⟨qq,qq,qq,qq,qq,qq,qq,qq,qq,qq,qq,qq,qq,qq,qq,trivial⟩,?_⟩
      try dsimp only
      rw [updE_self E 9,updE_fls 9 e11 rfl]
      exact hc
     ·intro E θ a w hD hi hp he hc
      have e7 := hp.o 7 rfl
      have hf := he.h0.mP he 11 rfl e7
      refine sp 1 hf rfl fun a hf => zD θ he hi hf 14 rfl rfl rfl hc
     ·intro E θ a w hD hi hp he hc
      have e8 := hp.o 8 rfl
      have e9 := hp.o 9 rfl
      try dsimp only at hc
      rw [e9,hi] at hc
      have hf := (he.h0.mP he 12 rfl e8).mP he 13 rfl e9
      refine zW hf hc sz_103 u0 rfl fun w hc => zG θ he hi hf rfl ?_
      try dsimp only
      rw [updE_tru 11 e9,updE_self E 11]
      exact hc
     ·intro E θ a w hall he hc
      have hf := he.h0
      have e9 := hall 9 rfl
      have e10 := hall 10 rfl
      have e11 := hall 11 rfl
      replace hf := hf.more he 14 rfl (onP e10)
      replace hf := hf.more he 13 rfl (onP e9)
      replace hf := hf.more he 2 rfl (onT)
      try dsimp only at hc
      rw [e9,e11] at hc
      exact ⟨(θ 72).b,hf.kp rfl,hc⟩
     rintro a w ⟨b_5,hf,hc⟩
     refine h17 _ _ ?_
     refine wp_seq_k fun K18 h18 => ?_
     obtain ⟨r_3,hr_3,hF⟩ := bnd_some hF
     obtain ⟨r_4,hr_4,hF⟩ := bnd_some hF
     obtain ⟨r_5,hr_5,hF⟩ := bnd_some hF
     obtain ⟨r_6,hr_6,hF⟩ := bnd_some hF
     replace hc := hc.nilRow 0 0
     replace hc := hc.nilRow 0 0
     refine regionE (fun θ => [⟨none,none,6,pq b_2⟩,⟨none,none,11,.slice (subP p_1 c_1 from_.toNat 2) sub.length (c_1 - from_.toNat)⟩,⟨none,none,12,pq b_5⟩,⟨some 0,none,49,.slice (subP p_1 c_1 from_.toNat 2) sub.length (c_1 - from_.toNat)⟩,⟨some 1,none,50,pq b_5⟩,⟨some 2,none,51,.agg #[.func (.func 68) #[] #[]]⟩,⟨some 3,none,52,.slice ((θ 24).p) r_3.length ((θ 24).c)⟩,⟨some 4,none,53,i6 r_4⟩,⟨some 5,none,54,.slice (subP p_1 c_1 from_.toNat 2) sub.length (c_1 - from_.toNat)⟩,⟨some 6,none,55,.pointer (some ⟨b_5,1,none⟩)⟩,⟨some 7,none,56,.agg #[.func (.func 69) #[] #[]]⟩,⟨some 8,none,57,.slice ((θ 64).p) r_5.length ((θ 64).c)⟩,⟨some 9,none,58,i6 r_6⟩,⟨some 10,none,59,.agg #[i6 r_4,i6 r_6]⟩,⟨some 12,none,7,i6 0⟩]) (fun E θ => (bif E 8 then .row ((θ 64).p) ((θ 64).c) (r_5.map encI_i64) 3 1 else .row none 0 [] 0 0)::(bif E 3 then .row ((θ 24).p) ((θ 24).c) (r_3.map encI_i64) 3 1 else .row none 0 [] 0 0)::.box b_5 [.func (.func 68) #[] #[],.func (.func 69) #[] #[]] 103::.row p_1 c_1 (r_2.2.2.1.map enc_api_Span) 68 2::.box b_3 [i6 r_2.1,i6 r_2.2.1,.slice r_Days_p r.Days.length r_Days_c,.slice p_1 r_2.2.2.1.length c_1] 95::(bif E 11 then .box b_2 [i6 r_4,i6 r_6] 68 else .box b_2 [i6 0,i6 0] 68)::.box b_1 [i6 r.Rise,i6 r.Fall,.slice r_Days_p r.Days.length r_Days_c] 65::Lf) [] (fun a w => ∃ (p_4 : Option Addr) (c_4 : Nat) (p_5 : Option Addr) (c_5 : Nat),Has 60 a [(6,pq b_2),(7,i6 0)] ∧ Ctx G (.row p_4 c_4 (r_5.map encI_i64) 3 1::.row p_5 c_5 (r_3.map encI_i64) 3 1::.box b_5 [.func (.func 68) #[] #[],.func (.func 69) #[] #[]] 103::.row p_1 c_1 (r_2.2.2.1.map enc_api_Span) 68 2::.box b_3 [i6 r_2.1,i6 r_2.2.1,.slice r_Days_p r.Days.length r_Days_c,.slice p_1 r_2.2.2.1.length c_1] 95::.box b_2 [i6 r_4,i6 r_6] 68::.box b_1 [i6 r.Rise,i6 r.Fall,.slice r_Days_p r.Days.length r_Days_c] 65::Lf) w) follows_mx (by kernel_rfl) (by kernel_rfl) (HasE.of hf ⟨rfl,rfl,rfl,trivial,trivial,trivial,trivial,trivial,trivial,trivial,trivial,trivial,trivial,trivial,trivial,trivial⟩) hc ⟨?_,?_,?_,?_,?_,?_,?_,?_,?_,?_,?_,?_,?_,trivial⟩ ?_ ?_
     ·intro E θ a w hD hi hp he hc
      have hf := he.h0.mT he 1 rfl
      refine sp 1 hf rfl fun a hf => zD θ he hi hf 3 rfl rfl rfl hc
     ·intro E θ a w hD hi hp he hc
      have hf := he.h0.mT he 2 rfl
      refine zP hf rfl (pIAA Try.underlying103 sz_102 rfl rfl (by decide) (by decide)) fun a hf => zD θ he hi hf 4 rfl rfl rfl hc
     ·intro E θ a w hD hi hp he hc
      have e1 := hp.o 1 rfl
      have hf := he.h0.mP he 4 rfl e1
      refine zN hf hc ag_102 m2 rfl fun a w hf hc => zD θ he hi hf 5 rfl rfl rfl hc
     ·intro E θ a w hD hi hp he hc
      have e0 := hp.o 0 rfl
      have e2 := hp.o 2 rfl
      try dsimp only at hc
      rw [hi] at hc
      have hf := (he.h0.mP he 3 rfl e0).mP he 5 rfl e2
      obtain ⟨G1,hle1,hrd1,hc,hth1⟩ := lend hc k3
      refine zC hf en_43 rfl (daily_ends_ok sub (Rd.sub hrd1 hsub) hc hr_3) ?_
      rintro _ w ⟨p_2,c_2,rfl,hc⟩
      refine ⟨_,rfl,fun a hf => ?_⟩
      replace hc := hth1 _ _ hc
      refine cNil ?_
      refine xThenN ?_
      intro ds u hau
      replace hc := ((((hc.drop k3).pick k0).pick k3).pick k2).pick k3
      refine ⟨(setT θ 24 ⟨0,p_2,c_2,(fun _ => (none,0))⟩),he.put hi hau hf rfl [] trivial ⟨qq,qq,qq,qq,qq,qq,qq,qq,qq,qq,qq,qq,qq,qq,qq,trivial⟩,?_⟩
      try dsimp only
      rw [updE_self E 3]
      exact hc
     ·intro E θ a w hD hi hp he hc
      have e3 := hp.o 3 rfl
      try dsimp only at hc
      rw [e3] at hc
      have hf := he.h0.mP he 6 rfl e3
      refine zQ (v := i6 r_4) hf hc en_42 rfl (fun w hc => by obtain ⟨G1,hle1,hrd1,hc,hth1⟩ := lend hc k1; exact (daily_sum_ok r_3 hrd1 hc hr_4).mono fun e w h => ⟨h.1,((hth1 _ _ h.2).unpick k1)⟩) fun a w hf hc => zD θ he hi hf 7 rfl rfl rfl ?_
      try dsimp only
      rw [updE_tru 4 e3]
      exact hc
     ·intro E θ a w hD hi hp he hc
      have hf := he.h0.mT he 1 rfl
      refine sp 1 hf rfl fun a hf => zD θ he hi hf 8 rfl rfl rfl hc
     ·intro E θ a w hD hi hp he hc
      have hf := he.h0.mT he 2 rfl
      refine zP hf rfl (pIAA Try.underlying103 sz_102 rfl rfl (by decide) (by decide)) fun a hf => zD θ he hi hf 9 rfl rfl rfl hc
     ·intro E θ a w hD hi hp he hc
      have e6 := hp.o 6 rfl
      have hf := he.h0.mP he 9 rfl e6
      refine zN hf hc ag_102 m2 rfl fun a w hf hc => zD θ he hi hf 10 rfl rfl rfl hc
     ·intro E θ a w hD hi hp he hc
      have e5 := hp.o 5 rfl
      have e7 := hp.o 7 rfl
      try dsimp only at hc
      rw [hi] at hc
      have hf := (he.h0.mP he 8 rfl e5).mP he 10 rfl e7
      obtain ⟨G1,hle1,hrd1,hc,hth1⟩ := lend hc k3
      refine zC hf en_43 rfl (daily_ends_s2_ok sub (Rd.sub hrd1 hsub) hc hr_5) ?_
      rintro _ w ⟨p_3,c_3,rfl,hc⟩
      refine ⟨_,rfl,fun a hf => ?_⟩
      replace hc := hth1 _ _ hc
      refine cNil ?_
      refine xThenN ?_
      intro ds u hau
      replace hc := ((((hc.drop k2).pick k0).pick k3).pick k3).pick k3
      refine ⟨(setT θ 64 ⟨0,p_3,c_3,(fun _ => (none,0))⟩),he.put hi hau hf rfl [] trivial ⟨qq,qq,qq,qq,qq,qq,qq,qq,qq,qq,qq,qq,qq,qq,qq,trivial⟩,?_⟩
      try dsimp only
      rw [updE_self E 8]
      exact hc
     ·intro E θ a w hD hi hp he hc
      have e8 := hp.o 8 rfl
      try dsimp only at hc
      rw [e8] at hc
      have hf := he.h0.mP he 11 rfl e8
      refine zQ (v := i6 r_6) hf hc en_42 rfl (fun w hc => by obtain ⟨G1,hle1,hrd1,hc,hth1⟩ := lend hc k0; exact (daily_sum_ok r_5 hrd1 hc hr_6).mono fun e w h => ⟨h.1,((hth1 _ _ h.2).unpick k0)⟩) fun a w hf hc => zD θ he hi hf 12 rfl rfl rfl ?_
      try dsimp only
      rw [updE_tru 9 e8]
      exact hc
     ·intro E θ a w hD hi hp he hc
      have e4 := hp.o 4 rfl
      have e9 := hp.o 9 rfl
      have hf := (he.h0.mP he 7 rfl e4).mP he 12 rfl e9
      refine zP hf rfl (pBuildS (cells := [i6 r_4,i6 r_6]) bt_68 rfl rfl) fun a hf => zD θ he hi hf 13 rfl rfl rfl hc
     ·intro E θ a w hD hi hp he hc
      have e10 := hp.o 10 rfl
      try dsimp only at hc
      rw [hi] at hc
      have hf := (he.h0.mT he 0 rfl).mP he 13 rfl e10
      refine zW hf hc sz_68 u5 rfl fun w hc => zG θ he hi hf rfl ?_
      try dsimp only
      rw [updE_self E 11]
      exact hc
     ·intro E θ a w hD hi hp he hc
      have hf := he.h0
      refine sp 1 hf rfl fun a hf => zD θ he hi hf 14 rfl rfl rfl hc
     ·intro E θ a w hall he hc
      have hf := he.h0
      have e3 := hall 3 rfl
      have e8 := hall 8 rfl
      have e11 := hall 11 rfl
      have e12 := hall 12 rfl
      replace hf := hf.more he 14 rfl (onP e12)
      replace hf := hf.more he 0 rfl (onT)
      try dsimp only at hc
      rw [e3,e8,e11] at hc
      exact ⟨(θ 64).p,(θ 64).c,(θ 24).p,(θ 24).c,hf.kp rfl,hc⟩
     rintro a w ⟨p_4,c_4,p_5,c_5,hf,hc⟩
     refine h18 _ _ ?_
     refine wp_ret ?_
     obtain rfl := sj hF
     replace hc := (((((hc.drop k6).drop k4).drop k3).drop k2).drop k1).drop k0
     exact fnOut2 (by simp) rfl Try.results23 hf hc (rv_cellN (vs := [i6 r_4,i6 r_6]) ag_68 rfl rfl (cells_box (n := 2) m0 rfl)) (show look _ 7 = _ from rfl) ⟨rfl,(hc.drop k0)⟩

def slices_Max_Lint_int_b7 (N : Nat) (x : List Int) (m : Int) (i_1 : Int) : Option (Step (Int × Int) (Int)) :=
 cond (decide (i_1 < ((x.length : Nat) : Int)))
 (Option.bind (getI x i_1) fun e_2 =>
 some (.cont (max m e_2,W (i_1 + 1))))
 (some (.brk (m,i_1)))
def slices_Max_Lint_int (N : Nat) (x : List Int) : Option (Int) :=
 cond (decide (((x.length : Nat) : Int) < 1))
 (none)
 (Option.bind (getI x 0) fun e_1 =>
 Option.bind (loopO (fun s7 => slices_Max_Lint_int_b7 N x s7.1 s7.2) N (e_1,1)) fun x7 =>
 exK x7 (fun s7 => some s7.1) some)
theorem slices_Max_Lint_int_ok {N : Nat} {G : Pers} {Lf : List Ent} {w : World} (x : List Int) {x_p : Option Addr} {x_c : Nat} (h_x : Rd G 1 x_p x_c (x.map encI_i64)) (hc : Ctx G (Lf) w) {res : Int} (hF : slices_Max_Lint_int N x = some res) : Calls Try.prog 44 #[.slice x_p x.length x_c] w (fun e w => e = .returned (i6 res) ∧ Ctx G (Lf) w) := by
 unfold slices_Max_Lint_int at hF
 refine fnIn Try.func44 rfl Try.ntmps44 rfl fun a hf => zS fun K h => sp 1 hf rfl fun a hf => zT h ?_
 refine wp_seq_k fun K2 h2 => zS fun K h => sp 1 hf rfl fun a hf => zP hf rfl (pLenS Try.underlying27 rfl) fun a hf => sp 1 hf rfl fun a hf => zT h ?_
 refine zI hf rfl hF ?_ ?_ <;> clear hF <;> intro hF
 ·exact noneO hF
 ·refine wp_skip ?_
  refine h2 _ _ ?_
  refine zS fun K h => sp 1 hf rfl fun a hf => ?_
  obtain ⟨e_1,he_1,hF⟩ := bnd_some hF
  obtain ⟨b_1,o,qa,qp⟩ := h_x.atm he_1
  refine zP hf rfl (pIA Try.underlying27 sz_3 rfl rfl qa) fun a hf => zE hf hc rfl (eLd1 sc_3 rfl (cell_pc (j := 0) qp rfl)) fun a w hf hc => sp 1 hf rfl fun a hf => zT h ?_
  refine wp_seq_k fun K5 h5 => zS fun K h => sp 1 hf rfl fun a hf => zT h ?_
  refine wp_block ?_
  obtain ⟨x7,hx7,hF⟩ := bnd_some hF
  let S7 : (Int × Int) → Act → World → Prop := (fun (zz : Int × Int) a w => Has 25 a [(0,.slice x_p x.length x_c),(3,i6 zz.1),(4,i6 zz.2)] ∧ Ctx G (Lf) w)
  have hr7 : ∀ (zz : Int × Int) a w,x7 = .go zz → S7 zz a w → K5 a w := by
   rintro ⟨m,i_1⟩ a w rfl ⟨hf,hc⟩
   replace hF := exK_go hF
   refine h5 _ _ ?_
   refine zS fun K h => sp 2 hf rfl fun a hf => zT h ?_
   refine wp_ret ?_
   obtain rfl := sj hF
   exact zO1 Try.results44 hf rfl ⟨rfl,hc⟩
  have ho7 : ∀ r,x7 = .out r → r = res := by
   rintro r rfl
   exact sj hF
  refine cLoop N (loopW (S := S7) (x := x7) ?_ N (e_1,1) _ _ ⟨hf.kp rfl,hc⟩ hx7)
  clear hF hf hc
  rintro ⟨m,i_1⟩ st7 a w KB7 ⟨hf,hc⟩ hF hfin7 hK7
  unfold slices_Max_Lint_int_b7 at hF
  refine wp_seq_k fun K9 h9 => zS fun K h => sp 2 hf rfl fun a hf => zP hf rfl (pLenS Try.underlying27 rfl) fun a hf => sp 1 hf rfl fun a hf => zT h ?_
  refine zI hf rfl hF ?_ ?_ <;> clear hF <;> intro hF
  ·refine wp_skip ?_
   refine h9 _ _ ?_
   refine wp_seq_k fun K11 h11 => wp_block ?_
   refine cReg ?_
   refine sp 3 hf rfl fun a hf => ?_
   obtain ⟨e_2,he_2,hF⟩ := bnd_some hF
   obtain ⟨b_2,o_1,qa_1,qp_1⟩ := h_x.atm he_2
   refine zP hf rfl (pIA Try.underlying27 sz_3 rfl rfl qa_1) fun a hf => zE hf hc rfl (eLd1 sc_3 rfl (cell_pc (j := 0) qp_1 rfl)) fun a w hf hc => zP hf rfl (pMax2 rfl rfl) fun a hf => sp 1 hf rfl fun a hf => cNil ?_
   refine h11 _ _ ?_
   refine cReg ?_
   refine sp 3 hf rfl fun a hf => cNil ?_
   exact hK7 (max m e_2,W (i_1 + 1)) _ _ (sj hF).symm ⟨hf.kp rfl,hc⟩
  ·refine wp_exit ?_
   refine xThen ?_
   refine xThen ?_
   have he := sj hF
   rw [← he] at hfin7
   refine cHit ?_
   exact hr7 _ _ _ hfin7 ⟨hf.kp rfl,hc⟩

def daily_Peak_j20 (N : Nat) (x : Int) (days_1 : List Int) : Option (Step ((List Int) × Int) (api_Span × (List Int) × Int)) :=
 some (.cont (days_1,W (x + 1)))
def daily_Peak_b16 (N : Nat) (r_1 : Int × Int × (List api_Span) × Int) (r_3 : Int) (days : List Int) (x : Int) : Option (Step ((List Int) × Int) (api_Span × (List Int) × Int)) :=
 cond (decide (x < ((r_1.2.2.1.length : Nat) : Int)))
 (Option.bind (getI r_1.2.2.1 x) fun e_1 =>
 cond (decide (r_3 ≤ e_1.Hi))
 (Option.bind (room ((days ++ [x])).length) fun un =>
 daily_Peak_j20 N x (days ++ [x]))
 (daily_Peak_j20 N x days))
 (some (.brk (days,x)))
def daily_Peak (N : Nat) (r : daily_Record) : Option (api_Span × (List Int) × Int) :=
 Option.bind (daily_agreed N r) (sumK (fun r_0 => cond (r_0 != 0)
 (some ((⟨0,0⟩ : api_Span),([] : List Int),r_0))
 (none))
 (fun r_1 => cond (r_1.2.2.2 != 0)
 (some ((⟨0,0⟩ : api_Span),([] : List Int),r_1.2.2.2))
 (Option.bind (daily_ends N r_1.2.2.1) fun r_2 =>
 Option.bind (slices_Max_Lint_int N r_2) fun r_3 =>
 Option.bind (daily_ends_s2 N r_1.2.2.1) fun r_4 =>
 Option.bind (slices_Max_Lint_int N r_4) fun r_5 =>
 Option.bind (loopO (fun s16 => daily_Peak_b16 N r_1 r_3 s16.1 s16.2) N (([] : List Int),0)) fun x16 =>
 exK x16 (fun s16 => some ((⟨r_3,r_5⟩ : api_Span),s16.1,0)) some)))
theorem daily_Peak_ok {N : Nat} {G : Pers} {Lf : List Ent} {w : World} (r : daily_Record) {r_Days_p : Option Addr} {r_Days_c : Nat} (h_r_Days : Rd G 3 r_Days_p r_Days_c (r.Days.map enc_daily_Value)) (hc : Ctx G (Lf) w) {res : api_Span × (List Int) × Int} (hF : daily_Peak N r = some res) : Calls Try.prog 24 #[.agg #[i6 r.Rise,i6 r.Fall,.slice r_Days_p r.Days.length r_Days_c]] w (fun e w => ∃ (p'1 : Option Addr) (c'1 : Nat),e = .returned (.tuple #[.agg #[i6 res.1.Lo,i6 res.1.Hi],.slice p'1 res.2.1.length c'1,i6 res.2.2]) ∧ Ctx G (.row p'1 c'1 (res.2.1.map encI_i64) 3 1::Lf) w) := by
 unfold daily_Peak at hF
 refine fnIn Try.func24 rfl Try.ntmps24 rfl fun a hf => zS fun K h => zB hf hc rfl fun b_1 a w hf hc => zA hf hc zr_68 rfl fun b_2 a w hf hc => sp 2 hf rfl fun a hf => zT h ?_
 refine zS fun K h => zN hf hc ag_65 m1 rfl fun a w hf hc => ?_
 obtain ⟨r_0,hr_0,hF⟩ := bnd_some hF
 cases r_0 with
 | inl r_0 =>
  replace hF := sumKl hF
  refine zC hf en_38 rfl (daily_agreed_ok r h_r_Days hc hr_0) ?_
  rintro _ w ⟨rfl,hc⟩
  refine ⟨_,rfl,fun a hf => ?_⟩
  refine sp 5 hf rfl fun a hf => zT h ?_
  refine wp_seq_k fun K3 h3 => zS fun K h => sp 2 hf rfl fun a hf => zT h ?_
  refine zI hf rfl hF ?_ ?_ <;> clear hF <;> intro hF
  ·refine zS fun K h => zP hf rfl (pBuildS (cells := [i6 0,i6 0]) bt_68 rfl rfl) fun a hf => sp 1 hf rfl fun a hf => zW hf hc sz_68 u0 rfl fun w hc => sp 2 hf rfl fun a hf => zT h ?_
   refine wp_ret ?_
   refine xThenR ?_
   obtain rfl := sj hF
   replace hc := hc.nilRow 3 1
   replace hc := hc.drop k2
   exact fnOut3 (by simp) rfl Try.results24 hf hc (rv_cellN (vs := [i6 0,i6 0]) ag_68 rfl rfl (cells_box (n := 2) m1 rfl)) (show look _ 3 = _ from rfl) (show look _ 4 = _ from rfl) ⟨none,0,rfl,(hc.drop k1)⟩
  ·refine wp_skip ?_
   refine h3 _ _ ?_
   refine zS fun K h => zQ (v := .agg #[.func (.func 68) #[] #[],.func (.func 69) #[] #[]]) hf hc en_41 rfl (fun w hc => daily_both_ok hc rfl) fun a w hf hc => zA hf hc zr_103 rfl fun b_3 a w hf hc => zW hf hc sz_103 u0 rfl fun w hc => zT h ?_
   refine wp_seq_k fun K7 h7 => noneO hF
 | inr r_1 =>
  replace hF := sumKr hF
  have hr_1 := hr_0
  refine zC hf en_38 rfl (daily_agreed_ok r h_r_Days hc hr_1) ?_
  rintro _ w ⟨b_4,p_1,c_1,rfl,hc⟩
  refine ⟨_,rfl,fun a hf => ?_⟩
  refine sp 5 hf rfl fun a hf => zT h ?_
  refine wp_seq_k fun K8 h8 => zS fun K h => sp 2 hf rfl fun a hf => zT h ?_
  refine zI hf rfl hF ?_ ?_ <;> clear hF <;> intro hF
  ·refine zS fun K h => zP hf rfl (pBuildS (cells := [i6 0,i6 0]) bt_68 rfl rfl) fun a hf => sp 1 hf rfl fun a hf => zW hf hc sz_68 u2 rfl fun w hc => sp 2 hf rfl fun a hf => zT h ?_
   refine wp_ret ?_
   refine xThenR ?_
   obtain rfl := sj hF
   replace hc := hc.nilRow 3 1
   replace hc := ((hc.drop k4).drop k2).drop k1
   exact fnOut3 (by simp) rfl Try.results24 hf hc (rv_cellN (vs := [i6 0,i6 0]) ag_68 rfl rfl (cells_box (n := 2) m1 rfl)) (show look _ 3 = _ from rfl) (show look _ 4 = _ from rfl) ⟨none,0,rfl,(hc.drop k1)⟩
  ·refine wp_skip ?_
   refine h8 _ _ ?_
   refine zS fun K h => zQ (v := .agg #[.func (.func 68) #[] #[],.func (.func 69) #[] #[]]) hf hc en_41 rfl (fun w hc => daily_both_ok hc rfl) fun a w hf hc => zA hf hc zr_103 rfl fun b_5 a w hf hc => zW hf hc sz_103 u0 rfl fun w hc => zT h ?_
   refine wp_seq_k fun K12 h12 => ?_
   obtain ⟨r_2,hr_2,hF⟩ := bnd_some hF
   obtain ⟨r_3,hr_3,hF⟩ := bnd_some hF
   obtain ⟨r_4,hr_4,hF⟩ := bnd_some hF
   obtain ⟨r_5,hr_5,hF⟩ := bnd_some hF
   replace hc := hc.nilRow 0 0
   replace hc := hc.nilRow 0 0
   replace hc := hc.nilRow 0 0
   refine regionE (fun θ => [⟨none,none,2,pq b_2⟩,⟨none,none,5,pq b_4⟩,⟨none,none,7,pq b_5⟩,⟨some 0,none,22,pq b_4⟩,⟨some 1,none,23,pq b_4⟩,⟨some 2,none,24,.pointer (some ⟨b_4,3,none⟩)⟩,⟨some 3,none,25,.slice p_1 r_1.2.2.1.length c_1⟩,⟨some 4,none,26,pq b_5⟩,⟨some 5,none,27,.agg #[.func (.func 68) #[] #[]]⟩,⟨some 6,none,28,.slice ((θ 48).p) r_2.length ((θ 48).c)⟩,⟨some 7,none,29,i6 r_3⟩,⟨some 8,none,30,pq b_4⟩,⟨some 9,none,31,pq b_4⟩,⟨some 10,none,32,.pointer (some ⟨b_4,3,none⟩)⟩,⟨some 11,none,33,.slice p_1 r_1.2.2.1.length c_1⟩,⟨some 12,none,34,.pointer (some ⟨b_5,1,none⟩)⟩,⟨some 13,none,35,.agg #[.func (.func 69) #[] #[]]⟩,⟨some 14,none,36,.slice ((θ 112).p) r_4.length ((θ 112).c)⟩,⟨some 15,none,37,i6 r_5⟩,⟨some 16,none,38,.agg #[i6 r_3,i6 r_5]⟩,⟨some 17,none,8,.pointer (some ⟨(θ 136).b,0,none⟩)⟩]) (fun E θ => (bif E 18 then .box (θ 136).b [i6 r_3,i6 r_5] 68 else bif E 17 then .box (θ 136).b [i6 0,i6 0] 68 else .row none 0 [] 0 0)::(bif E 14 then .row ((θ 112).p) ((θ 112).c) (r_4.map encI_i64) 3 1 else .row none 0 [] 0 0)::(bif E 6 then .row ((θ 48).p) ((θ 48).c) (r_2.map encI_i64) 3 1 else .row none 0 [] 0 0)::.box b_5 [.func (.func 68) #[] #[],.func (.func 69) #[] #[]] 103::.row p_1 c_1 (r_1.2.2.1.map enc_api_Span) 68 2::.box b_4 [i6 r_1.1,i6 r_1.2.1,.slice r_Days_p r.Days.length r_Days_c,.slice p_1 r_1.2.2.1.length c_1] 95::.box b_2 [i6 0,i6 0] 68::.box b_1 [i6 r.Rise,i6 r.Fall,.slice r_Days_p r.Days.length r_Days_c] 65::Lf) [(18,17)] (fun a w => ∃ (b_7 : Nat) (p_4 : Option Addr) (c_4 : Nat) (p_5 : Option Addr) (c_5 : Nat),Has 61 a [(2,pq b_2),(5,pq b_4),(8,pq b_7)] ∧ Ctx G (.box b_7 [i6 r_3,i6 r_5] 68::.row p_4 c_4 (r_4.map encI_i64) 3 1::.row p_5 c_5 (r_2.map encI_i64) 3 1::.box b_5 [.func (.func 68) #[] #[],.func (.func 69) #[] #[]] 103::.row p_1 c_1 (r_1.2.2.1.map enc_api_Span) 68 2::.box b_4 [i6 r_1.1,i6 r_1.2.1,.slice r_Days_p r.Days.length r_Days_c,.slice p_1 r_1.2.2.1.length c_1] 95::.box b_2 [i6 0,i6 0] 68::.box b_1 [i6 r.Rise,i6 r.Fall,.slice r_Days_p r.Days.length r_Days_c] 65::Lf) w) follows_mx (by kernel_rfl) (by kernel_rfl) (HasE.of hf ⟨rfl,rfl,rfl,trivial,trivial,trivial,trivial,trivial,trivial,trivial,trivial,trivial,trivial,trivial,trivial,trivial,trivial,trivial,trivial,trivial,trivial,trivial⟩) hc ⟨?_,?_,?_,?_,?_,?_,?_,?_,?_,?_,?_,?_,?_,?_,?_,?_,?_,?_,?_,trivial⟩ ?_ ?_
   ·intro E θ a w hD hi hp he hc
    have hf := he.h0.mT he 1 rfl
    refine sp 1 hf rfl fun a hf => zD θ he hi hf 3 rfl rfl rfl hc
   ·intro E θ a w hD hi hp he hc
    have e0 := hp.o 0 rfl
    have hf := he.h0.mP he 3 rfl e0
    refine sp 1 hf rfl fun a hf => zD θ he hi hf 4 rfl rfl rfl hc
   ·intro E θ a w hD hi hp he hc
    have e1 := hp.o 1 rfl
    have hf := he.h0.mP he 4 rfl e1
    refine zP hf rfl (pFA fa_95_1 rfl) fun a hf => zD θ he hi hf 5 rfl rfl rfl hc
   ·intro E θ a w hD hi hp he hc
    have e2 := hp.o 2 rfl
    have hf := he.h0.mP he 5 rfl e2
    refine zL hf hc sc_60 m5 rfl fun a w hf hc => zD θ he hi hf 6 rfl rfl rfl hc
   ·intro E θ a w hD hi hp he hc
    have hf := he.h0.mT he 2 rfl
    refine zP hf rfl (pIAA Try.underlying103 sz_102 rfl rfl (by decide) (by decide)) fun a hf => zD θ he hi hf 7 rfl rfl rfl hc
   ·intro E θ a w hD hi hp he hc
    have e4 := hp.o 4 rfl
    have hf := he.h0.mP he 7 rfl e4
    refine zN hf hc ag_102 m3 rfl fun a w hf hc => zD θ he hi hf 8 rfl rfl rfl hc
   ·intro E θ a w hD hi hp he hc
    have e3 := hp.o 3 rfl
    have e5 := hp.o 5 rfl
    try dsimp only at hc
    rw [hi] at hc
    have hf := (he.h0.mP he 6 rfl e3).mP he 8 rfl e5
    obtain ⟨G1,hle1,hrd1,hc,hth1⟩ := lend hc k4
    refine zC hf en_43 rfl (daily_ends_ok r_1.2.2.1 hrd1 hc hr_2) ?_
    rintro _ w ⟨p_2,c_2,rfl,hc⟩
    refine ⟨_,rfl,fun a hf => ?_⟩
    replace hc := hth1 _ _ hc
    refine cNil ?_
    refine xThenN ?_
    intro ds u hau
    replace hc := (((((hc.drop k4).pick k0).pick k4).pick k2).pick k4).pick k4
    refine ⟨(setT θ 48 ⟨0,p_2,c_2,(fun _ => (none,0))⟩),he.put hi hau hf rfl [] trivial ⟨qq,qq,qq,qq,qq,qq,qq,qq,qq,qq,qq,qq,qq,qq,qq,qq,qq,qq,qq,qq,qq,trivial⟩,?_⟩
    try dsimp only
    rw [updE_self E 6]
    exact hc
   ·intro E θ a w hD hi hp he hc
    have e6 := hp.o 6 rfl
    try dsimp only at hc
    rw [e6] at hc
    have hf := he.h0.mP he 9 rfl e6
    refine zQ (v := i6 r_3) hf hc en_44 rfl (fun w hc => by obtain ⟨G1,hle1,hrd1,hc,hth1⟩ := lend hc k2; exact (slices_Max_Lint_int_ok r_2 hrd1 hc hr_3).mono fun e w h => ⟨h.1,((hth1 _ _ h.2).unpick k2)⟩) fun a w hf hc => zD θ he hi hf 10 rfl rfl rfl ?_
    try dsimp only
    rw [updE_tru 7 e6]
    exact hc
   ·intro E θ a w hD hi hp he hc
    have hf := he.h0.mT he 1 rfl
    refine sp 1 hf rfl fun a hf => zD θ he hi hf 11 rfl rfl rfl hc
   ·intro E θ a w hD hi hp he hc
    have e8 := hp.o 8 rfl
    have hf := he.h0.mP he 11 rfl e8
    refine sp 1 hf rfl fun a hf => zD θ he hi hf 12 rfl rfl rfl hc
   ·intro E θ a w hD hi hp he hc
    have e9 := hp.o 9 rfl
    have hf := he.h0.mP he 12 rfl e9
    refine zP hf rfl (pFA fa_95_1 rfl) fun a hf => zD θ he hi hf 13 rfl rfl rfl hc
   ·intro E θ a w hD hi hp he hc
    have e10 := hp.o 10 rfl
    have hf := he.h0.mP he 13 rfl e10
    refine zL hf hc sc_60 m5 rfl fun a w hf hc => zD θ he hi hf 14 rfl rfl rfl hc
   ·intro E θ a w hD hi hp he hc
    have hf := he.h0.mT he 2 rfl
    refine zP hf rfl (pIAA Try.underlying103 sz_102 rfl rfl (by decide) (by decide)) fun a hf => zD θ he hi hf 15 rfl rfl rfl hc
   ·intro E θ a w hD hi hp he hc
    have e12 := hp.o 12 rfl
    have hf := he.h0.mP he 15 rfl e12
    refine zN hf hc ag_102 m3 rfl fun a w hf hc => zD θ he hi hf 16 rfl rfl rfl hc
   ·intro E θ a w hD hi hp he hc
    have e11 := hp.o 11 rfl
    have e13 := hp.o 13 rfl
    try dsimp only at hc
    rw [hi] at hc
    have hf := (he.h0.mP he 14 rfl e11).mP he 16 rfl e13
    obtain ⟨G1,hle1,hrd1,hc,hth1⟩ := lend hc k4
    refine zC hf en_43 rfl (daily_ends_s2_ok r_1.2.2.1 hrd1 hc hr_4) ?_
    rintro _ w ⟨p_3,c_3,rfl,hc⟩
    refine ⟨_,rfl,fun a hf => ?_⟩
    replace hc := hth1 _ _ hc
    refine cNil ?_
    refine xThenN ?_
    intro ds u hau
    replace hc := (((((hc.drop k3).pick k0).pick k4).pick k4).pick k3).pick k4
    refine ⟨(setT θ 112 ⟨0,p_3,c_3,(fun _ => (none,0))⟩),he.put hi hau hf rfl [] trivial ⟨qq,qq,qq,qq,qq,qq,qq,qq,qq,qq,qq,qq,qq,qq,qq,qq,qq,qq,qq,qq,qq,trivial⟩,?_⟩
    try dsimp only
    rw [updE_self E 14]
    exact hc
   ·intro E θ a w hD hi hp he hc
    have e14 := hp.o 14 rfl
    try dsimp only at hc
    rw [e14] at hc
    have hf := he.h0.mP he 17 rfl e14
    refine zQ (v := i6 r_5) hf hc en_44 rfl (fun w hc => by obtain ⟨G1,hle1,hrd1,hc,hth1⟩ := lend hc k1; exact (slices_Max_Lint_int_ok r_4 hrd1 hc hr_5).mono fun e w h => ⟨h.1,((hth1 _ _ h.2).unpick k1)⟩) fun a w hf hc => zD θ he hi hf 18 rfl rfl rfl ?_
    try dsimp only
    rw [updE_tru 15 e14]
    exact hc
   ·intro E θ a w hD hi hp he hc
    have e7 := hp.o 7 rfl
    have e15 := hp.o 15 rfl
    have hf := (he.h0.mP he 10 rfl e7).mP he 18 rfl e15
    refine zP hf rfl (pBuildS (cells := [i6 r_3,i6 r_5]) bt_68 rfl rfl) fun a hf => zD θ he hi hf 19 rfl rfl rfl hc
   ·intro E θ a w hD hi hp he hc
    have e18 := hD.f 0 rfl hi
    try dsimp only at hc
    rw [hi,e18] at hc
    have hf := he.h0
    refine zA hf hc zr_68 rfl fun b_6 a w hf hc => cNil ?_
    refine xThenN ?_
    intro ds u hau
    replace hc := hc.drop k1
    refine ⟨(setT θ 136 ⟨b_6,none,0,(fun _ => (none,0))⟩),he.put hi hau hf rfl [] trivial ⟨qq,qq,qq,qq,qq,qq,qq,qq,qq,qq,qq,qq,qq,qq,qq,qq,qq,qq,qq,qq,qq,trivial⟩,?_⟩
    try dsimp only
    rw [updE_self E 17,updE_fls 17 e18 rfl]
    exact hc
   ·intro E θ a w hD hi hp he hc
    have e16 := hp.o 16 rfl
    have e17 := hp.o 17 rfl
    try dsimp only at hc
    rw [e17,hi] at hc
    have hf := (he.h0.mP he 19 rfl e16).mP he 20 rfl e17
    refine zW hf hc sz_68 u0 rfl fun w hc => zG θ he hi hf rfl ?_
    try dsimp only
    rw [updE_tru 18 e17,updE_self E 18]
    exact hc
   ·intro E θ a w hall he hc
    have hf := he.h0
    have e6 := hall 6 rfl
    have e14 := hall 14 rfl
    have e17 := hall 17 rfl
    have e18 := hall 18 rfl
    replace hf := hf.more he 20 rfl (onP e17)
    replace hf := hf.more he 1 rfl (onT)
    replace hf := hf.more he 0 rfl (onT)
    try dsimp only at hc
    rw [e6,e14,e17,e18] at hc
    exact ⟨(θ 136).b,(θ 112).p,(θ 112).c,(θ 48).p,(θ 48).c,hf.kp rfl,hc⟩
   rintro a w ⟨b_7,p_4,c_4,p_5,c_5,hf,hc⟩
   refine h12 _ _ ?_
   refine zS fun K h => sp 1 hf rfl fun a hf => zT h ?_
   refine wp_seq_k fun K14 h14 => zS fun K h => sp 2 hf rfl fun a hf => zP hf rfl (pFA fa_95_1 rfl) fun a hf => zL hf hc sc_60 m5 rfl fun a w hf hc => zP hf rfl (pLenS Try.underlying60 rfl) fun a hf => sp 1 hf rfl fun a hf => zT h ?_
   refine wp_block ?_
   obtain ⟨x16,hx16,hF⟩ := bnd_some hF
   let S16 : ((List Int) × Int) → Act → World → Prop := (fun (zz : (List Int) × Int) a w => ∃ (p_6 : Option Addr) (c_6 : Nat) (p_7 : Option Addr) (c_7 : Nat),Has 61 a [(2,pq b_2),(8,pq b_7),(9,.slice p_6 zz.1.length c_6),(42,.slice p_7 r_1.2.2.1.length c_7),(43,i6 ((r_1.2.2.1.length : Nat) : Int)),(44,i6 zz.2)] ∧ Ctx G (.row p_6 c_6 (zz.1.map encI_i64) 3 1::.box b_7 [i6 r_3,i6 r_5] 68::.row p_7 c_7 (r_1.2.2.1.map enc_api_Span) 68 2::.box b_2 [i6 0,i6 0] 68::Lf) w)
   have hr16 : ∀ (zz : (List Int) × Int) a w,x16 = .go zz → S16 zz a w → K14 a w := by
    rintro ⟨days,x⟩ a w rfl ⟨p_6,c_6,p_7,c_7,hf,hc⟩
    replace hF := exK_go hF
    refine h14 _ _ ?_
    refine zS fun K h => zN hf hc ag_68 m1 rfl fun a w hf hc => sp 1 hf rfl fun a hf => zW hf hc sz_68 u3 rfl fun w hc => sp 2 hf rfl fun a hf => zT h ?_
    refine wp_ret ?_
    obtain rfl := sj hF
    replace hc := (hc.drop k2).drop k1
    exact fnOut3 (by simp) rfl Try.results24 hf hc (rv_cellN (vs := [i6 r_3,i6 r_5]) ag_68 rfl rfl (cells_box (n := 2) m1 rfl)) (show look _ 3 = _ from rfl) (show look _ 4 = _ from rfl) ⟨p_6,c_6,rfl,(hc.drop k1)⟩
   have ho16 : ∀ r,x16 = .out r → r = res := by
    rintro r rfl
    exact sj hF
   replace hc := hc.nilRow 3 1
   replace hc := ((((hc.drop k8).drop k6).drop k4).drop k3).drop k2
   refine cLoop N (loopW (S := S16) (x := x16) ?_ N (([] : List Int),0) _ _ ⟨none,0,p_1,c_1,hf.kp rfl,hc⟩ hx16)
   clear hF hf hc
   rintro ⟨days,x⟩ st16 a w KB16 ⟨p_6,c_6,p_7,c_7,hf,hc⟩ hF hfin16 hK16
   unfold daily_Peak_b16 at hF
   refine zS fun K h => sp 1 hf rfl fun a hf => zT h ?_
   refine wp_seq_k fun K19 h19 => zI hf rfl hF ?_ ?_ <;> clear hF <;> intro hF
   ·refine wp_skip ?_
    refine h19 _ _ ?_
    refine wp_seq_k fun K20 h20 => ?_
    have hj20 : ∀ (days_1 : List Int) (p_8 : Option Addr) (c_8 : Nat) (p_9 : Option Addr) (c_9 : Nat) a w,Has 61 a [(2,pq b_2),(8,pq b_7),(9,.slice p_8 days_1.length c_8),(42,.slice p_9 r_1.2.2.1.length c_9),(43,i6 ((r_1.2.2.1.length : Nat) : Int)),(44,i6 x)] → Ctx G (.row p_8 c_8 (days_1.map encI_i64) 3 1::.box b_7 [i6 r_3,i6 r_5] 68::.row p_9 c_9 (r_1.2.2.1.map enc_api_Span) 68 2::.box b_2 [i6 0,i6 0] 68::Lf) w → daily_Peak_j20 N x days_1 = some st16 → K20 a w := by
     repeat (clear hF)
     repeat (clear hc)
     repeat (clear hf)
     intro days_1 p_8 c_8 p_9 c_9 a w hf hc hF
     unfold daily_Peak_j20 at hF
     refine h20 _ _ ?_
     refine cReg ?_
     refine sp 2 hf rfl fun a hf => cNil ?_
     exact hK16 (days_1,W (x + 1)) _ _ (sj hF).symm ⟨p_8,c_8,p_9,c_9,hf.kp rfl,hc⟩
    refine wp_block ?_
    refine zS fun K h => sp 1 hf rfl fun a hf => ?_
    obtain ⟨e_1,he_1,hF⟩ := bnd_some hF
    obtain ⟨g,rfl,qa,qr⟩ := row_atm hc m2 he_1
    refine zP hf rfl (pIA Try.underlying60 sz_68 rfl rfl qa) fun a hf => zE hf hc rfl (eLdN (vs := [i6 e_1.Lo,i6 e_1.Hi]) ag_68 rfl rfl (cells_rw (sz := 2) (i := x.toNat) m2 qr (n := 2) (o' := 0) rfl)) fun a w hf hc => zA hf hc zr_68 rfl fun b_8 a w hf hc => sp 1 hf rfl fun a hf => zW hf hc sz_68 u0 rfl fun w hc => zT h ?_
    refine zS fun K h => zP hf rfl (pFA fa_68_1 rfl) fun a hf => zL hf hc sc_3 m0 rfl fun a w hf hc => zP hf rfl (pFA fa_68_0 rfl) fun a hf => zL hf hc sc_3 m2 rfl fun a w hf hc => sp 1 hf rfl fun a hf => zT h ?_
    refine zI hf rfl hF ?_ ?_ <;> clear hF <;> intro hF
    ·refine cReg ?_
     refine sp 2 hf rfl fun a hf => stBS (rows := ([x] : List Int).map encI_i64) (vs := [(0,i6 x)]) hf hc rfl rfl sl_27 rfl ⟨rfl,rfl,rfl,trivial⟩ rfl rfl fun b_9 a w hf hc => ?_
     obtain ⟨un,hun,hF⟩ := bnd_some hF
     refine stApm (xs := days) (ys := ([x] : List Int)) hf hc rfl rfl sl_27 rfl rfl rfl rfl rfl one_encI_i64 (src_row hc m0) (fun _ _ => u2) (by simpa using room_spec hun) fun p_10 c_10 a w hf hc => sp 1 hf rfl fun a hf => cNil ?_
     replace hc := (hc.drop k1).drop k0
     exact hj20 (days ++ [x]) p_10 c_10 (some ⟨g,0,none⟩) c_7 _ _  (hf.kp rfl) hc hF
    ·refine wp_skip ?_
     replace hc := hc.drop k0
     exact hj20 days p_6 c_6 (some ⟨g,0,none⟩) c_7 _ _  (hf.kp rfl) hc hF
   ·refine wp_exit ?_
    refine xThen ?_
    refine xThen ?_
    have he := sj hF
    rw [← he] at hfin16
    refine cHit ?_
    exact hr16 _ _ _ hfin16 ⟨p_6,c_6,p_7,c_7,hf.kp rfl,hc⟩

def daily_Clash_b18 (N : Nat) (r : daily_Record) (x : Int) (e_2 : daily_Value) (x_1 : Int) : Option (Step (Int) (Step (Int × Int × Int × Int) (Int × Int × Int))) :=
 cond (decide (x_1 < ((r.Days.length : Nat) : Int)))
 (Option.bind (getI r.Days x_1) fun e_3 =>
 Option.bind (daily_Value_span N e_2) fun r_1 =>
 Option.bind (daily_Value_span N e_3) fun r_2 =>
 cond ((decide (x < x_1)) && ((decide ((W (r_1.Hi + (W (r.Rise * (W (x_1 - x)))))) < r_2.Lo)) || (decide (r_2.Hi < (W (r_1.Lo - (W (r.Fall * (W (x_1 - x))))))))))
 (some (.ret (.brk (x,x_1,0,x))))
 (some (.cont (W (x_1 + 1)))))
 (some (.brk x_1))
def daily_Clash_b10 (N : Nat) (r : daily_Record) (a_1 : Int) (b_2 : Int) (e_1 : Int) (x : Int) : Option (Step (Int × Int × Int × Int) (Int × Int × Int)) :=
 cond (decide (x < ((r.Days.length : Nat) : Int)))
 (Option.bind (getI r.Days x) fun e_2 =>
 Option.bind (loopO (fun s18 => daily_Clash_b18 N r x e_2 s18) N 0) fun x18 =>
 exK x18 (fun s18 => some (.cont (a_1,b_2,e_1,W (x + 1)))) some)
 (some (.brk (a_1,b_2,e_1,x)))
def daily_Clash (N : Nat) (r : daily_Record) : Option (Int × Int × Int) :=
 Option.bind (daily_Check N r) fun r_0 =>
 cond (r_0 != 0)
 (some (0,0,r_0))
 (Option.bind (loopO (fun s10 => daily_Clash_b10 N r s10.1 s10.2.1 s10.2.2.1 s10.2.2.2) N (0,0,5,0)) fun x10 =>
 exK x10 (fun s10 => some (s10.1,s10.2.1,s10.2.2.1)) some)
theorem daily_Clash_ok {N : Nat} {G : Pers} {Lf : List Ent} {w : World} (r : daily_Record) {r_Days_p : Option Addr} {r_Days_c : Nat} (h_r_Days : Rd G 3 r_Days_p r_Days_c (r.Days.map enc_daily_Value)) (hc : Ctx G (Lf) w) {res : Int × Int × Int} (hF : daily_Clash N r = some res) : Calls Try.prog 25 #[.agg #[i6 r.Rise,i6 r.Fall,.slice r_Days_p r.Days.length r_Days_c]] w (fun e w => e = .returned (.tuple #[i6 res.1,i6 res.2.1,i6 res.2.2]) ∧ Ctx G (Lf) w) := by
 unfold daily_Clash at hF
 refine fnIn Try.func25 rfl Try.ntmps25 rfl fun a hf => zS fun K h => zB hf hc rfl fun b_1 a w hf hc => sp 3 hf rfl fun a hf => zT h ?_
 refine wp_scope_straight ?_
 refine wp_seq_k fun K2 h2 => zS fun K h => zN hf hc ag_65 m0 rfl fun a w hf hc => ?_
 obtain ⟨r_0,hr_0,hF⟩ := bnd_some hF
 refine zQ (v := i6 r_0) hf hc en_40 rfl (fun w hc => daily_Check_ok r h_r_Days hc hr_0) fun a w hf hc => sp 1 hf rfl fun a hf => zT h ?_
 refine zS fun K h => sp 2 hf rfl fun a hf => zT h ?_
 refine zI hf rfl hF ?_ ?_ <;> clear hF <;> intro hF
 ·refine zS fun K h => sp 4 hf rfl fun a hf => zT h ?_
  refine wp_ret ?_
  refine xThenR ?_
  refine xScopeR ?_
  obtain rfl := sj hF
  replace hc := hc.drop k0
  exact zO3 Try.results25 hf rfl rfl rfl ⟨rfl,hc⟩
 ·refine wp_skip ?_
  refine h2 _ _ ?_
  refine zS fun K h => sp 3 hf rfl fun a hf => zT h ?_
  refine wp_seq_k fun K7 h7 => wp_label ?_
  refine h7 _ _ ?_
  refine wp_seq_k fun K8 h8 => zS fun K h => zP hf rfl (pFA fa_65_2 rfl) fun a hf => zL hf hc sc_63 m0 rfl fun a w hf hc => zP hf rfl (pLenS Try.underlying63 rfl) fun a hf => sp 1 hf rfl fun a hf => zT h ?_
  refine wp_block ?_
  obtain ⟨x10,hx10,hF⟩ := bnd_some hF
  let S10 : (Int × Int × Int × Int) → Act → World → Prop := (fun (zz : Int × Int × Int × Int) a w => Has 78 a [(1,pq b_1),(6,i6 zz.1),(7,i6 zz.2.1),(8,i6 zz.2.2.1),(21,.slice r_Days_p r.Days.length r_Days_c),(22,i6 ((r.Days.length : Nat) : Int)),(23,i6 zz.2.2.2)] ∧ Ctx G (.box b_1 [i6 r.Rise,i6 r.Fall,.slice r_Days_p r.Days.length r_Days_c] 65::Lf) w)
  have hr10 : ∀ (zz : Int × Int × Int × Int) a w,x10 = .go zz → S10 zz a w → K8 a w := by
   rintro ⟨a_1,b_2,e_1,x⟩ a w rfl ⟨hf,hc⟩
   replace hF := exK_go hF
   refine h8 _ _ ?_
   refine zS fun K h => sp 6 hf rfl fun a hf => zT h ?_
   refine wp_ret ?_
   refine xScopeR ?_
   obtain rfl := sj hF
   replace hc := hc.drop k0
   exact zO3 Try.results25 hf rfl rfl rfl ⟨rfl,hc⟩
  have ho10 : ∀ r,x10 = .out r → r = res := by
   rintro r rfl
   exact sj hF
  refine cLoop N (loopW (S := S10) (x := x10) ?_ N (0,0,5,0) _ _ ⟨hf.kp rfl,hc⟩ hx10)
  clear hF hf hc
  rintro ⟨a_1,b_2,e_1,x⟩ st10 a w KB10 ⟨hf,hc⟩ hF hfin10 hK10
  unfold daily_Clash_b10 at hF
  refine zS fun K h => sp 1 hf rfl fun a hf => zT h ?_
  refine wp_seq_k fun K13 h13 => zI hf rfl hF ?_ ?_ <;> clear hF <;> intro hF
  ·refine wp_skip ?_
   refine h13 _ _ ?_
   refine wp_seq_k fun K14 h14 => wp_block ?_
   refine zS fun K h => sp 1 hf rfl fun a hf => ?_
   obtain ⟨e_2,he_2,hF⟩ := bnd_some hF
   obtain ⟨b_3,o,qa,qp⟩ := h_r_Days.atm he_2
   refine zP hf rfl (pIA Try.underlying63 sz_97 rfl rfl qa) fun a hf => zE hf hc rfl (eLdN (vs := [.bool e_2.Known,i6 e_2.Flow.Lo,i6 e_2.Flow.Hi]) ag_97 rfl rfl (cells_pc qp (n := 3) (o' := 0) rfl)) fun a w hf hc => zA hf hc zr_97 rfl fun b_4 a w hf hc => sp 1 hf rfl fun a hf => zW hf hc sz_97 u0 rfl fun w hc => zT h ?_
   refine zS fun K h => zP hf rfl (pFA fa_65_2 rfl) fun a hf => zL hf hc sc_63 m1 rfl fun a w hf hc => zP hf rfl (pLenS Try.underlying63 rfl) fun a hf => sp 1 hf rfl fun a hf => zT h ?_
   refine wp_thenK fun K17 h17 => wp_block ?_
   obtain ⟨x18,hx18,hF⟩ := bnd_some hF
   let S18 : Int → Act → World → Prop := (fun (zz : Int) a w => Has 78 a [(1,pq b_1),(6,i6 a_1),(7,i6 b_2),(8,i6 e_1),(9,i6 x),(10,pq b_4),(21,.slice r_Days_p r.Days.length r_Days_c),(22,i6 ((r.Days.length : Nat) : Int)),(23,i6 x),(29,.slice r_Days_p r.Days.length r_Days_c),(30,i6 ((r.Days.length : Nat) : Int)),(31,i6 zz)] ∧ Ctx G (.box b_4 [.bool e_2.Known,i6 e_2.Flow.Lo,i6 e_2.Flow.Hi] 97::.box b_1 [i6 r.Rise,i6 r.Fall,.slice r_Days_p r.Days.length r_Days_c] 65::Lf) w)
   have hr18 : ∀ (zz : Int) a w,x18 = .go zz → S18 zz a w → K17 a w := by
    rintro x_1 a w rfl ⟨hf,hc⟩
    replace hF := exK_go hF
    refine h17 _ _ ?_
    refine h14 _ _ ?_
    refine cReg ?_
    refine sp 2 hf rfl fun a hf => cNil ?_
    replace hc := hc.drop k0
    exact hK10 (a_1,b_2,e_1,W (x + 1)) _ _ (sj hF).symm ⟨hf.kp rfl,hc⟩
   have ho18 : ∀ r,x18 = .out r → r = st10 := by
    rintro r rfl
    exact sj hF
   refine cLoop N (loopW (S := S18) (x := x18) ?_ N 0 _ _ ⟨hf.kp rfl,hc⟩ hx18)
   clear hF hf hc
   rintro x_1 st18 a w KB18 ⟨hf,hc⟩ hF hfin18 hK18
   unfold daily_Clash_b18 at hF
   refine zS fun K h => sp 1 hf rfl fun a hf => zT h ?_
   refine wp_seq_k fun K20 h20 => zI hf rfl hF ?_ ?_ <;> clear hF <;> intro hF
   ·refine wp_skip ?_
    refine h20 _ _ ?_
    refine wp_seq_k fun K21 h21 => wp_block ?_
    refine zS fun K h => sp 1 hf rfl fun a hf => ?_
    obtain ⟨e_3,he_3,hF⟩ := bnd_some hF
    obtain ⟨b_5,o_1,qa_1,qp_1⟩ := h_r_Days.atm he_3
    refine zP hf rfl (pIA Try.underlying63 sz_97 rfl rfl qa_1) fun a hf => zE hf hc rfl (eLdN (vs := [.bool e_3.Known,i6 e_3.Flow.Lo,i6 e_3.Flow.Hi]) ag_97 rfl rfl (cells_pc qp_1 (n := 3) (o' := 0) rfl)) fun a w hf hc => zA hf hc zr_97 rfl fun b_6 a w hf hc => sp 1 hf rfl fun a hf => zW hf hc sz_97 u0 rfl fun w hc => zT h ?_
    refine wp_seq_k fun K23 h23 => ?_
    obtain ⟨r_1,hr_1,hF⟩ := bnd_some hF
    obtain ⟨r_2,hr_2,hF⟩ := bnd_some hF
    replace hc := hc.nilRow 0 0
    replace hc := hc.nilRow 0 0
    refine regionE (fun θ => [⟨none,none,1,pq b_1⟩,⟨none,none,6,i6 a_1⟩,⟨none,none,7,i6 b_2⟩,⟨none,none,8,i6 e_1⟩,⟨none,none,9,i6 x⟩,⟨none,none,10,pq b_4⟩,⟨none,none,11,i6 x_1⟩,⟨none,none,12,pq b_6⟩,⟨none,none,21,.slice r_Days_p r.Days.length r_Days_c⟩,⟨none,none,22,i6 ((r.Days.length : Nat) : Int)⟩,⟨none,none,23,i6 x⟩,⟨none,none,29,.slice r_Days_p r.Days.length r_Days_c⟩,⟨none,none,30,i6 ((r.Days.length : Nat) : Int)⟩,⟨none,none,31,i6 x_1⟩,⟨some 0,none,36,.agg #[.bool e_2.Known,i6 e_2.Flow.Lo,i6 e_2.Flow.Hi]⟩,⟨some 1,none,37,.agg #[i6 r_1.Lo,i6 r_1.Hi]⟩,⟨some 2,none,38,.agg #[.bool e_3.Known,i6 e_3.Flow.Lo,i6 e_3.Flow.Hi]⟩,⟨some 3,none,39,.agg #[i6 r_2.Lo,i6 r_2.Hi]⟩,⟨some 4,none,13,.pointer (some ⟨(θ 32).b,0,none⟩)⟩,⟨some 5,none,14,.pointer (some ⟨(θ 40).b,0,none⟩)⟩]) (fun E θ => (bif E 7 then .box (θ 40).b [i6 r_2.Lo,i6 r_2.Hi] 68 else bif E 5 then .box (θ 40).b [i6 0,i6 0] 68 else .row none 0 [] 0 0)::(bif E 6 then .box (θ 32).b [i6 r_1.Lo,i6 r_1.Hi] 68 else bif E 4 then .box (θ 32).b [i6 0,i6 0] 68 else .row none 0 [] 0 0)::.box b_6 [.bool e_3.Known,i6 e_3.Flow.Lo,i6 e_3.Flow.Hi] 97::.box b_4 [.bool e_2.Known,i6 e_2.Flow.Lo,i6 e_2.Flow.Hi] 97::.box b_1 [i6 r.Rise,i6 r.Fall,.slice r_Days_p r.Days.length r_Days_c] 65::Lf) [(6,4),(7,5)] (fun a w => ∃ (b_9 : Nat) (b_10 : Nat),Has 78 a [(1,pq b_1),(6,i6 a_1),(7,i6 b_2),(8,i6 e_1),(9,i6 x),(10,pq b_4),(11,i6 x_1),(21,.slice r_Days_p r.Days.length r_Days_c),(22,i6 ((r.Days.length : Nat) : Int)),(23,i6 x),(29,.slice r_Days_p r.Days.length r_Days_c),(30,i6 ((r.Days.length : Nat) : Int)),(31,i6 x_1),(13,pq b_9),(14,pq b_10)] ∧ Ctx G (.box b_10 [i6 r_2.Lo,i6 r_2.Hi] 68::.box b_9 [i6 r_1.Lo,i6 r_1.Hi] 68::.box b_6 [.bool e_3.Known,i6 e_3.Flow.Lo,i6 e_3.Flow.Hi] 97::.box b_4 [.bool e_2.Known,i6 e_2.Flow.Lo,i6 e_2.Flow.Hi] 97::.box b_1 [i6 r.Rise,i6 r.Fall,.slice r_Days_p r.Days.length r_Days_c] 65::Lf) w) follows_mx (by kernel_rfl) (by kernel_rfl) (HasE.of hf ⟨rfl,rfl,rfl,rfl,rfl,rfl,rfl,rfl,rfl,rfl,rfl,rfl,rfl,rfl,trivial,trivial,trivial,trivial,trivial,trivial,trivial⟩) hc ⟨?_,?_,?_,?_,?_,?_,?_,?_,trivial⟩ ?_ ?_
    ·intro E θ a w hD hi hp he hc
     have hf := he.h0.mT he 5 rfl
     refine zN hf hc ag_97 m3 rfl fun a w hf hc => zD θ he hi hf 14 rfl rfl rfl hc
    ·intro E θ a w hD hi hp he hc
     have e0 := hp.o 0 rfl
     have hf := he.h0.mP he 14 rfl e0
     refine zQ (v := .agg #[i6 r_1.Lo,i6 r_1.Hi]) hf hc en_45 rfl (fun w hc => daily_Value_span_ok e_2 hc hr_1) fun a w hf hc => zD θ he hi hf 15 rfl rfl rfl hc
    ·intro E θ a w hD hi hp he hc
     have hf := he.h0.mT he 7 rfl
     refine zN hf hc ag_97 m2 rfl fun a w hf hc => zD θ he hi hf 16 rfl rfl rfl hc
    ·intro E θ a w hD hi hp he hc
     have e2 := hp.o 2 rfl
     have hf := he.h0.mP he 16 rfl e2
     refine zQ (v := .agg #[i6 r_2.Lo,i6 r_2.Hi]) hf hc en_45 rfl (fun w hc => daily_Value_span_ok e_3 hc hr_2) fun a w hf hc => zD θ he hi hf 17 rfl rfl rfl hc
    ·intro E θ a w hD hi hp he hc
     have e6 := hD.f 0 rfl hi
     try dsimp only at hc
     rw [hi,e6] at hc
     have hf := he.h0
     refine zA hf hc zr_68 rfl fun b_7 a w hf hc => cNil ?_
     refine xThenN ?_
     intro ds u hau
     replace hc := ((hc.drop k2).pick k0).pick k1
     refine ⟨(setT θ 32 ⟨b_7,none,0,(fun _ => (none,0))⟩),he.put hi hau hf rfl [] trivial ⟨qq,qq,qq,qq,qq,qq,qq,qq,qq,qq,qq,qq,qq,qq,qq,qq,qq,qq,qq,qq,trivial⟩,?_⟩
     try dsimp only
     rw [updE_self E 4,updE_fls 4 e6 rfl]
     exact hc
    ·intro E θ a w hD hi hp he hc
     have e7 := hD.f 1 rfl hi
     try dsimp only at hc
     rw [hi,e7] at hc
     have hf := he.h0
     refine zA hf hc zr_68 rfl fun b_8 a w hf hc => cNil ?_
     refine xThenN ?_
     intro ds u hau
     replace hc := hc.drop k1
     refine ⟨(setT θ 40 ⟨b_8,none,0,(fun _ => (none,0))⟩),he.put hi hau hf rfl [] trivial ⟨qq,qq,qq,qq,qq,qq,qq,qq,qq,qq,qq,qq,qq,qq,qq,qq,qq,qq,qq,qq,trivial⟩,?_⟩
     try dsimp only
     rw [updE_self E 5,updE_fls 5 e7 rfl]
     exact hc
    ·intro E θ a w hD hi hp he hc
     have e1 := hp.o 1 rfl
     have e4 := hp.o 4 rfl
     try dsimp only at hc
     rw [e4,hi] at hc
     have hf := (he.h0.mP he 15 rfl e1).mP he 18 rfl e4
     refine zW hf hc sz_68 u1 rfl fun w hc => zG θ he hi hf rfl ?_
     try dsimp only
     rw [updE_tru 6 e4,updE_self E 6]
     exact hc
    ·intro E θ a w hD hi hp he hc
     have e3 := hp.o 3 rfl
     have e5 := hp.o 5 rfl
     try dsimp only at hc
     rw [e5,hi] at hc
     have hf := (he.h0.mP he 17 rfl e3).mP he 19 rfl e5
     refine zW hf hc sz_68 u0 rfl fun w hc => zG θ he hi hf rfl ?_
     try dsimp only
     rw [updE_tru 7 e5,updE_self E 7]
     exact hc
    ·intro E θ a w hall he hc
     have hf := he.h0
     have e4 := hall 4 rfl
     have e5 := hall 5 rfl
     have e6 := hall 6 rfl
     have e7 := hall 7 rfl
     replace hf := hf.more he 19 rfl (onP e5)
     replace hf := hf.more he 18 rfl (onP e4)
     replace hf := hf.more he 13 rfl (onT)
     replace hf := hf.more he 12 rfl (onT)
     replace hf := hf.more he 11 rfl (onT)
     replace hf := hf.more he 10 rfl (onT)
     replace hf := hf.more he 9 rfl (onT)
     replace hf := hf.more he 8 rfl (onT)
     replace hf := hf.more he 6 rfl (onT)
     replace hf := hf.more he 5 rfl (onT)
     replace hf := hf.more he 4 rfl (onT)
     replace hf := hf.more he 3 rfl (onT)
     replace hf := hf.more he 2 rfl (onT)
     replace hf := hf.more he 1 rfl (onT)
     replace hf := hf.more he 0 rfl (onT)
     try dsimp only at hc
     rw [e4,e5,e6,e7] at hc
     exact ⟨(θ 32).b,(θ 40).b,hf.kp rfl,hc⟩
    rintro a w ⟨b_9,b_10,hf,hc⟩
    refine h23 _ _ ?_
    refine zS fun K h => sp 4 hf rfl fun a hf => stCc 27 (fun a => Has 78 a [(1,pq b_1),(6,i6 a_1),(7,i6 b_2),(8,i6 e_1),(9,i6 x),(10,pq b_4),(11,i6 x_1),(21,.slice r_Days_p r.Days.length r_Days_c),(22,i6 ((r.Days.length : Nat) : Int)),(23,i6 x),(29,.slice r_Days_p r.Days.length r_Days_c),(30,i6 ((r.Days.length : Nat) : Int)),(31,i6 x_1),(13,pq b_9),(14,pq b_10),(40,i6 x_1),(41,i6 x),(42,.bool (decide (x < x_1))),(43,.bool (decide (x < x_1))),(70,.bool ((decide (x < x_1)) && ((decide ((W (r_1.Hi + (W (r.Rise * (W (x_1 - x)))))) < r_2.Lo)) || (decide (r_2.Hi < (W (r_1.Lo - (W (r.Fall * (W (x_1 - x)))))))))))]) hc ?_ ?_
    ·cases hb : (decide (x < x_1))
     ·rw [hb] at hf
      refine stS hf rfl rfl rfl fun a hf => stS hf rfl rfl rfl fun a hf => stS hf rfl rfl rfl fun a hf => stS hf rfl rfl rfl fun a hf => stS hf rfl rfl rfl fun a hf => stS hf rfl rfl rfl fun a hf => stS hf rfl rfl rfl fun a hf => stS hf rfl rfl rfl fun a hf => stS hf rfl rfl rfl fun a hf => stS hf rfl rfl rfl fun a hf => stS hf rfl rfl rfl fun a hf => stS hf rfl rfl rfl fun a hf => stS hf rfl rfl rfl fun a hf => ?_
      refine stS hf rfl rfl rfl fun a hf => stS hf rfl rfl rfl fun a hf => stS hf rfl rfl rfl fun a hf => stS hf rfl rfl rfl fun a hf => stS hf rfl rfl rfl fun a hf => stS hf rfl rfl rfl fun a hf => stS hf rfl rfl rfl fun a hf => stS hf rfl rfl rfl fun a hf => stS hf rfl rfl rfl fun a hf => stS hf rfl rfl rfl fun a hf => stS hf rfl rfl rfl fun a hf => stS hf rfl rfl rfl fun a hf => stS hf rfl rfl rfl fun a hf => ?_
      refine sp 1 hf rfl fun a hf => cNil ⟨hf.kp rfl,hc⟩
     ·rw [hb] at hf
      refine zP hf rfl (pFA fa_68_1 rfl) fun a hf => zL hf hc sc_3 m1 rfl fun a w hf hc => zP hf rfl (pFA fa_65_0 rfl) fun a hf => zL hf hc sc_3 m4 rfl fun a w hf hc => sp 5 hf rfl fun a hf => zP hf rfl (pFA fa_68_0 rfl) fun a hf => zL hf hc sc_3 m0 rfl fun a w hf hc => sp 2 hf rfl fun a hf => stCc 13 (fun a => Has 78 a ((1,pq b_1)::(6,i6 a_1)::(7,i6 b_2)::(8,i6 e_1)::(9,i6 x)::(10,pq b_4)::(11,i6 x_1)::(21,.slice r_Days_p r.Days.length r_Days_c)::(22,i6 ((r.Days.length : Nat) : Int))::(23,i6 x)::(29,.slice r_Days_p r.Days.length r_Days_c)::(30,i6 ((r.Days.length : Nat) : Int))::(31,i6 x_1)::(13,pq b_9)::(14,pq b_10)::(40,i6 x_1)::(41,i6 x)::(42,.bool true)::(43,.bool true)::(44,.pointer (some ⟨b_9,1,none⟩))::(45,i6 r_1.Hi)::(46,pq b_1)::(47,i6 r.Rise)::(48,i6 x_1)::(49,i6 x)::(50,i6 (W (x_1 - x)))::(51,i6 (W (r.Rise * (W (x_1 - x)))))::(52,i6 (W (r_1.Hi + (W (r.Rise * (W (x_1 - x)))))))::(53,pq b_10)::(54,i6 r_2.Lo)::(55,.bool (decide ((W (r_1.Hi + (W (r.Rise * (W (x_1 - x)))))) < r_2.Lo)))::(56,.bool (decide ((W (r_1.Hi + (W (r.Rise * (W (x_1 - x)))))) < r_2.Lo)))::(69,.bool ((decide ((W (r_1.Hi + (W (r.Rise * (W (x_1 - x)))))) < r_2.Lo)) || (decide (r_2.Hi < (W (r_1.Lo - (W (r.Fall * (W (x_1 - x))))))))))::[])) hc ?_ ?_
      ·cases hb : (decide ((W (r_1.Hi + (W (r.Rise * (W (x_1 - x)))))) < r_2.Lo))
       ·rw [hb] at hf
        refine zP hf rfl (pFA fa_68_0 rfl) fun a hf => zL hf hc sc_3 m1 rfl fun a w hf hc => zP hf rfl (pFA fa_65_1 rfl) fun a hf => zL hf hc sc_3 m4 rfl fun a w hf hc => sp 5 hf rfl fun a hf => zP hf rfl (pFA fa_68_1 rfl) fun a hf => zL hf hc sc_3 m0 rfl fun a w hf hc => sp 2 hf rfl fun a hf => cNil ⟨hf.kp rfl,hc⟩
       ·rw [hb] at hf
        refine stS hf rfl rfl rfl fun a hf => stS hf rfl rfl rfl fun a hf => stS hf rfl rfl rfl fun a hf => stS hf rfl rfl rfl fun a hf => stS hf rfl rfl rfl fun a hf => stS hf rfl rfl rfl fun a hf => stS hf rfl rfl rfl fun a hf => stS hf rfl rfl rfl fun a hf => stS hf rfl rfl rfl fun a hf => stS hf rfl rfl rfl fun a hf => stS hf rfl rfl rfl fun a hf => stS hf rfl rfl rfl fun a hf => sp 1 hf rfl fun a hf => ?_
        exact cNil ⟨hf.kp rfl,hc⟩
      intro a w ⟨hf,hc⟩
      refine sp 1 hf rfl fun a hf => cNil ⟨hf.kp rfl,hc⟩
    intro a w ⟨hf,hc⟩
    refine zT h ?_
    refine zI hf rfl hF ?_ ?_ <;> clear hF <;> intro hF
    ·refine zS fun K h => sp 5 hf rfl fun a hf => zT h ?_
     refine wp_exit ?_
     refine cMiss rfl ?_
     refine xThen ?_
     refine xThen ?_
     have he := sj hF
     rw [← he] at hfin18
     replace hF := ho18 _ hfin18
     refine cMiss rfl ?_
     refine xThen ?_
     refine cMiss rfl ?_
     refine xThen ?_
     refine xThen ?_
     replace hc := (((hc.drop k3).drop k2).drop k1).drop k0
     have he := hF
     rw [← he] at hfin10
     refine cHit ?_
     exact hr10 _ _ _ hfin10 ⟨hf.kp rfl,hc⟩
    ·refine wp_skip ?_
     refine h21 _ _ ?_
     refine cReg ?_
     refine sp 2 hf rfl fun a hf => cNil ?_
     replace hc := ((hc.drop k2).drop k1).drop k0
     exact hK18 (W (x_1 + 1)) _ _ (sj hF).symm ⟨hf.kp rfl,hc⟩
   ·refine wp_exit ?_
    refine xThen ?_
    refine xThen ?_
    have he := sj hF
    rw [← he] at hfin18
    refine cHit ?_
    exact hr18 _ _ _ hfin18 ⟨hf.kp rfl,hc⟩
  ·refine wp_exit ?_
   refine xThen ?_
   refine xThen ?_
   have he := sj hF
   rw [← he] at hfin10
   refine cHit ?_
   exact hr10 _ _ _ hfin10 ⟨hf.kp rfl,hc⟩

def kit_Same_api_Span_b7 (N : Nat) (a_ : List api_Span) (b_ : List api_Span) (i_1 : Int) : Option (Step (Int) (Bool)) :=
 cond (decide (i_1 < ((a_.length : Nat) : Int)))
 (Option.bind (getI a_ i_1) fun e_1 =>
 Option.bind (getI b_ i_1) fun e_2 =>
 cond (!(e_1.Lo == e_2.Lo && e_1.Hi == e_2.Hi))
 (some (.ret false))
 (some (.cont (W (i_1 + 1)))))
 (some (.brk i_1))
def kit_Same_api_Span (N : Nat) (a_ : List api_Span) (b_ : List api_Span) : Option (Bool) :=
 cond (((a_.length : Nat) : Int) != ((b_.length : Nat) : Int))
 (some false)
 (Option.bind (loopO (fun s7 => kit_Same_api_Span_b7 N a_ b_ s7) N 0) fun x7 =>
 exK x7 (fun s7 => some true) some)
theorem kit_Same_api_Span_ok {N : Nat} {G : Pers} {Lf : List Ent} {w : World} (a_ : List api_Span) (b_ : List api_Span) {a__p : Option Addr} {a__c : Nat} {b__p : Option Addr} {b__c : Nat} (h_a_ : Rd G 2 a__p a__c (a_.map enc_api_Span)) (h_b_ : Rd G 2 b__p b__c (b_.map enc_api_Span)) (hc : Ctx G (Lf) w) {res : Bool} (hF : kit_Same_api_Span N a_ b_ = some res) : Calls Try.prog 26 #[.slice a__p a_.length a__c,.slice b__p b_.length b__c] w (fun e w => e = .returned (.bool res) ∧ Ctx G (Lf) w) := by
 unfold kit_Same_api_Span at hF
 refine fnIn Try.func26 rfl Try.ntmps26 rfl fun a hf => zS fun K h => sp 1 hf rfl fun a hf => zT h ?_
 refine wp_seq_k fun K2 h2 => zS fun K h => sp 1 hf rfl fun a hf => zP hf rfl (pLenS Try.underlying60 rfl) fun a hf => sp 1 hf rfl fun a hf => zP hf rfl (pLenS Try.underlying60 rfl) fun a hf => sp 1 hf rfl fun a hf => zT h ?_
 refine zI hf rfl hF ?_ ?_ <;> clear hF <;> intro hF
 ·refine zS fun K h => sp 1 hf rfl fun a hf => zT h ?_
  refine wp_ret ?_
  refine xThenR ?_
  obtain rfl := sj hF
  exact zO1 Try.results26 hf rfl ⟨rfl,hc⟩
 ·refine wp_skip ?_
  refine h2 _ _ ?_
  refine wp_seq_k fun K5 h5 => zS fun K h => sp 1 hf rfl fun a hf => zT h ?_
  refine wp_block ?_
  obtain ⟨x7,hx7,hF⟩ := bnd_some hF
  let S7 : Int → Act → World → Prop := (fun (zz : Int) a w => Has 26 a [(0,.slice a__p a_.length a__c),(1,.slice b__p b_.length b__c),(5,i6 zz)] ∧ Ctx G (Lf) w)
  have hr7 : ∀ (zz : Int) a w,x7 = .go zz → S7 zz a w → K5 a w := by
   rintro i_1 a w rfl ⟨hf,hc⟩
   replace hF := exK_go hF
   refine h5 _ _ ?_
   refine zS fun K h => sp 1 hf rfl fun a hf => zT h ?_
   refine wp_ret ?_
   obtain rfl := sj hF
   exact zO1 Try.results26 hf rfl ⟨rfl,hc⟩
  have ho7 : ∀ r,x7 = .out r → r = res := by
   rintro r rfl
   exact sj hF
  refine cLoop N (loopW (S := S7) (x := x7) ?_ N 0 _ _ ⟨hf.kp rfl,hc⟩ hx7)
  clear hF hf hc
  rintro i_1 st7 a w KB7 ⟨hf,hc⟩ hF hfin7 hK7
  unfold kit_Same_api_Span_b7 at hF
  refine wp_seq_k fun K9 h9 => zS fun K h => sp 2 hf rfl fun a hf => zP hf rfl (pLenS Try.underlying60 rfl) fun a hf => sp 1 hf rfl fun a hf => zT h ?_
  refine zI hf rfl hF ?_ ?_ <;> clear hF <;> intro hF
  ·refine wp_skip ?_
   refine h9 _ _ ?_
   refine wp_seq_k fun K11 h11 => wp_block ?_
   refine wp_seq_k fun K12 h12 => ?_
   obtain ⟨e_1,he_1,hF⟩ := bnd_some hF
   obtain ⟨b_1,o,qa,qp⟩ := h_a_.atm he_1
   obtain ⟨e_2,he_2,hF⟩ := bnd_some hF
   obtain ⟨b_2,o_1,qa_1,qp_1⟩ := h_b_.atm he_2
   refine cQ hc follows_mx (by kernel_rfl) ?_
   refine qE hf rfl rfl rfl (Pu.ev (pM rfl)) fun a hf => qE hf rfl rfl rfl (Pu.ev (pM rfl)) fun a hf => qE hf rfl rfl rfl (Pu.ev (pIA Try.underlying60 sz_68 rfl rfl qa)) fun a hf => qE hf rfl rfl rfl (eLdN (vs := [i6 e_1.Lo,i6 e_1.Hi]) ag_68 rfl rfl (cells_pc qp (n := 2) (o' := 0) rfl)) fun a hf => qE hf rfl rfl rfl (Pu.ev (pM rfl)) fun a hf => qE hf rfl rfl rfl (Pu.ev (pM rfl)) fun a hf => qE hf rfl rfl rfl (Pu.ev (pIA Try.underlying60 sz_68 rfl rfl qa_1)) fun a hf => qE hf rfl rfl rfl (eLdN (vs := [i6 e_2.Lo,i6 e_2.Hi]) ag_68 rfl rfl (cells_pc qp_1 (n := 2) (o' := 0) rfl)) fun a hf => qE hf rfl rfl rfl (Pu.ev (pNeA ge_68 rfl rfl (eqs_68 _ _ _ _))) fun a hf => ?_
   intro w hc
   refine h12 _ _ ?_
   refine zI hf rfl hF ?_ ?_ <;> clear hF <;> intro hF
   ·refine zS fun K h => sp 1 hf rfl fun a hf => zT h ?_
    refine wp_ret ?_
    refine xBlkR ?_
    refine xThenR ?_
    refine xThenR ?_
    have he := sj hF
    rw [← he] at hfin7
    replace hF := ho7 _ hfin7
    refine xBlkR ?_
    refine xThenR ?_
    obtain rfl := hF
    exact zO1 Try.results26 hf rfl ⟨rfl,hc⟩
   ·refine wp_skip ?_
    refine h11 _ _ ?_
    refine cReg ?_
    refine sp 3 hf rfl fun a hf => cNil ?_
    exact hK7 (W (i_1 + 1)) _ _ (sj hF).symm ⟨hf.kp rfl,hc⟩
  ·refine wp_exit ?_
   refine xThen ?_
   refine xThen ?_
   have he := sj hF
   rw [← he] at hfin7
   refine cHit ?_
   exact hr7 _ _ _ hfin7 ⟨hf.kp rfl,hc⟩

def daily_every_api_Span_1_s2 (x : api_Span) : Bool :=
 (!(daily_flows x))
theorem daily_every_api_Span_1_s2_ok {G : Pers} {Lf : List Ent} {w : World} (x : api_Span) {b_ : Nat}  (hc : Ctx G (.box b_ [.func (.func 47) #[] #[]] 110::Lf) w) {res : Bool} (hF : daily_every_api_Span_1_s2 x = res) : Calls Try.prog 71 #[.agg #[i6 x.Lo,i6 x.Hi],pq b_] w (fun e w => e = .returned (.bool res) ∧ Ctx G (.box b_ [.func (.func 47) #[] #[]] 110::Lf) w) := by
 unfold daily_every_api_Span_1_s2 at hF
 refine fnIn Try.func71 rfl Try.ntmps71 rfl fun a hf => zS fun K h => zB hf hc rfl fun b_1 a w hf hc => sp 1 hf rfl fun a hf => zT h ?_
 refine zS fun K h => zL hf hc sc_110 m1 rfl fun a w hf hc => zN hf hc ag_68 m0 rfl fun a w hf hc => zQ (v := .bool (daily_flows x)) hf hc en_47 rfl (fun w hc => daily_flows_ok x hc rfl) fun a w hf hc => sp 2 hf rfl fun a hf => zT h ?_
 refine wp_ret ?_
 obtain rfl := hF
 replace hc := hc.drop k0
 exact zO1 Try.results71 hf rfl ⟨rfl,hc⟩

def slices_IndexFunc_Lapi_Span_api_Span_s2_b4 (N : Nat) (s_ : List api_Span) (x : Int) : Option (Step (Int) (Int)) :=
 cond (decide (x < ((s_.length : Nat) : Int)))
 (Option.bind (getI s_ x) fun e_1 =>
 cond (daily_every_api_Span_1_s2 e_1)
 (some (.ret x))
 (some (.cont (W (x + 1)))))
 (some (.brk x))
def slices_IndexFunc_Lapi_Span_api_Span_s2 (N : Nat) (s_ : List api_Span) : Option (Int) :=
 Option.bind (loopO (fun s4 => slices_IndexFunc_Lapi_Span_api_Span_s2_b4 N s_ s4) N 0) fun x4 =>
 exK x4 (fun s4 => some (-1)) some
theorem slices_IndexFunc_Lapi_Span_api_Span_s2_ok {N : Nat} {G : Pers} {Lf : List Ent} {w : World} (s_ : List api_Span) {s__p : Option Addr} {s__c : Nat} {b_ : Nat} (h_s_ : Rd G 2 s__p s__c (s_.map enc_api_Span)) (hc : Ctx G (.box b_ [.func (.func 47) #[] #[]] 110::Lf) w) {res : Int} (hF : slices_IndexFunc_Lapi_Span_api_Span_s2 N s_ = some res) : Calls Try.prog 85 #[.slice s__p s_.length s__c,.func (.func 71) #[] #[pq b_]] w (fun e w => e = .returned (i6 res) ∧ Ctx G (.box b_ [.func (.func 47) #[] #[]] 110::Lf) w) := by
 unfold slices_IndexFunc_Lapi_Span_api_Span_s2 at hF
 refine fnIn Try.func85 rfl Try.ntmps85 rfl fun a hf => zS fun K h => sp 1 hf rfl fun a hf => zT h ?_
 refine wp_seq_k fun K2 h2 => zS fun K h => sp 1 hf rfl fun a hf => zP hf rfl (pLenS Try.underlying60 rfl) fun a hf => sp 1 hf rfl fun a hf => zT h ?_
 refine wp_block ?_
 obtain ⟨x4,hx4,hF⟩ := bnd_some hF
 let S4 : Int → Act → World → Prop := (fun (zz : Int) a w => Has 19 a [(0,.slice s__p s_.length s__c),(1,.func (.func 71) #[] #[pq b_]),(7,i6 ((s_.length : Nat) : Int)),(8,i6 zz)] ∧ Ctx G (.box b_ [.func (.func 47) #[] #[]] 110::Lf) w)
 have hr4 : ∀ (zz : Int) a w,x4 = .go zz → S4 zz a w → K2 a w := by
  rintro x a w rfl ⟨hf,hc⟩
  replace hF := exK_go hF
  refine h2 _ _ ?_
  refine zS fun K h => sp 1 hf rfl fun a hf => zT h ?_
  refine wp_ret ?_
  obtain rfl := sj hF
  exact zO1 Try.results85 hf rfl ⟨rfl,hc⟩
 have ho4 : ∀ r,x4 = .out r → r = res := by
  rintro r rfl
  exact sj hF
 refine cLoop N (loopW (S := S4) (x := x4) ?_ N 0 _ _ ⟨hf.kp rfl,hc⟩ hx4)
 clear hF hf hc
 rintro x st4 a w KB4 ⟨hf,hc⟩ hF hfin4 hK4
 unfold slices_IndexFunc_Lapi_Span_api_Span_s2_b4 at hF
 refine zS fun K h => sp 1 hf rfl fun a hf => zT h ?_
 refine wp_seq_k fun K7 h7 => zI hf rfl hF ?_ ?_ <;> clear hF <;> intro hF
 ·refine wp_skip ?_
  refine h7 _ _ ?_
  refine wp_seq_k fun K8 h8 => wp_block ?_
  refine zS fun K h => sp 2 hf rfl fun a hf => zT h ?_
  refine zS fun K h => sp 3 hf rfl fun a hf => ?_
  obtain ⟨e_1,he_1,hF⟩ := bnd_some hF
  obtain ⟨b_1,o,qa,qp⟩ := h_s_.atm he_1
  refine zP hf rfl (pIA Try.underlying60 sz_68 rfl rfl qa) fun a hf => zE hf hc rfl (eLdN (vs := [i6 e_1.Lo,i6 e_1.Hi]) ag_68 rfl rfl (cells_pc qp (n := 2) (o' := 0) rfl)) fun a w hf hc => zQ (v := .bool (daily_every_api_Span_1_s2 e_1)) hf hc en_71 rfl (fun w hc => (daily_every_api_Span_1_s2_ok e_1 (hc.pick k0) rfl).mono fun e w h => ⟨h.1,(h.2.unpick k0)⟩) fun a w hf hc => zT h ?_
  refine zI hf rfl hF ?_ ?_ <;> clear hF <;> intro hF
  ·refine zS fun K h => sp 2 hf rfl fun a hf => zT h ?_
   refine wp_ret ?_
   refine xBlkR ?_
   refine xThenR ?_
   refine xThenR ?_
   have he := sj hF
   rw [← he] at hfin4
   replace hF := ho4 _ hfin4
   refine xBlkR ?_
   refine xThenR ?_
   obtain rfl := hF
   exact zO1 Try.results85 hf rfl ⟨rfl,hc⟩
  ·refine wp_skip ?_
   refine h8 _ _ ?_
   refine cReg ?_
   refine sp 2 hf rfl fun a hf => cNil ?_
   exact hK4 (W (x + 1)) _ _ (sj hF).symm ⟨hf.kp rfl,hc⟩
 ·refine wp_exit ?_
  refine xThen ?_
  refine xThen ?_
  have he := sj hF
  rw [← he] at hfin4
  refine cHit ?_
  exact hr4 _ _ _ hfin4 ⟨hf.kp rfl,hc⟩

def slices_ContainsFunc_Lapi_Span_api_Span_s2 (N : Nat) (s_ : List api_Span) : Option (Bool) :=
 Option.bind (slices_IndexFunc_Lapi_Span_api_Span_s2 N s_) fun r =>
 some (decide (0 ≤ r))
theorem slices_ContainsFunc_Lapi_Span_api_Span_s2_ok {N : Nat} {G : Pers} {Lf : List Ent} {w : World} (s_ : List api_Span) {s__p : Option Addr} {s__c : Nat} {b_ : Nat} (h_s_ : Rd G 2 s__p s__c (s_.map enc_api_Span)) (hc : Ctx G (.box b_ [.func (.func 47) #[] #[]] 110::Lf) w) {res : Bool} (hF : slices_ContainsFunc_Lapi_Span_api_Span_s2 N s_ = some res) : Calls Try.prog 70 #[.slice s__p s_.length s__c,.func (.func 71) #[] #[pq b_]] w (fun e w => e = .returned (.bool res) ∧ Ctx G (.box b_ [.func (.func 47) #[] #[]] 110::Lf) w) := by
 unfold slices_ContainsFunc_Lapi_Span_api_Span_s2 at hF
 refine fnIn Try.func70 rfl Try.ntmps70 rfl fun a hf => zS fun K h => sp 1 hf rfl fun a hf => zT h ?_
 refine zS fun K h => sp 2 hf rfl fun a hf => ?_
 obtain ⟨r,hr,hF⟩ := bnd_some hF
 refine zQ (v := i6 r) hf hc en_85 rfl (fun w hc => (slices_IndexFunc_Lapi_Span_api_Span_s2_ok s_ h_s_ (hc.pick k0) hr).mono fun e w h => ⟨h.1,(h.2.unpick k0)⟩) fun a w hf hc => sp 2 hf rfl fun a hf => zT h ?_
 refine wp_ret ?_
 obtain rfl := sj hF
 exact zO1 Try.results70 hf rfl ⟨rfl,hc⟩

def daily_every_api_Span_s2 (N : Nat) (l : List api_Span) : Option (Bool) :=
 Option.bind (slices_ContainsFunc_Lapi_Span_api_Span_s2 N l) fun r =>
 some (!r)
theorem daily_every_api_Span_s2_ok {N : Nat} {G : Pers} {Lf : List Ent} {w : World} (l : List api_Span) {l_p : Option Addr} {l_c : Nat} (h_l : Rd G 2 l_p l_c (l.map enc_api_Span)) (hc : Ctx G (Lf) w) {res : Bool} (hF : daily_every_api_Span_s2 N l = some res) : Calls Try.prog 46 #[.slice l_p l.length l_c,.func (.func 47) #[] #[]] w (fun e w => e = .returned (.bool res) ∧ Ctx G (Lf) w) := by
 unfold daily_every_api_Span_s2 at hF
 refine fnIn Try.func46 rfl Try.ntmps46 rfl fun a hf => zS fun K h => zB hf hc rfl fun b_1 a w hf hc => sp 1 hf rfl fun a hf => zT h ?_
 refine zS fun K h => sp 1 hf rfl fun a hf => zP hf rfl (pMF (us := [pq b_1]) rfl rfl) fun a hf => ?_
 obtain ⟨r,hr,hF⟩ := bnd_some hF
 refine zQ (v := .bool r) hf hc en_70 rfl (fun w hc => (slices_ContainsFunc_Lapi_Span_api_Span_s2_ok l h_l (hc.pick k0) hr).mono fun e w h => ⟨h.1,(h.2.unpick k0)⟩) fun a w hf hc => sp 2 hf rfl fun a hf => zT h ?_
 refine wp_ret ?_
 obtain rfl := sj hF
 replace hc := hc.drop k0
 exact zO1 Try.results46 hf rfl ⟨rfl,hc⟩

def daily_work_again (N : Nat) (w_ : daily_work) (day : Int) (published : api_Span) : Option (Bool) :=
 Option.bind (getI w_.spans day) fun e_1 =>
 some ((decide (e_1.Lo < published.Lo)) || (decide (published.Hi < e_1.Hi)))
theorem daily_work_again_ok {N : Nat} {G : Pers} {Lf : List Ent} {w : World} (w_ : daily_work) (day : Int) (published : api_Span) {b_ : Nat} {w__Record_Days_p : Option Addr} {w__Record_Days_c : Nat} {w__spans_p : Option Addr} {w__spans_c : Nat} (h_w__Record_Days : Rd G 3 w__Record_Days_p w__Record_Days_c (w_.Record.Days.map enc_daily_Value)) (h_w__spans : Rd G 2 w__spans_p w__spans_c (w_.spans.map enc_api_Span)) (hc : Ctx G (.box b_ [i6 w_.Record.Rise,i6 w_.Record.Fall,.slice w__Record_Days_p w_.Record.Days.length w__Record_Days_c,.slice w__spans_p w_.spans.length w__spans_c] 95::Lf) w) {res : Bool} (hF : daily_work_again N w_ day published = some res) : Calls Try.prog 48 #[pq b_,i6 day,.agg #[i6 published.Lo,i6 published.Hi]] w (fun e w => e = .returned (.bool res) ∧ Ctx G (.box b_ [i6 w_.Record.Rise,i6 w_.Record.Fall,.slice w__Record_Days_p w_.Record.Days.length w__Record_Days_c,.slice w__spans_p w_.spans.length w__spans_c] 95::Lf) w) := by
 unfold daily_work_again at hF
 refine fnIn Try.func48 rfl Try.ntmps48 rfl fun a hf => zS fun K h => zB hf hc rfl fun b_1 a w hf hc => sp 1 hf rfl fun a hf => zT h ?_
 refine zS fun K h => sp 2 hf rfl fun a hf => zP hf rfl (pFA fa_95_1 rfl) fun a hf => zL hf hc sc_60 m1 rfl fun a w hf hc => sp 1 hf rfl fun a hf => ?_
 obtain ⟨e_1,he_1,hF⟩ := bnd_some hF
 obtain ⟨b_2,o,qa,qp⟩ := h_w__spans.atm he_1
 refine zP hf rfl (pIA Try.underlying60 sz_68 rfl rfl qa) fun a hf => zE hf hc rfl (eLdN (vs := [i6 e_1.Lo,i6 e_1.Hi]) ag_68 rfl rfl (cells_pc qp (n := 2) (o' := 0) rfl)) fun a w hf hc => zA hf hc zr_68 rfl fun b_3 a w hf hc => zW hf hc sz_68 u0 rfl fun w hc => zT h ?_
 refine zS fun K h => zP hf rfl (pFA fa_68_0 rfl) fun a hf => zL hf hc sc_3 m0 rfl fun a w hf hc => zP hf rfl (pFA fa_68_0 rfl) fun a hf => zL hf hc sc_3 m1 rfl fun a w hf hc => sp 2 hf rfl fun a hf => stCc 6 (fun a => Has 27 a [(5,pq b_1),(6,.bool false),(7,pq b_3),(15,pq b_3),(16,i6 e_1.Lo),(17,pq b_1),(18,i6 published.Lo),(19,.bool (decide (e_1.Lo < published.Lo))),(20,.bool (decide (e_1.Lo < published.Lo))),(26,.bool ((decide (e_1.Lo < published.Lo)) || (decide (published.Hi < e_1.Hi))))]) hc ?_ ?_
 ·cases hb : (decide (e_1.Lo < published.Lo))
  ·rw [hb] at hf
   refine zP hf rfl (pFA fa_68_1 rfl) fun a hf => zL hf hc sc_3 m0 rfl fun a w hf hc => zP hf rfl (pFA fa_68_1 rfl) fun a hf => zL hf hc sc_3 m1 rfl fun a w hf hc => sp 2 hf rfl fun a hf => cNil ⟨hf.kp rfl,hc⟩
  ·rw [hb] at hf
   refine stS hf rfl rfl rfl fun a hf => stS hf rfl rfl rfl fun a hf => stS hf rfl rfl rfl fun a hf => stS hf rfl rfl rfl fun a hf => stS hf rfl rfl rfl fun a hf => sp 1 hf rfl fun a hf => cNil ⟨hf.kp rfl,hc⟩
 intro a w ⟨hf,hc⟩
 refine sp 1 hf rfl fun a hf => zT h ?_
 refine wp_ret ?_
 obtain rfl := sj hF
 replace hc := (hc.drop k1).drop k0
 exact zO1 Try.results48 hf rfl ⟨rfl,hc⟩

def daily_Again_b18 (N : Nat) (published : List api_Span) : Option (Step (Unit) ((List Int) × Int)) :=
 cond (decide (0 < ((published.length : Nat) : Int)))
 (Option.bind (getI published 0) fun e_1 =>
 none)
 (some (.brk ()))
def daily_Again_j36 (N : Nat) (x : Int) (out_1 : List Int) : Option (Step ((List Int) × Int) ((List Int) × Int)) :=
 some (.cont (out_1,W (x + 1)))
def daily_Again_b32 (N : Nat) (r : daily_Record) (published : List api_Span) (r_3 : Int × Int × (List api_Span) × Int) (out : List Int) (x : Int) : Option (Step ((List Int) × Int) ((List Int) × Int)) :=
 cond (decide (x < ((published.length : Nat) : Int)))
 (Option.bind (getI published x) fun e_2 =>
 Option.bind (daily_work_again N (⟨(⟨r_3.1,r_3.2.1,r.Days⟩ : daily_Record),r_3.2.2.1⟩ : daily_work) x e_2) fun r_4 =>
 cond r_4
 (Option.bind (room ((out ++ [x])).length) fun un =>
 daily_Again_j36 N x (out ++ [x]))
 (daily_Again_j36 N x out))
 (some (.brk (out,x)))
def daily_Again (N : Nat) (r : daily_Record) (published : List api_Span) : Option ((List Int) × Int) :=
 Option.bind (daily_Check N r) fun r_0 =>
 cond (r_0 != 0)
 (some (([] : List Int),r_0))
 (cond (((published.length : Nat) : Int) != ((r.Days.length : Nat) : Int))
 (some (([] : List Int),2))
 (Option.bind (daily_every_api_Span_s2 N published) fun r_1 =>
 cond (!r_1)
 (some (([] : List Int),4))
 (Option.bind (daily_agreed N r) (sumK (fun r_2 => cond (r_2 != 0)
 (some (([] : List Int),r_2))
 (Option.bind (loopO (fun (_ : Unit) => daily_Again_b18 N published) N ()) fun x18 =>
 exK x18 (fun (_ : Unit) => some (([] : List Int),0)) some))
 (fun r_3 => cond (r_3.2.2.2 != 0)
 (some (([] : List Int),r_3.2.2.2))
 (Option.bind (loopO (fun s32 => daily_Again_b32 N r published r_3 s32.1 s32.2) N (([] : List Int),0)) fun x32 =>
 exK x32 (fun s32 => some (s32.1,0)) some))))))
theorem daily_Again_ok {N : Nat} {G : Pers} {Lf : List Ent} {w : World} (r : daily_Record) (published : List api_Span) {r_Days_p : Option Addr} {r_Days_c : Nat} {published_p : Option Addr} {published_c : Nat} (h_r_Days : Rd G 3 r_Days_p r_Days_c (r.Days.map enc_daily_Value)) (h_published : Rd G 2 published_p published_c (published.map enc_api_Span)) (hc : Ctx G (Lf) w) {res : (List Int) × Int} (hF : daily_Again N r published = some res) : Calls Try.prog 28 #[.agg #[i6 r.Rise,i6 r.Fall,.slice r_Days_p r.Days.length r_Days_c],.slice published_p published.length published_c] w (fun e w => ∃ (p'1 : Option Addr) (c'1 : Nat),e = .returned (.tuple #[.slice p'1 res.1.length c'1,i6 res.2]) ∧ Ctx G (.row p'1 c'1 (res.1.map encI_i64) 3 1::Lf) w) := by
 unfold daily_Again at hF
 refine fnIn Try.func28 rfl Try.ntmps28 rfl fun a hf => zS fun K h => zB hf hc rfl fun b_1 a w hf hc => sp 2 hf rfl fun a hf => zT h ?_
 refine zS fun K h => zN hf hc ag_65 m0 rfl fun a w hf hc => ?_
 obtain ⟨r_0,hr_0,hF⟩ := bnd_some hF
 refine zQ (v := i6 r_0) hf hc en_40 rfl (fun w hc => daily_Check_ok r h_r_Days hc hr_0) fun a w hf hc => sp 1 hf rfl fun a hf => zT h ?_
 refine wp_seq_k fun K3 h3 => wp_block ?_
 refine zS fun K h => sp 3 hf rfl fun a hf => zT h ?_
 refine zI hf rfl hF ?_ ?_ <;> clear hF <;> intro hF
 ·refine zS fun K h => sp 3 hf rfl fun a hf => zT h ?_
  refine wp_ret ?_
  refine xBlkR ?_
  refine xThenR ?_
  obtain rfl := sj hF
  replace hc := hc.nilRow 3 1
  replace hc := hc.drop k1
  exact zO2 Try.results28 hf rfl rfl ⟨none,0,rfl,hc⟩
 ·refine zS fun K h => sp 1 hf rfl fun a hf => zP hf rfl (pLenS Try.underlying60 rfl) fun a hf => zP hf rfl (pFA fa_65_2 rfl) fun a hf => zL hf hc sc_63 m0 rfl fun a w hf hc => zP hf rfl (pLenS Try.underlying63 rfl) fun a hf => sp 2 hf rfl fun a hf => zT h ?_
  refine zI hf rfl hF ?_ ?_ <;> clear hF <;> intro hF
  ·refine zS fun K h => sp 2 hf rfl fun a hf => zT h ?_
   refine wp_ret ?_
   refine xBlkR ?_
   refine xThenR ?_
   obtain rfl := sj hF
   replace hc := hc.nilRow 3 1
   replace hc := hc.drop k1
   exact zO2 Try.results28 hf rfl rfl ⟨none,0,rfl,hc⟩
  ·refine zS fun K h => sp 1 hf rfl fun a hf => ?_
   obtain ⟨r_1,hr_1,hF⟩ := bnd_some hF
   refine zQ (v := .bool r_1) hf hc en_46 rfl (fun w hc => daily_every_api_Span_s2_ok published h_published hc hr_1) fun a w hf hc => sp 2 hf rfl fun a hf => zT h ?_
   refine zI hf rfl hF ?_ ?_ <;> clear hF <;> intro hF
   ·refine zS fun K h => sp 2 hf rfl fun a hf => zT h ?_
    refine wp_ret ?_
    refine xBlkR ?_
    refine xThenR ?_
    obtain rfl := sj hF
    replace hc := hc.nilRow 3 1
    replace hc := hc.drop k1
    exact zO2 Try.results28 hf rfl rfl ⟨none,0,rfl,hc⟩
   ·refine wp_skip ?_
    refine h3 _ _ ?_
    refine zS fun K h => zN hf hc ag_65 m0 rfl fun a w hf hc => ?_
    obtain ⟨r_2,hr_2,hF⟩ := bnd_some hF
    cases r_2 with
    | inl r_2 =>
     replace hF := sumKl hF
     refine zC hf en_38 rfl (daily_agreed_ok r h_r_Days hc hr_2) ?_
     rintro _ w ⟨rfl,hc⟩
     refine ⟨_,rfl,fun a hf => ?_⟩
     refine sp 5 hf rfl fun a hf => zT h ?_
     refine wp_seq_k fun K11 h11 => zS fun K h => sp 2 hf rfl fun a hf => zT h ?_
     refine zI hf rfl hF ?_ ?_ <;> clear hF <;> intro hF
     ·refine zS fun K h => sp 3 hf rfl fun a hf => zT h ?_
      refine wp_ret ?_
      refine xThenR ?_
      obtain rfl := sj hF
      replace hc := hc.nilRow 3 1
      replace hc := hc.drop k1
      exact zO2 Try.results28 hf rfl rfl ⟨none,0,rfl,hc⟩
     ·refine wp_skip ?_
      refine h11 _ _ ?_
      refine zS fun K h => sp 1 hf rfl fun a hf => zT h ?_
      refine zS fun K h => sp 1 hf rfl fun a hf => zP hf rfl (pMF (vs := [.pointer none]) (us := []) rfl rfl) fun a hf => sp 1 hf rfl fun a hf => zT h ?_
      refine wp_seq_k fun K16 h16 => zS fun K h => sp 1 hf rfl fun a hf => zP hf rfl (pLenS Try.underlying60 rfl) fun a hf => sp 1 hf rfl fun a hf => zT h ?_
      refine wp_block ?_
      obtain ⟨x18,hx18,hF⟩ := bnd_some hF
      let S18 : Unit → Act → World → Prop := (fun (zz : Unit) a w => Has 56 a [(8,.slice none 0 0),(9,.func (.func 48) #[.pointer none] #[]),(39,.slice published_p published.length published_c),(40,i6 ((published.length : Nat) : Int)),(41,i6 0)] ∧ Ctx G (Lf) w)
      have hr18 : ∀ (zz : Unit) a w,x18 = .go zz → S18 zz a w → K16 a w := by
       rintro ⟨⟩ a w rfl ⟨hf,hc⟩
       replace hF := exK_go hF
       refine h16 _ _ ?_
       refine zS fun K h => sp 3 hf rfl fun a hf => zT h ?_
       refine wp_ret ?_
       obtain rfl := sj hF
       replace hc := hc.nilRow 3 1
       exact zO2 Try.results28 hf rfl rfl ⟨none,0,rfl,hc⟩
      have ho18 : ∀ r,x18 = .out r → r = res := by
       rintro r rfl
       exact sj hF
      replace hc := hc.drop k0
      refine cLoop N (loopW (S := S18) (x := x18) ?_ N () _ _ ⟨hf.kp rfl,hc⟩ hx18)
      clear hF hf hc
      rintro ⟨⟩ st18 a w KB18 ⟨hf,hc⟩ hF hfin18 hK18
      unfold daily_Again_b18 at hF
      refine zS fun K h => sp 1 hf rfl fun a hf => zT h ?_
      refine wp_seq_k fun K21 h21 => zI hf rfl hF ?_ ?_ <;> clear hF <;> intro hF
      ·refine wp_skip ?_
       refine h21 _ _ ?_
       refine wp_seq_k fun K22 h22 => wp_block ?_
       refine zS fun K h => sp 1 hf rfl fun a hf => ?_
       obtain ⟨e_1,he_1,hF⟩ := bnd_some hF
       obtain ⟨b_2,o,qa,qp⟩ := h_published.atm he_1
       refine zP hf rfl (pIA Try.underlying60 sz_68 rfl rfl qa) fun a hf => zE hf hc rfl (eLdN (vs := [i6 e_1.Lo,i6 e_1.Hi]) ag_68 rfl rfl (cells_pc qp (n := 2) (o' := 0) rfl)) fun a w hf hc => zA hf hc zr_68 rfl fun b_3 a w hf hc => sp 1 hf rfl fun a hf => zW hf hc sz_68 u0 rfl fun w hc => zT h ?_
       refine wp_seq_k fun K24 h24 => noneO hF
      ·refine wp_exit ?_
       refine xThen ?_
       refine xThen ?_
       have he := sj hF
       rw [← he] at hfin18
       refine cHit ?_
       exact hr18 _ _ _ hfin18 ⟨hf.kp rfl,hc⟩
    | inr r_3 =>
     replace hF := sumKr hF
     have hr_3 := hr_2
     refine zC hf en_38 rfl (daily_agreed_ok r h_r_Days hc hr_3) ?_
     rintro _ w ⟨b_4,p_1,c_1,rfl,hc⟩
     refine ⟨_,rfl,fun a hf => ?_⟩
     refine sp 5 hf rfl fun a hf => zT h ?_
     refine wp_seq_k fun K25 h25 => zS fun K h => sp 2 hf rfl fun a hf => zT h ?_
     refine zI hf rfl hF ?_ ?_ <;> clear hF <;> intro hF
     ·refine zS fun K h => sp 3 hf rfl fun a hf => zT h ?_
      refine wp_ret ?_
      refine xThenR ?_
      obtain rfl := sj hF
      replace hc := hc.nilRow 3 1
      replace hc := ((hc.drop k3).drop k2).drop k1
      exact zO2 Try.results28 hf rfl rfl ⟨none,0,rfl,hc⟩
     ·refine wp_skip ?_
      refine h25 _ _ ?_
      refine zS fun K h => sp 1 hf rfl fun a hf => zT h ?_
      refine zS fun K h => sp 1 hf rfl fun a hf => zP hf rfl (pMF (vs := [pq b_4]) (us := []) rfl rfl) fun a hf => sp 1 hf rfl fun a hf => zT h ?_
      refine wp_seq_k fun K30 h30 => zS fun K h => sp 1 hf rfl fun a hf => zP hf rfl (pLenS Try.underlying60 rfl) fun a hf => sp 1 hf rfl fun a hf => zT h ?_
      refine wp_block ?_
      obtain ⟨x32,hx32,hF⟩ := bnd_some hF
      let S32 : ((List Int) × Int) → Act → World → Prop := (fun (zz : (List Int) × Int) a w => ∃ (p_2 : Option Addr) (c_2 : Nat),Has 56 a [(8,.slice p_2 zz.1.length c_2),(9,.func (.func 48) #[pq b_4] #[]),(39,.slice published_p published.length published_c),(40,i6 ((published.length : Nat) : Int)),(41,i6 zz.2)] ∧ Ctx G (.row p_2 c_2 (zz.1.map encI_i64) 3 1::.row p_1 c_1 (r_3.2.2.1.map enc_api_Span) 68 2::.box b_4 [i6 r_3.1,i6 r_3.2.1,.slice r_Days_p r.Days.length r_Days_c,.slice p_1 r_3.2.2.1.length c_1] 95::Lf) w)
      have hr32 : ∀ (zz : (List Int) × Int) a w,x32 = .go zz → S32 zz a w → K30 a w := by
       rintro ⟨out,x⟩ a w rfl ⟨p_2,c_2,hf,hc⟩
       replace hF := exK_go hF
       refine h30 _ _ ?_
       refine zS fun K h => sp 3 hf rfl fun a hf => zT h ?_
       refine wp_ret ?_
       obtain rfl := sj hF
       replace hc := (hc.drop k2).drop k1
       exact zO2 Try.results28 hf rfl rfl ⟨p_2,c_2,rfl,hc⟩
      have ho32 : ∀ r,x32 = .out r → r = res := by
       rintro r rfl
       exact sj hF
      replace hc := hc.nilRow 3 1
      replace hc := hc.drop k3
      refine cLoop N (loopW (S := S32) (x := x32) ?_ N (([] : List Int),0) _ _ ⟨none,0,hf.kp rfl,hc⟩ hx32)
      clear hF hf hc
      rintro ⟨out,x⟩ st32 a w KB32 ⟨p_2,c_2,hf,hc⟩ hF hfin32 hK32
      unfold daily_Again_b32 at hF
      refine zS fun K h => sp 1 hf rfl fun a hf => zT h ?_
      refine wp_seq_k fun K35 h35 => zI hf rfl hF ?_ ?_ <;> clear hF <;> intro hF
      ·refine wp_skip ?_
       refine h35 _ _ ?_
       refine wp_seq_k fun K36 h36 => ?_
       have hj36 : ∀ (out_1 : List Int) (p_3 : Option Addr) (c_3 : Nat) a w,Has 56 a [(8,.slice p_3 out_1.length c_3),(9,.func (.func 48) #[pq b_4] #[]),(39,.slice published_p published.length published_c),(40,i6 ((published.length : Nat) : Int)),(41,i6 x)] → Ctx G (.row p_3 c_3 (out_1.map encI_i64) 3 1::.row p_1 c_1 (r_3.2.2.1.map enc_api_Span) 68 2::.box b_4 [i6 r_3.1,i6 r_3.2.1,.slice r_Days_p r.Days.length r_Days_c,.slice p_1 r_3.2.2.1.length c_1] 95::Lf) w → daily_Again_j36 N x out_1 = some st32 → K36 a w := by
        repeat (clear hF)
        repeat (clear hc)
        repeat (clear hf)
        intro out_1 p_3 c_3 a w hf hc hF
        unfold daily_Again_j36 at hF
        refine h36 _ _ ?_
        refine cReg ?_
        refine sp 2 hf rfl fun a hf => cNil ?_
        exact hK32 (out_1,W (x + 1)) _ _ (sj hF).symm ⟨p_3,c_3,hf.kp rfl,hc⟩
       refine wp_block ?_
       refine zS fun K h => sp 1 hf rfl fun a hf => ?_
       obtain ⟨e_2,he_2,hF⟩ := bnd_some hF
       obtain ⟨b_5,o_1,qa_1,qp_1⟩ := h_published.atm he_2
       refine zP hf rfl (pIA Try.underlying60 sz_68 rfl rfl qa_1) fun a hf => zE hf hc rfl (eLdN (vs := [i6 e_2.Lo,i6 e_2.Hi]) ag_68 rfl rfl (cells_pc qp_1 (n := 2) (o' := 0) rfl)) fun a w hf hc => zA hf hc zr_68 rfl fun b_6 a w hf hc => sp 1 hf rfl fun a hf => zW hf hc sz_68 u0 rfl fun w hc => zT h ?_
       refine zS fun K h => sp 2 hf rfl fun a hf => zN hf hc ag_68 m0 rfl fun a w hf hc => ?_
       obtain ⟨r_4,hr_4,hF⟩ := bnd_some hF
       refine zQ (v := .bool r_4) hf hc en_48 rfl (fun w hc => by obtain ⟨G1,hle1,hrd1,hc,hth1⟩ := lend hc k2; exact (daily_work_again_ok (⟨(⟨r_3.1,r_3.2.1,r.Days⟩ : daily_Record),r_3.2.2.1⟩ : daily_work) x e_2 (h_r_Days.mono hle1) hrd1 (hc.pick k2) hr_4).mono fun e w h => ⟨h.1,((hth1 _ _ (h.2.unpick k2)).unpick k2)⟩) fun a w hf hc => zT h ?_
       refine zI hf rfl hF ?_ ?_ <;> clear hF <;> intro hF
       ·refine cReg ?_
        refine sp 2 hf rfl fun a hf => stBS (rows := ([x] : List Int).map encI_i64) (vs := [(0,i6 x)]) hf hc rfl rfl sl_27 rfl ⟨rfl,rfl,rfl,trivial⟩ rfl rfl fun b_7 a w hf hc => ?_
        obtain ⟨un,hun,hF⟩ := bnd_some hF
        refine stApm (xs := out) (ys := ([x] : List Int)) hf hc rfl rfl sl_27 rfl rfl rfl rfl rfl one_encI_i64 (src_row hc m0) (fun _ _ => u2) (by simpa using room_spec hun) fun p_4 c_4 a w hf hc => sp 1 hf rfl fun a hf => cNil ?_
        replace hc := (hc.drop k1).drop k0
        exact hj36 (out ++ [x]) p_4 c_4 _ _  (hf.kp rfl) hc hF
       ·refine wp_skip ?_
        replace hc := hc.drop k0
        exact hj36 out p_2 c_2 _ _  (hf.kp rfl) hc hF
      ·refine wp_exit ?_
       refine xThen ?_
       refine xThen ?_
       have he := sj hF
       rw [← he] at hfin32
       refine cHit ?_
       exact hr32 _ _ _ hfin32 ⟨p_2,c_2,hf.kp rfl,hc⟩

def law07_Counter_b5 (N : Nat) (values : List Int) (out : List daily_Reading) (x : Int) : Option (Step ((List daily_Reading) × Int) ((List daily_Reading))) :=
 cond (decide (x < ((values.length : Nat) : Int)))
 (Option.bind (getI values x) fun e_1 =>
 Option.bind (room ((out ++ [(⟨e_1,1⟩ : daily_Reading)])).length) fun un =>
 some (.cont ((out ++ [(⟨e_1,1⟩ : daily_Reading)]),W (x + 1))))
 (some (.brk (out,x)))
def law07_Counter (N : Nat) (values : List Int) : Option ((List daily_Reading)) :=
 Option.bind (loopO (fun s5 => law07_Counter_b5 N values s5.1 s5.2) N (([] : List daily_Reading),0)) fun x5 =>
 exK x5 (fun s5 => some s5.1) some
theorem law07_Counter_ok {N : Nat} {G : Pers} {Lf : List Ent} {w : World} (values : List Int) {values_p : Option Addr} {values_c : Nat} (h_values : Rd G 1 values_p values_c (values.map encI_i64)) (hc : Ctx G (Lf) w) {res : (List daily_Reading)} (hF : law07_Counter N values = some res) : Calls Try.prog 29 #[.slice values_p values.length values_c] w (fun e w => ∃ (p'1 : Option Addr) (c'1 : Nat),e = .returned (.slice p'1 res.length c'1) ∧ Ctx G (.row p'1 c'1 (res.map enc_daily_Reading) 33 2::Lf) w) := by
 unfold law07_Counter at hF
 refine fnIn Try.func29 rfl Try.ntmps29 rfl fun a hf => zS fun K h => sp 1 hf rfl fun a hf => zT h ?_
 refine zS fun K h => sp 1 hf rfl fun a hf => zT h ?_
 refine wp_seq_k fun K3 h3 => zS fun K h => sp 1 hf rfl fun a hf => zP hf rfl (pLenS Try.underlying27 rfl) fun a hf => sp 1 hf rfl fun a hf => zT h ?_
 refine wp_block ?_
 obtain ⟨x5,hx5,hF⟩ := bnd_some hF
 let S5 : ((List daily_Reading) × Int) → Act → World → Prop := (fun (zz : (List daily_Reading) × Int) a w => ∃ (p_1 : Option Addr) (c_1 : Nat),Has 19 a [(3,.slice p_1 zz.1.length c_1),(6,.slice values_p values.length values_c),(7,i6 ((values.length : Nat) : Int)),(8,i6 zz.2)] ∧ Ctx G (.row p_1 c_1 (zz.1.map enc_daily_Reading) 33 2::Lf) w)
 have hr5 : ∀ (zz : (List daily_Reading) × Int) a w,x5 = .go zz → S5 zz a w → K3 a w := by
  rintro ⟨out,x⟩ a w rfl ⟨p_1,c_1,hf,hc⟩
  replace hF := exK_go hF
  refine h3 _ _ ?_
  refine zS fun K h => sp 2 hf rfl fun a hf => zT h ?_
  refine wp_ret ?_
  obtain rfl := sj hF
  exact zO1 Try.results29 hf rfl ⟨p_1,c_1,rfl,hc⟩
 have ho5 : ∀ r,x5 = .out r → r = res := by
  rintro r rfl
  exact sj hF
 replace hc := hc.nilRow 33 2
 refine cLoop N (loopW (S := S5) (x := x5) ?_ N (([] : List daily_Reading),0) _ _ ⟨none,0,hf.kp rfl,hc⟩ hx5)
 clear hF hf hc
 rintro ⟨out,x⟩ st5 a w KB5 ⟨p_1,c_1,hf,hc⟩ hF hfin5 hK5
 unfold law07_Counter_b5 at hF
 refine zS fun K h => sp 1 hf rfl fun a hf => zT h ?_
 refine wp_seq_k fun K8 h8 => zI hf rfl hF ?_ ?_ <;> clear hF <;> intro hF
 ·refine wp_skip ?_
  refine h8 _ _ ?_
  refine wp_seq_k fun K9 h9 => wp_block ?_
  refine zS fun K h => ?_
  obtain ⟨e_1,he_1,hF⟩ := bnd_some hF
  obtain ⟨b_1,o,qa,qp⟩ := h_values.atm he_1
  refine zP hf rfl (pIA Try.underlying27 sz_3 rfl rfl qa) fun a hf => zE hf hc rfl (eLd1 sc_3 rfl (cell_pc (j := 0) qp rfl)) fun a w hf hc => sp 1 hf rfl fun a hf => zT h ?_
  refine cReg ?_
  refine sp 2 hf rfl fun a hf => zP hf rfl (pBuildS (cells := [i6 e_1,i6 1]) bt_33 rfl rfl) fun a hf => stBS (rows := ([(⟨e_1,1⟩ : daily_Reading)] : List daily_Reading).map enc_daily_Reading) (vs := [(0,.agg #[i6 e_1,i6 1])]) hf hc rfl rfl sl_23 rfl ⟨rfl,rfl,rfl,trivial⟩ rfl rfl fun b_2 a w hf hc => ?_
  obtain ⟨un,hun,hF⟩ := bnd_some hF
  refine stApm (xs := out) (ys := ([(⟨e_1,1⟩ : daily_Reading)] : List daily_Reading)) hf hc rfl rfl sl_23 rfl rfl rfl rfl rfl one_enc_daily_Reading (src_row hc m0) (fun _ _ => u1) (by simpa using room_spec hun) fun p_2 c_2 a w hf hc => sp 1 hf rfl fun a hf => cNil ?_
  refine h9 _ _ ?_
  refine cReg ?_
  refine sp 2 hf rfl fun a hf => cNil ?_
  replace hc := hc.drop k0
  exact hK5 ((out ++ [(⟨e_1,1⟩ : daily_Reading)]),W (x + 1)) _ _ (sj hF).symm ⟨p_2,c_2,hf.kp rfl,hc⟩
 ·refine wp_exit ?_
  refine xThen ?_
  refine xThen ?_
  have he := sj hF
  rw [← he] at hfin5
  refine cHit ?_
  exact hr5 _ _ _ hfin5 ⟨p_1,c_1,hf.kp rfl,hc⟩

def law07_awake (N : Nat)  : Option (Bool) :=
 Option.bind (law07_Four N 58) fun r =>
 Option.bind (daily_Fill N r) fun r_1 =>
 Option.bind (law07_Four N 58) fun r_2 =>
 Option.bind (daily_Volume N r_2 1 2) fun r_3 =>
 Option.bind (law07_Four N 58) fun r_4 =>
 Option.bind (daily_Peak N r_4) fun r_5 =>
 Option.bind (law07_Four N 61) fun r_6 =>
 Option.bind (daily_Clash N r_6) fun r_7 =>
 Option.bind (cond (!((((r_1.2 != 0) || (r_3.2 != 0)) || (r_5.2.2 != 0)) || (r_7.2.2 != 0))) (kit_Same_api_Span N r_1.1 ([(⟨28,30⟩ : api_Span),(⟨38,40⟩ : api_Span),(⟨48,50⟩ : api_Span),(⟨58,60⟩ : api_Span)] : List api_Span)) (some false)) fun r_8 =>
 Option.bind (cond (!(((((r_1.2 != 0) || (r_3.2 != 0)) || (r_5.2.2 != 0)) || (r_7.2.2 != 0)) || (!r_8))) (law07_span N 86 90) (some (⟨0,0⟩ : api_Span))) fun r_9 =>
 Option.bind (cond (!((((((r_1.2 != 0) || (r_3.2 != 0)) || (r_5.2.2 != 0)) || (r_7.2.2 != 0)) || (!r_8)) || (!(r_3.1.Lo == r_9.Lo && r_3.1.Hi == r_9.Hi)))) (law07_span N 58 60) (some (⟨0,0⟩ : api_Span))) fun r_10 =>
 Option.bind (cond (!(((((((r_1.2 != 0) || (r_3.2 != 0)) || (r_5.2.2 != 0)) || (r_7.2.2 != 0)) || (!r_8)) || (!(r_3.1.Lo == r_9.Lo && r_3.1.Hi == r_9.Hi))) || (!(r_5.1.Lo == r_10.Lo && r_5.1.Hi == r_10.Hi)))) (kit_Same_int N r_5.2.1 ([3] : List Int)) (some false)) fun r_11 =>
 cond ((((((((((r_1.2 != 0) || (r_3.2 != 0)) || (r_5.2.2 != 0)) || (r_7.2.2 != 0)) || (!r_8)) || (!(r_3.1.Lo == r_9.Lo && r_3.1.Hi == r_9.Hi))) || (!(r_5.1.Lo == r_10.Lo && r_5.1.Hi == r_10.Hi))) || (!r_11)) || (r_7.1 != 0)) || (r_7.2.1 != 3))
 (some false)
 (Option.bind (law07_Four N 58) fun r_12 =>
 Option.bind (daily_Again N r_12 ([(⟨20,35⟩ : api_Span),(⟨30,40⟩ : api_Span),(⟨49,60⟩ : api_Span),(⟨50,60⟩ : api_Span)] : List api_Span)) fun r_13 =>
 Option.bind (law07_Counter N ([10,14,12,20] : List Int)) fun r_14 =>
 Option.bind (daily_Correct N r_14) fun r_15 =>
 Option.bind (law07_Counter N ([9,5,7,3] : List Int)) fun r_16 =>
 Option.bind (daily_Proves N r_16 ([(⟨0,1,1⟩ : daily_Fall),(⟨2,3,1⟩ : daily_Fall)] : List daily_Fall)) fun r_17 =>
 Option.bind (cond (((r_13.2 == 0) && (r_15.2.2 == 0)) && (r_17.2 == 0)) (Option.bind (kit_Same_int N r_13.1 ([2] : List Int)) fun r_18 =>
 some r_18) (some false)) fun t_1 =>
 Option.bind (cond t_1 (Option.bind (kit_Same_int N r_15.1 ([10,12,12,20] : List Int)) fun r_19 =>
 some r_19) (some false)) fun t_2 =>
 some ((t_2 && (r_15.2.1 == 2)) && (r_17.1 == 8)))
theorem law07_awake_ok {N : Nat} {G : Pers} {Lf : List Ent} {w : World}    (hc : Ctx G (Lf) w) {res : Bool} (hF : law07_awake N = some res) : Calls Try.prog 12 #[] w (fun e w => e = .returned (.bool res) ∧ Ctx G (Lf) w) := by
 unfold law07_awake at hF
 refine fnIn Try.func12 rfl Try.ntmps12 rfl fun a hf => zS fun K h => sp 1 hf rfl fun a hf => zT h ?_
 refine zS fun K h => ?_
 obtain ⟨r,hr,hF⟩ := bnd_some hF
 refine zC hf en_22 rfl (law07_Four_ok 58 hc hr) ?_
 rintro _ w ⟨p_1,c_1,rfl,hc⟩
 refine ⟨_,rfl,fun a hf => ?_⟩
 obtain ⟨r_1,hr_1,hF⟩ := bnd_some hF
 obtain ⟨G1,hle1,hrd1,hc,hth1⟩ := lend hc k0
 refine zC hf en_21 rfl (daily_Fill_ok r hrd1 hc hr_1) ?_
 rintro _ w ⟨p_2,c_2,rfl,hc⟩
 refine ⟨_,rfl,fun a hf => ?_⟩
 replace hc := hth1 _ _ hc
 refine sp 5 hf rfl fun a hf => zT h ?_
 refine zS fun K h => ?_
 obtain ⟨r_2,hr_2,hF⟩ := bnd_some hF
 refine zC hf en_22 rfl (law07_Four_ok 58 hc hr_2) ?_
 rintro _ w ⟨p_3,c_3,rfl,hc⟩
 refine ⟨_,rfl,fun a hf => ?_⟩
 obtain ⟨r_3,hr_3,hF⟩ := bnd_some hF
 refine zQ (v := .tuple #[.agg #[i6 r_3.1.Lo,i6 r_3.1.Hi],i6 r_3.2]) hf hc en_23 rfl (fun w hc => by obtain ⟨G1,hle1,hrd1,hc,hth1⟩ := lend hc k0; exact (daily_Volume_ok r_2 1 2 hrd1 hc hr_3).mono fun e w h => ⟨h.1,((hth1 _ _ h.2).unpick k0)⟩) fun a w hf hc => sp 3 hf rfl fun a hf => zA hf hc zr_68 rfl fun b_1 a w hf hc => zW hf hc sz_68 u0 rfl fun w hc => sp 1 hf rfl fun a hf => zT h ?_
 refine zS fun K h => ?_
 obtain ⟨r_4,hr_4,hF⟩ := bnd_some hF
 refine zC hf en_22 rfl (law07_Four_ok 58 hc hr_4) ?_
 rintro _ w ⟨p_4,c_4,rfl,hc⟩
 refine ⟨_,rfl,fun a hf => ?_⟩
 obtain ⟨r_5,hr_5,hF⟩ := bnd_some hF
 obtain ⟨G1,hle1,hrd1,hc,hth1⟩ := lend hc k0
 refine zC hf en_24 rfl (daily_Peak_ok r_4 hrd1 hc hr_5) ?_
 rintro _ w ⟨p_5,c_5,rfl,hc⟩
 refine ⟨_,rfl,fun a hf => ?_⟩
 replace hc := hth1 _ _ hc
 refine sp 4 hf rfl fun a hf => zA hf hc zr_68 rfl fun b_2 a w hf hc => zW hf hc sz_68 u0 rfl fun w hc => sp 2 hf rfl fun a hf => zT h ?_
 refine zS fun K h => ?_
 obtain ⟨r_6,hr_6,hF⟩ := bnd_some hF
 refine zC hf en_22 rfl (law07_Four_ok 61 hc hr_6) ?_
 rintro _ w ⟨p_6,c_6,rfl,hc⟩
 refine ⟨_,rfl,fun a hf => ?_⟩
 obtain ⟨r_7,hr_7,hF⟩ := bnd_some hF
 refine zQ (v := .tuple #[i6 r_7.1,i6 r_7.2.1,i6 r_7.2.2]) hf hc en_25 rfl (fun w hc => by obtain ⟨G1,hle1,hrd1,hc,hth1⟩ := lend hc k0; exact (daily_Clash_ok r_6 hrd1 hc hr_7).mono fun e w h => ⟨h.1,((hth1 _ _ h.2).unpick k0)⟩) fun a w hf hc => sp 7 hf rfl fun a hf => zT h ?_
 refine wp_seq_k fun K6 h6 => wp_seq_k fun K7 h7 => ?_
 obtain ⟨r_8,hr_8,hF⟩ := bnd_some hF
 obtain ⟨r_9,hr_9,hF⟩ := bnd_some hF
 obtain ⟨r_10,hr_10,hF⟩ := bnd_some hF
 obtain ⟨r_11,hr_11,hF⟩ := bnd_some hF
 replace hc := hc.nilRow 0 0
 replace hc := hc.nilRow 0 0
 refine regionE (fun θ => (⟨none,none,1,.slice p_2 r_1.1.length c_2⟩::⟨none,none,2,i6 r_1.2⟩::⟨none,none,3,pq b_1⟩::⟨none,none,4,i6 r_3.2⟩::⟨none,none,5,pq b_2⟩::⟨none,none,6,.slice p_5 r_5.2.1.length c_5⟩::⟨none,none,7,i6 r_5.2.2⟩::⟨none,none,8,i6 r_7.1⟩::⟨none,none,9,i6 r_7.2.1⟩::⟨none,none,10,i6 r_7.2.2⟩::⟨some 0,none,37,i6 r_1.2⟩::⟨some 1,none,38,.bool (r_1.2 != 0)⟩::⟨some 2,none,39,.bool (r_1.2 != 0)⟩::⟨some 3,none,40,(bif (r_1.2 != 0) then undef else i6 r_3.2)⟩::⟨some 4,none,41,(bif (r_1.2 != 0) then undef else .bool (r_3.2 != 0))⟩::⟨some 5,none,42,.bool ((r_1.2 != 0) || (r_3.2 != 0))⟩::⟨some 6,none,43,.bool ((r_1.2 != 0) || (r_3.2 != 0))⟩::⟨some 7,none,44,(bif ((r_1.2 != 0) || (r_3.2 != 0)) then undef else i6 r_5.2.2)⟩::⟨some 8,none,45,(bif ((r_1.2 != 0) || (r_3.2 != 0)) then undef else .bool (r_5.2.2 != 0))⟩::⟨some 9,none,46,.bool (((r_1.2 != 0) || (r_3.2 != 0)) || (r_5.2.2 != 0))⟩::⟨some 10,none,47,.bool (((r_1.2 != 0) || (r_3.2 != 0)) || (r_5.2.2 != 0))⟩::⟨some 11,none,48,(bif (((r_1.2 != 0) || (r_3.2 != 0)) || (r_5.2.2 != 0)) then undef else i6 r_7.2.2)⟩::⟨some 12,none,49,(bif (((r_1.2 != 0) || (r_3.2 != 0)) || (r_5.2.2 != 0)) then undef else .bool (r_7.2.2 != 0))⟩::⟨some 13,none,50,.bool ((((r_1.2 != 0) || (r_3.2 != 0)) || (r_5.2.2 != 0)) || (r_7.2.2 != 0))⟩::⟨some 14,none,51,.bool ((((r_1.2 != 0) || (r_3.2 != 0)) || (r_5.2.2 != 0)) || (r_7.2.2 != 0))⟩::⟨some 15,none,52,(bif ((((r_1.2 != 0) || (r_3.2 != 0)) || (r_5.2.2 != 0)) || (r_7.2.2 != 0)) then undef else .slice p_2 r_1.1.length c_2)⟩::⟨some 16,none,53,(bif ((((r_1.2 != 0) || (r_3.2 != 0)) || (r_5.2.2 != 0)) || (r_7.2.2 != 0)) then undef else .agg #[i6 28,i6 30])⟩::⟨some 17,none,54,(bif ((((r_1.2 != 0) || (r_3.2 != 0)) || (r_5.2.2 != 0)) || (r_7.2.2 != 0)) then undef else .agg #[i6 38,i6 40])⟩::⟨some 18,none,55,(bif ((((r_1.2 != 0) || (r_3.2 != 0)) || (r_5.2.2 != 0)) || (r_7.2.2 != 0)) then undef else .agg #[i6 48,i6 50])⟩::⟨some 19,none,56,(bif ((((r_1.2 != 0) || (r_3.2 != 0)) || (r_5.2.2 != 0)) || (r_7.2.2 != 0)) then undef else .agg #[i6 58,i6 60])⟩::⟨some 20,none,57,(bif ((((r_1.2 != 0) || (r_3.2 != 0)) || (r_5.2.2 != 0)) || (r_7.2.2 != 0)) then undef else .slice (some ⟨(θ 160).b,0,none⟩) 4 4)⟩::⟨some 21,none,58,(bif ((((r_1.2 != 0) || (r_3.2 != 0)) || (r_5.2.2 != 0)) || (r_7.2.2 != 0)) then undef else .bool r_8)⟩::⟨some 22,none,59,(bif ((((r_1.2 != 0) || (r_3.2 != 0)) || (r_5.2.2 != 0)) || (r_7.2.2 != 0)) then undef else .bool (!r_8))⟩::⟨some 23,none,60,.bool (((((r_1.2 != 0) || (r_3.2 != 0)) || (r_5.2.2 != 0)) || (r_7.2.2 != 0)) || (!r_8))⟩::⟨some 24,none,61,.bool (((((r_1.2 != 0) || (r_3.2 != 0)) || (r_5.2.2 != 0)) || (r_7.2.2 != 0)) || (!r_8))⟩::⟨some 25,none,62,(bif (((((r_1.2 != 0) || (r_3.2 != 0)) || (r_5.2.2 != 0)) || (r_7.2.2 != 0)) || (!r_8)) then undef else .agg #[i6 r_3.1.Lo,i6 r_3.1.Hi])⟩::⟨some 26,none,63,(bif (((((r_1.2 != 0) || (r_3.2 != 0)) || (r_5.2.2 != 0)) || (r_7.2.2 != 0)) || (!r_8)) then undef else .agg #[i6 r_9.Lo,i6 r_9.Hi])⟩::⟨some 27,none,64,(bif (((((r_1.2 != 0) || (r_3.2 != 0)) || (r_5.2.2 != 0)) || (r_7.2.2 != 0)) || (!r_8)) then undef else .bool (!(r_3.1.Lo == r_9.Lo && r_3.1.Hi == r_9.Hi)))⟩::⟨some 28,none,65,.bool ((((((r_1.2 != 0) || (r_3.2 != 0)) || (r_5.2.2 != 0)) || (r_7.2.2 != 0)) || (!r_8)) || (!(r_3.1.Lo == r_9.Lo && r_3.1.Hi == r_9.Hi)))⟩::⟨some 29,none,66,.bool ((((((r_1.2 != 0) || (r_3.2 != 0)) || (r_5.2.2 != 0)) || (r_7.2.2 != 0)) || (!r_8)) || (!(r_3.1.Lo == r_9.Lo && r_3.1.Hi == r_9.Hi)))⟩::⟨some 30,none,67,(bif ((((((r_1.2 != 0) || (r_3.2 != 0)) || (r_5.2.2 != 0)) || (r_7.2.2 != 0)) || (!r_8)) || (!(r_3.1.Lo == r_9.Lo && r_3.1.Hi == r_9.Hi))) then undef else .agg #[i6 r_5.1.Lo,i6 r_5.1.Hi])⟩::⟨some 31,none,68,(bif ((((((r_1.2 != 0) || (r_3.2 != 0)) || (r_5.2.2 != 0)) || (r_7.2.2 != 0)) || (!r_8)) || (!(r_3.1.Lo == r_9.Lo && r_3.1.Hi == r_9.Hi))) then undef else .agg #[i6 r_10.Lo,i6 r_10.Hi])⟩::⟨some 32,none,69,(bif ((((((r_1.2 != 0) || (r_3.2 != 0)) || (r_5.2.2 != 0)) || (r_7.2.2 != 0)) || (!r_8)) || (!(r_3.1.Lo == r_9.Lo && r_3.1.Hi == r_9.Hi))) then undef else .bool (!(r_5.1.Lo == r_10.Lo && r_5.1.Hi == r_10.Hi)))⟩::⟨some 33,none,70,.bool (((((((r_1.2 != 0) || (r_3.2 != 0)) || (r_5.2.2 != 0)) || (r_7.2.2 != 0)) || (!r_8)) || (!(r_3.1.Lo == r_9.Lo && r_3.1.Hi == r_9.Hi))) || (!(r_5.1.Lo == r_10.Lo && r_5.1.Hi == r_10.Hi)))⟩::⟨some 34,none,71,.bool (((((((r_1.2 != 0) || (r_3.2 != 0)) || (r_5.2.2 != 0)) || (r_7.2.2 != 0)) || (!r_8)) || (!(r_3.1.Lo == r_9.Lo && r_3.1.Hi == r_9.Hi))) || (!(r_5.1.Lo == r_10.Lo && r_5.1.Hi == r_10.Hi)))⟩::⟨some 35,none,72,(bif (((((((r_1.2 != 0) || (r_3.2 != 0)) || (r_5.2.2 != 0)) || (r_7.2.2 != 0)) || (!r_8)) || (!(r_3.1.Lo == r_9.Lo && r_3.1.Hi == r_9.Hi))) || (!(r_5.1.Lo == r_10.Lo && r_5.1.Hi == r_10.Hi))) then undef else .slice p_5 r_5.2.1.length c_5)⟩::⟨some 36,none,73,(bif (((((((r_1.2 != 0) || (r_3.2 != 0)) || (r_5.2.2 != 0)) || (r_7.2.2 != 0)) || (!r_8)) || (!(r_3.1.Lo == r_9.Lo && r_3.1.Hi == r_9.Hi))) || (!(r_5.1.Lo == r_10.Lo && r_5.1.Hi == r_10.Hi))) then undef else .slice (some ⟨(θ 288).b,0,none⟩) 1 1)⟩::⟨some 37,none,74,(bif (((((((r_1.2 != 0) || (r_3.2 != 0)) || (r_5.2.2 != 0)) || (r_7.2.2 != 0)) || (!r_8)) || (!(r_3.1.Lo == r_9.Lo && r_3.1.Hi == r_9.Hi))) || (!(r_5.1.Lo == r_10.Lo && r_5.1.Hi == r_10.Hi))) then undef else .bool r_11)⟩::⟨some 38,none,75,(bif (((((((r_1.2 != 0) || (r_3.2 != 0)) || (r_5.2.2 != 0)) || (r_7.2.2 != 0)) || (!r_8)) || (!(r_3.1.Lo == r_9.Lo && r_3.1.Hi == r_9.Hi))) || (!(r_5.1.Lo == r_10.Lo && r_5.1.Hi == r_10.Hi))) then undef else .bool (!r_11))⟩::⟨some 39,none,76,.bool ((((((((r_1.2 != 0) || (r_3.2 != 0)) || (r_5.2.2 != 0)) || (r_7.2.2 != 0)) || (!r_8)) || (!(r_3.1.Lo == r_9.Lo && r_3.1.Hi == r_9.Hi))) || (!(r_5.1.Lo == r_10.Lo && r_5.1.Hi == r_10.Hi))) || (!r_11))⟩::⟨some 40,none,77,.bool ((((((((r_1.2 != 0) || (r_3.2 != 0)) || (r_5.2.2 != 0)) || (r_7.2.2 != 0)) || (!r_8)) || (!(r_3.1.Lo == r_9.Lo && r_3.1.Hi == r_9.Hi))) || (!(r_5.1.Lo == r_10.Lo && r_5.1.Hi == r_10.Hi))) || (!r_11))⟩::⟨some 41,none,78,(bif ((((((((r_1.2 != 0) || (r_3.2 != 0)) || (r_5.2.2 != 0)) || (r_7.2.2 != 0)) || (!r_8)) || (!(r_3.1.Lo == r_9.Lo && r_3.1.Hi == r_9.Hi))) || (!(r_5.1.Lo == r_10.Lo && r_5.1.Hi == r_10.Hi))) || (!r_11)) then undef else i6 r_7.1)⟩::⟨some 42,none,79,(bif ((((((((r_1.2 != 0) || (r_3.2 != 0)) || (r_5.2.2 != 0)) || (r_7.2.2 != 0)) || (!r_8)) || (!(r_3.1.Lo == r_9.Lo && r_3.1.Hi == r_9.Hi))) || (!(r_5.1.Lo == r_10.Lo && r_5.1.Hi == r_10.Hi))) || (!r_11)) then undef else .bool (r_7.1 != 0))⟩::⟨some 43,none,80,.bool (((((((((r_1.2 != 0) || (r_3.2 != 0)) || (r_5.2.2 != 0)) || (r_7.2.2 != 0)) || (!r_8)) || (!(r_3.1.Lo == r_9.Lo && r_3.1.Hi == r_9.Hi))) || (!(r_5.1.Lo == r_10.Lo && r_5.1.Hi == r_10.Hi))) || (!r_11)) || (r_7.1 != 0))⟩::⟨some 44,none,81,.bool (((((((((r_1.2 != 0) || (r_3.2 != 0)) || (r_5.2.2 != 0)) || (r_7.2.2 != 0)) || (!r_8)) || (!(r_3.1.Lo == r_9.Lo && r_3.1.Hi == r_9.Hi))) || (!(r_5.1.Lo == r_10.Lo && r_5.1.Hi == r_10.Hi))) || (!r_11)) || (r_7.1 != 0))⟩::⟨some 45,none,82,(bif (((((((((r_1.2 != 0) || (r_3.2 != 0)) || (r_5.2.2 != 0)) || (r_7.2.2 != 0)) || (!r_8)) || (!(r_3.1.Lo == r_9.Lo && r_3.1.Hi == r_9.Hi))) || (!(r_5.1.Lo == r_10.Lo && r_5.1.Hi == r_10.Hi))) || (!r_11)) || (r_7.1 != 0)) then undef else i6 r_7.2.1)⟩::⟨some 46,none,83,(bif (((((((((r_1.2 != 0) || (r_3.2 != 0)) || (r_5.2.2 != 0)) || (r_7.2.2 != 0)) || (!r_8)) || (!(r_3.1.Lo == r_9.Lo && r_3.1.Hi == r_9.Hi))) || (!(r_5.1.Lo == r_10.Lo && r_5.1.Hi == r_10.Hi))) || (!r_11)) || (r_7.1 != 0)) then undef else .bool (r_7.2.1 != 3))⟩::⟨some 47,none,84,.bool ((((((((((r_1.2 != 0) || (r_3.2 != 0)) || (r_5.2.2 != 0)) || (r_7.2.2 != 0)) || (!r_8)) || (!(r_3.1.Lo == r_9.Lo && r_3.1.Hi == r_9.Hi))) || (!(r_5.1.Lo == r_10.Lo && r_5.1.Hi == r_10.Hi))) || (!r_11)) || (r_7.1 != 0)) || (r_7.2.1 != 3))⟩::[])) (fun E θ => (bif E 36 then (gE (!(((((((r_1.2 != 0) || (r_3.2 != 0)) || (r_5.2.2 != 0)) || (r_7.2.2 != 0)) || (!r_8)) || (!(r_3.1.Lo == r_9.Lo && r_3.1.Hi == r_9.Hi))) || (!(r_5.1.Lo == r_10.Lo && r_5.1.Hi == r_10.Hi)))) (.row (some ⟨(θ 288).b,0,none⟩) 1 (([3] : List Int).map encI_i64) 3 1)) else .row none 0 [] 0 0)::(bif E 20 then (gE (!((((r_1.2 != 0) || (r_3.2 != 0)) || (r_5.2.2 != 0)) || (r_7.2.2 != 0))) (.row (some ⟨(θ 160).b,0,none⟩) 4 (([(⟨28,30⟩ : api_Span),(⟨38,40⟩ : api_Span),(⟨48,50⟩ : api_Span),(⟨58,60⟩ : api_Span)] : List api_Span).map enc_api_Span) 68 2)) else .row none 0 [] 0 0)::.row p_6 c_6 (r_6.Days.map enc_daily_Value) 97 3::.box b_2 [i6 r_5.1.Lo,i6 r_5.1.Hi] 68::.row p_4 c_4 (r_4.Days.map enc_daily_Value) 97 3::.row p_5 c_5 (r_5.2.1.map encI_i64) 3 1::.box b_1 [i6 r_3.1.Lo,i6 r_3.1.Hi] 68::.row p_3 c_3 (r_2.Days.map enc_daily_Value) 97 3::.row p_1 c_1 (r.Days.map enc_daily_Value) 97 3::.row p_2 c_2 (r_1.1.map enc_api_Span) 68 2::Lf) [] (fun a w => Has 139 a [(84,.bool ((((((((((r_1.2 != 0) || (r_3.2 != 0)) || (r_5.2.2 != 0)) || (r_7.2.2 != 0)) || (!r_8)) || (!(r_3.1.Lo == r_9.Lo && r_3.1.Hi == r_9.Hi))) || (!(r_5.1.Lo == r_10.Lo && r_5.1.Hi == r_10.Hi))) || (!r_11)) || (r_7.1 != 0)) || (r_7.2.1 != 3)))] ∧ Ctx G (.row p_6 c_6 (r_6.Days.map enc_daily_Value) 97 3::.box b_2 [i6 r_5.1.Lo,i6 r_5.1.Hi] 68::.row p_4 c_4 (r_4.Days.map enc_daily_Value) 97 3::.row p_5 c_5 (r_5.2.1.map encI_i64) 3 1::.box b_1 [i6 r_3.1.Lo,i6 r_3.1.Hi] 68::.row p_3 c_3 (r_2.Days.map enc_daily_Value) 97 3::.row p_1 c_1 (r.Days.map enc_daily_Value) 97 3::.row p_2 c_2 (r_1.1.map enc_api_Span) 68 2::Lf) w) follows_mx (by kernel_rfl) (by kernel_rfl) (HasE.of hf ⟨rfl,rfl,rfl,rfl,rfl,rfl,rfl,rfl,rfl,rfl,trivial,trivial,trivial,trivial,trivial,trivial,trivial,trivial,trivial,trivial,trivial,trivial,trivial,trivial,trivial,trivial,trivial,trivial,trivial,trivial,trivial,trivial,trivial,trivial,trivial,trivial,trivial,trivial,trivial,trivial,trivial,trivial,trivial,trivial,trivial,trivial,trivial,trivial,trivial,trivial,trivial,trivial,trivial,trivial,trivial,trivial,trivial,trivial,trivial⟩) hc ⟨?_,?_,?_,?_,?_,?_,?_,?_,?_,?_,?_,?_,?_,?_,?_,?_,?_,?_,?_,?_,?_,?_,?_,?_,?_,?_,?_,?_,?_,?_,?_,?_,?_,?_,?_,?_,?_,?_,?_,?_,?_,?_,?_,?_,?_,?_,?_,?_,trivial⟩ ?_ ?_
 ·intro E θ a w hD hi hp he hc
  have hf := he.h0.mT he 1 rfl
  refine sp 1 hf rfl fun a hf => zD θ he hi hf 10 rfl rfl rfl hc
 ·intro E θ a w hD hi hp he hc
  have e0 := hp.o 0 rfl
  have hf := he.h0.mP he 10 rfl e0
  refine sp 1 hf rfl fun a hf => zD θ he hi hf 11 rfl rfl rfl hc
 ·intro E θ a w hD hi hp he hc
  have e1 := hp.o 1 rfl
  have hf := he.h0.mP he 11 rfl e1
  refine sp 1 hf rfl fun a hf => zD θ he hi hf 12 rfl rfl rfl hc
 ·intro E θ a w hD hi hp he hc
  have e2 := hp.o 2 rfl
  rcases boolEq (r_1.2 != 0) with hb | hb
  ·have hf := (he.h0.mT he 3 rfl).mP he 12 rfl e2
   replace hf := castB hb hf
   refine stS hf rfl rfl rfl fun a hf => ?_
   replace hf := castI (u := i6 r_3.2) hb hf
   exact zD θ he hi hf 13 rfl rfl rfl hc
  ·have hf := (he.h0.mT he 3 rfl).mP he 12 rfl e2
   replace hf := castB hb hf
   refine sp 1 hf rfl fun a hf => ?_
   replace hf := castJ (u := undef) hb hf
   exact zD θ he hi hf 13 rfl rfl rfl hc
 ·intro E θ a w hD hi hp he hc
  have e2 := hp.o 2 rfl
  have e3 := hp.o 3 rfl
  rcases boolEq (r_1.2 != 0) with hb | hb
  ·have hf := he.h0.mP he 12 rfl e2
   replace hf := castB hb hf
   replace hf := hf.more he 13 rfl (onP e3)
   replace hf := castCT hb hf
   refine stS hf rfl rfl rfl fun a hf => ?_
   replace hf := castI (u := .bool (r_3.2 != 0)) hb hf
   exact zD θ he hi hf 14 rfl rfl rfl hc
  ·have hf := he.h0.mP he 12 rfl e2
   replace hf := castB hb hf
   replace hf := hf.more he 13 rfl (onP e3)
   replace hf := castCF hb hf
   refine sp 1 hf rfl fun a hf => ?_
   replace hf := castJ (u := undef) hb hf
   exact zD θ he hi hf 14 rfl rfl rfl hc
 ·intro E θ a w hD hi hp he hc
  have e2 := hp.o 2 rfl
  have e4 := hp.o 4 rfl
  rcases boolEq (r_1.2 != 0) with hb | hb
  ·have hf := he.h0.mP he 12 rfl e2
   replace hf := castB hb hf
   replace hf := hf.more he 14 rfl (onP e4)
   replace hf := castCT hb hf
   refine sp 1 hf rfl fun a hf => ?_
   replace hf := castV (v' := .bool ((r_1.2 != 0) || (r_3.2 != 0))) (congrArg Value.bool (orT hb)) hf
   exact zD θ he hi hf 15 rfl rfl rfl hc
  ·have hf := he.h0.mP he 12 rfl e2
   replace hf := castB hb hf
   replace hf := hf.more he 14 rfl (onP e4)
   replace hf := castCF hb hf
   refine sp 1 hf rfl fun a hf => ?_
   replace hf := castV (v' := .bool ((r_1.2 != 0) || (r_3.2 != 0))) (congrArg Value.bool (orF hb)) hf
   exact zD θ he hi hf 15 rfl rfl rfl hc
 ·intro E θ a w hD hi hp he hc
  have e5 := hp.o 5 rfl
  have hf := he.h0.mP he 15 rfl e5
  refine sp 1 hf rfl fun a hf => zD θ he hi hf 16 rfl rfl rfl hc
 ·intro E θ a w hD hi hp he hc
  have e6 := hp.o 6 rfl
  rcases boolEq ((r_1.2 != 0) || (r_3.2 != 0)) with hb | hb
  ·have hf := (he.h0.mT he 6 rfl).mP he 16 rfl e6
   replace hf := castB hb hf
   refine stS hf rfl rfl rfl fun a hf => ?_
   replace hf := castI (u := i6 r_5.2.2) hb hf
   exact zD θ he hi hf 17 rfl rfl rfl hc
  ·have hf := (he.h0.mT he 6 rfl).mP he 16 rfl e6
   replace hf := castB hb hf
   refine sp 1 hf rfl fun a hf => ?_
   replace hf := castJ (u := undef) hb hf
   exact zD θ he hi hf 17 rfl rfl rfl hc
 ·intro E θ a w hD hi hp he hc
  have e6 := hp.o 6 rfl
  have e7 := hp.o 7 rfl
  rcases boolEq ((r_1.2 != 0) || (r_3.2 != 0)) with hb | hb
  ·have hf := he.h0.mP he 16 rfl e6
   replace hf := castB hb hf
   replace hf := hf.more he 17 rfl (onP e7)
   replace hf := castCT hb hf
   refine stS hf rfl rfl rfl fun a hf => ?_
   replace hf := castI (u := .bool (r_5.2.2 != 0)) hb hf
   exact zD θ he hi hf 18 rfl rfl rfl hc
  ·have hf := he.h0.mP he 16 rfl e6
   replace hf := castB hb hf
   replace hf := hf.more he 17 rfl (onP e7)
   replace hf := castCF hb hf
   refine sp 1 hf rfl fun a hf => ?_
   replace hf := castJ (u := undef) hb hf
   exact zD θ he hi hf 18 rfl rfl rfl hc
 ·intro E θ a w hD hi hp he hc
  have e6 := hp.o 6 rfl
  have e8 := hp.o 8 rfl
  rcases boolEq ((r_1.2 != 0) || (r_3.2 != 0)) with hb | hb
  ·have hf := he.h0.mP he 16 rfl e6
   replace hf := castB hb hf
   replace hf := hf.more he 18 rfl (onP e8)
   replace hf := castCT hb hf
   refine sp 1 hf rfl fun a hf => ?_
   replace hf := castV (v' := .bool (((r_1.2 != 0) || (r_3.2 != 0)) || (r_5.2.2 != 0))) (congrArg Value.bool (orT hb)) hf
   exact zD θ he hi hf 19 rfl rfl rfl hc
  ·have hf := he.h0.mP he 16 rfl e6
   replace hf := castB hb hf
   replace hf := hf.more he 18 rfl (onP e8)
   replace hf := castCF hb hf
   refine sp 1 hf rfl fun a hf => ?_
   replace hf := castV (v' := .bool (((r_1.2 != 0) || (r_3.2 != 0)) || (r_5.2.2 != 0))) (congrArg Value.bool (orF hb)) hf
   exact zD θ he hi hf 19 rfl rfl rfl hc
 ·intro E θ a w hD hi hp he hc
  have e9 := hp.o 9 rfl
  have hf := he.h0.mP he 19 rfl e9
  refine sp 1 hf rfl fun a hf => zD θ he hi hf 20 rfl rfl rfl hc
 ·intro E θ a w hD hi hp he hc
  have e10 := hp.o 10 rfl
  rcases boolEq (((r_1.2 != 0) || (r_3.2 != 0)) || (r_5.2.2 != 0)) with hb | hb
  ·have hf := (he.h0.mT he 9 rfl).mP he 20 rfl e10
   replace hf := castB hb hf
   refine stS hf rfl rfl rfl fun a hf => ?_
   replace hf := castI (u := i6 r_7.2.2) hb hf
   exact zD θ he hi hf 21 rfl rfl rfl hc
  ·have hf := (he.h0.mT he 9 rfl).mP he 20 rfl e10
   replace hf := castB hb hf
   refine sp 1 hf rfl fun a hf => ?_
   replace hf := castJ (u := undef) hb hf
   exact zD θ he hi hf 21 rfl rfl rfl hc
 ·intro E θ a w hD hi hp he hc
  have e10 := hp.o 10 rfl
  have e11 := hp.o 11 rfl
  rcases boolEq (((r_1.2 != 0) || (r_3.2 != 0)) || (r_5.2.2 != 0)) with hb | hb
  ·have hf := he.h0.mP he 20 rfl e10
   replace hf := castB hb hf
   replace hf := hf.more he 21 rfl (onP e11)
   replace hf := castCT hb hf
   refine stS hf rfl rfl rfl fun a hf => ?_
   replace hf := castI (u := .bool (r_7.2.2 != 0)) hb hf
   exact zD θ he hi hf 22 rfl rfl rfl hc
  ·have hf := he.h0.mP he 20 rfl e10
   replace hf := castB hb hf
   replace hf := hf.more he 21 rfl (onP e11)
   replace hf := castCF hb hf
   refine sp 1 hf rfl fun a hf => ?_
   replace hf := castJ (u := undef) hb hf
   exact zD θ he hi hf 22 rfl rfl rfl hc
 ·intro E θ a w hD hi hp he hc
  have e10 := hp.o 10 rfl
  have e12 := hp.o 12 rfl
  rcases boolEq (((r_1.2 != 0) || (r_3.2 != 0)) || (r_5.2.2 != 0)) with hb | hb
  ·have hf := he.h0.mP he 20 rfl e10
   replace hf := castB hb hf
   replace hf := hf.more he 22 rfl (onP e12)
   replace hf := castCT hb hf
   refine sp 1 hf rfl fun a hf => ?_
   replace hf := castV (v' := .bool ((((r_1.2 != 0) || (r_3.2 != 0)) || (r_5.2.2 != 0)) || (r_7.2.2 != 0))) (congrArg Value.bool (orT hb)) hf
   exact zD θ he hi hf 23 rfl rfl rfl hc
  ·have hf := he.h0.mP he 20 rfl e10
   replace hf := castB hb hf
   replace hf := hf.more he 22 rfl (onP e12)
   replace hf := castCF hb hf
   refine sp 1 hf rfl fun a hf => ?_
   replace hf := castV (v' := .bool ((((r_1.2 != 0) || (r_3.2 != 0)) || (r_5.2.2 != 0)) || (r_7.2.2 != 0))) (congrArg Value.bool (orF hb)) hf
   exact zD θ he hi hf 23 rfl rfl rfl hc
 ·intro E θ a w hD hi hp he hc
  have e13 := hp.o 13 rfl
  have hf := he.h0.mP he 23 rfl e13
  refine sp 1 hf rfl fun a hf => zD θ he hi hf 24 rfl rfl rfl hc
 ·intro E θ a w hD hi hp he hc
  have e14 := hp.o 14 rfl
  rcases boolEq ((((r_1.2 != 0) || (r_3.2 != 0)) || (r_5.2.2 != 0)) || (r_7.2.2 != 0)) with hb | hb
  ·have hf := (he.h0.mT he 0 rfl).mP he 24 rfl e14
   replace hf := castB hb hf
   refine stS hf rfl rfl rfl fun a hf => ?_
   replace hf := castI (u := .slice p_2 r_1.1.length c_2) hb hf
   exact zD θ he hi hf 25 rfl rfl rfl hc
  ·have hf := (he.h0.mT he 0 rfl).mP he 24 rfl e14
   replace hf := castB hb hf
   refine sp 1 hf rfl fun a hf => ?_
   replace hf := castJ (u := undef) hb hf
   exact zD θ he hi hf 25 rfl rfl rfl hc
 ·intro E θ a w hD hi hp he hc
  have e14 := hp.o 14 rfl
  rcases boolEq ((((r_1.2 != 0) || (r_3.2 != 0)) || (r_5.2.2 != 0)) || (r_7.2.2 != 0)) with hb | hb
  ·have hf := he.h0.mP he 24 rfl e14
   replace hf := castB hb hf
   refine stS hf rfl rfl rfl fun a hf => ?_
   replace hf := castI (u := .agg #[i6 28,i6 30]) hb hf
   exact zD θ he hi hf 26 rfl rfl rfl hc
  ·have hf := he.h0.mP he 24 rfl e14
   replace hf := castB hb hf
   refine zP hf rfl (pBuildS (cells := [i6 28,i6 30]) bt_68 rfl rfl) fun a hf => ?_
   replace hf := castJ (u := undef) hb hf
   exact zD θ he hi hf 26 rfl rfl rfl hc
 ·intro E θ a w hD hi hp he hc
  have e14 := hp.o 14 rfl
  rcases boolEq ((((r_1.2 != 0) || (r_3.2 != 0)) || (r_5.2.2 != 0)) || (r_7.2.2 != 0)) with hb | hb
  ·have hf := he.h0.mP he 24 rfl e14
   replace hf := castB hb hf
   refine stS hf rfl rfl rfl fun a hf => ?_
   replace hf := castI (u := .agg #[i6 38,i6 40]) hb hf
   exact zD θ he hi hf 27 rfl rfl rfl hc
  ·have hf := he.h0.mP he 24 rfl e14
   replace hf := castB hb hf
   refine zP hf rfl (pBuildS (cells := [i6 38,i6 40]) bt_68 rfl rfl) fun a hf => ?_
   replace hf := castJ (u := undef) hb hf
   exact zD θ he hi hf 27 rfl rfl rfl hc
 ·intro E θ a w hD hi hp he hc
  have e14 := hp.o 14 rfl
  rcases boolEq ((((r_1.2 != 0) || (r_3.2 != 0)) || (r_5.2.2 != 0)) || (r_7.2.2 != 0)) with hb | hb
  ·have hf := he.h0.mP he 24 rfl e14
   replace hf := castB hb hf
   refine stS hf rfl rfl rfl fun a hf => ?_
   replace hf := castI (u := .agg #[i6 48,i6 50]) hb hf
   exact zD θ he hi hf 28 rfl rfl rfl hc
  ·have hf := he.h0.mP he 24 rfl e14
   replace hf := castB hb hf
   refine zP hf rfl (pBuildS (cells := [i6 48,i6 50]) bt_68 rfl rfl) fun a hf => ?_
   replace hf := castJ (u := undef) hb hf
   exact zD θ he hi hf 28 rfl rfl rfl hc
 ·intro E θ a w hD hi hp he hc
  have e14 := hp.o 14 rfl
  rcases boolEq ((((r_1.2 != 0) || (r_3.2 != 0)) || (r_5.2.2 != 0)) || (r_7.2.2 != 0)) with hb | hb
  ·have hf := he.h0.mP he 24 rfl e14
   replace hf := castB hb hf
   refine stS hf rfl rfl rfl fun a hf => ?_
   replace hf := castI (u := .agg #[i6 58,i6 60]) hb hf
   exact zD θ he hi hf 29 rfl rfl rfl hc
  ·have hf := he.h0.mP he 24 rfl e14
   replace hf := castB hb hf
   refine zP hf rfl (pBuildS (cells := [i6 58,i6 60]) bt_68 rfl rfl) fun a hf => ?_
   replace hf := castJ (u := undef) hb hf
   exact zD θ he hi hf 29 rfl rfl rfl hc
 ·intro E θ a w hD hi hp he hc
  have e14 := hp.o 14 rfl
  have e16 := hp.o 16 rfl
  have e17 := hp.o 17 rfl
  have e18 := hp.o 18 rfl
  have e19 := hp.o 19 rfl
  try dsimp only at hc
  rw [hi] at hc
  rcases boolEq ((((r_1.2 != 0) || (r_3.2 != 0)) || (r_5.2.2 != 0)) || (r_7.2.2 != 0)) with hb | hb
  ·have hf := he.h0.mP he 24 rfl e14
   replace hf := castB hb hf
   replace hf := hf.more he 26 rfl (onP e16)
   replace hf := castCT hb hf
   replace hf := hf.more he 27 rfl (onP e17)
   replace hf := castCT hb hf
   replace hf := hf.more he 28 rfl (onP e18)
   replace hf := castCT hb hf
   replace hf := hf.more he 29 rfl (onP e19)
   replace hf := castCT hb hf
   refine stS hf rfl rfl rfl fun a hf => ?_
   replace hf := castI (u := .slice (some ⟨(θ 160).b,0,none⟩) 4 4) hb hf
   refine zD θ he hi hf 30 rfl rfl rfl ?_
   try dsimp only
   rw [updE_self E 20]
   rw [gE_F (notF hb)]
   exact hc
  ·have hf := he.h0.mP he 24 rfl e14
   replace hf := castB hb hf
   replace hf := hf.more he 26 rfl (onP e16)
   replace hf := castCF hb hf
   replace hf := hf.more he 27 rfl (onP e17)
   replace hf := castCF hb hf
   replace hf := hf.more he 28 rfl (onP e18)
   replace hf := castCF hb hf
   replace hf := hf.more he 29 rfl (onP e19)
   replace hf := castCF hb hf
   refine stBS (rows := ([(⟨28,30⟩ : api_Span),(⟨38,40⟩ : api_Span),(⟨48,50⟩ : api_Span),(⟨58,60⟩ : api_Span)] : List api_Span).map enc_api_Span) (vs := [(0,.agg #[i6 28,i6 30]),(1,.agg #[i6 38,i6 40]),(2,.agg #[i6 48,i6 50]),(3,.agg #[i6 58,i6 60])]) hf hc rfl rfl sl_60 rfl ⟨rfl,rfl,rfl,rfl,rfl,rfl,rfl,rfl,rfl,rfl,rfl,rfl,trivial⟩ rfl rfl fun b_3 a w hf hc => ?_
   replace hf := castJ (u := undef) hb hf
   refine cNil ?_
   refine xThenN ?_
   intro ds u hau
   replace hc := ((hc.drop k2).pick k0).pick k1
   refine ⟨(setT θ 160 ⟨b_3,none,0,(fun _ => (none,0))⟩),he.put hi hau hf rfl [] trivial ⟨qq,qq,qq,qq,qq,qq,qq,qq,qq,qq,qq,qq,qq,qq,qq,qq,qq,qq,qq,qq,qq,qq,qq,qq,qq,qq,qq,qq,qq,qq,qq,qq,qq,qq,qq,qq,qq,qq,qq,qq,qq,qq,qq,qq,qq,qq,qq,qq,qq,qq,qq,qq,qq,qq,qq,qq,qq,qq,trivial⟩,?_⟩
   try dsimp only
   rw [updE_self E 20]
   rw [gE_T (notT hb)]
   exact hc
 ·intro E θ a w hD hi hp he hc
  have e14 := hp.o 14 rfl
  have e15 := hp.o 15 rfl
  have e20 := hp.o 20 rfl
  try dsimp only at hc
  rw [e20] at hc
  rcases boolEq ((((r_1.2 != 0) || (r_3.2 != 0)) || (r_5.2.2 != 0)) || (r_7.2.2 != 0)) with hb | hb
  ·have hf := he.h0.mP he 24 rfl e14
   replace hf := castB hb hf
   replace hf := hf.more he 25 rfl (onP e15)
   replace hf := castCT hb hf
   replace hf := hf.more he 30 rfl (onP e20)
   replace hf := castCT hb hf
   rw [gE_F (notF hb)] at hc
   refine stS hf rfl rfl rfl fun a hf => ?_
   replace hf := castI (u := .bool r_8) hb hf
   refine zD θ he hi hf 31 rfl rfl rfl ?_
   try dsimp only
   rw [updE_tru 21 e20]
   rw [gE_F (notF hb)]
   exact hc
  ·have hf := he.h0.mP he 24 rfl e14
   replace hf := castB hb hf
   replace hf := hf.more he 25 rfl (onP e15)
   replace hf := castCF hb hf
   replace hf := hf.more he 30 rfl (onP e20)
   replace hf := castCF hb hf
   rw [gE_T (notT hb)] at hc
   refine zQ (v := .bool r_8) hf hc en_26 rfl (fun w hc => by obtain ⟨G1,hle1,hrd1,hc,hth1⟩ := lend hc k9; obtain ⟨G2,hle2,hrd2,hc,hth2⟩ := lend hc k1; exact (kit_Same_api_Span_ok r_1.1 ([(⟨28,30⟩ : api_Span),(⟨38,40⟩ : api_Span),(⟨48,50⟩ : api_Span),(⟨58,60⟩ : api_Span)] : List api_Span) (hrd1.mono hle2) hrd2 hc (condT (notT hb) hr_8)).mono fun e w h => ⟨h.1,((hth1 _ _ ((hth2 _ _ h.2).unpick k1)).unpick k9)⟩) fun a w hf hc => ?_
   replace hf := castJ (u := undef) hb hf
   refine zD θ he hi hf 31 rfl rfl rfl ?_
   try dsimp only
   rw [updE_tru 21 e20]
   rw [gE_T (notT hb)]
   exact hc
 ·intro E θ a w hD hi hp he hc
  have e14 := hp.o 14 rfl
  have e21 := hp.o 21 rfl
  rcases boolEq ((((r_1.2 != 0) || (r_3.2 != 0)) || (r_5.2.2 != 0)) || (r_7.2.2 != 0)) with hb | hb
  ·have hf := he.h0.mP he 24 rfl e14
   replace hf := castB hb hf
   replace hf := hf.more he 31 rfl (onP e21)
   replace hf := castCT hb hf
   refine stS hf rfl rfl rfl fun a hf => ?_
   replace hf := castI (u := .bool (!r_8)) hb hf
   exact zD θ he hi hf 32 rfl rfl rfl hc
  ·have hf := he.h0.mP he 24 rfl e14
   replace hf := castB hb hf
   replace hf := hf.more he 31 rfl (onP e21)
   replace hf := castCF hb hf
   refine sp 1 hf rfl fun a hf => ?_
   replace hf := castJ (u := undef) hb hf
   exact zD θ he hi hf 32 rfl rfl rfl hc
 ·intro E θ a w hD hi hp he hc
  have e14 := hp.o 14 rfl
  have e22 := hp.o 22 rfl
  rcases boolEq ((((r_1.2 != 0) || (r_3.2 != 0)) || (r_5.2.2 != 0)) || (r_7.2.2 != 0)) with hb | hb
  ·have hf := he.h0.mP he 24 rfl e14
   replace hf := castB hb hf
   replace hf := hf.more he 32 rfl (onP e22)
   replace hf := castCT hb hf
   refine sp 1 hf rfl fun a hf => ?_
   replace hf := castV (v' := .bool (((((r_1.2 != 0) || (r_3.2 != 0)) || (r_5.2.2 != 0)) || (r_7.2.2 != 0)) || (!r_8))) (congrArg Value.bool (orT hb)) hf
   exact zD θ he hi hf 33 rfl rfl rfl hc
  ·have hf := he.h0.mP he 24 rfl e14
   replace hf := castB hb hf
   replace hf := hf.more he 32 rfl (onP e22)
   replace hf := castCF hb hf
   refine sp 1 hf rfl fun a hf => ?_
   replace hf := castV (v' := .bool (((((r_1.2 != 0) || (r_3.2 != 0)) || (r_5.2.2 != 0)) || (r_7.2.2 != 0)) || (!r_8))) (congrArg Value.bool (orF hb)) hf
   exact zD θ he hi hf 33 rfl rfl rfl hc
 ·intro E θ a w hD hi hp he hc
  have e23 := hp.o 23 rfl
  have hf := he.h0.mP he 33 rfl e23
  refine sp 1 hf rfl fun a hf => zD θ he hi hf 34 rfl rfl rfl hc
 ·intro E θ a w hD hi hp he hc
  have e24 := hp.o 24 rfl
  rcases boolEq (((((r_1.2 != 0) || (r_3.2 != 0)) || (r_5.2.2 != 0)) || (r_7.2.2 != 0)) || (!r_8)) with hb | hb
  ·have hf := (he.h0.mT he 2 rfl).mP he 34 rfl e24
   replace hf := castB hb hf
   refine stS hf rfl rfl rfl fun a hf => ?_
   replace hf := castI (u := .agg #[i6 r_3.1.Lo,i6 r_3.1.Hi]) hb hf
   exact zD θ he hi hf 35 rfl rfl rfl hc
  ·have hf := (he.h0.mT he 2 rfl).mP he 34 rfl e24
   replace hf := castB hb hf
   refine zN hf hc ag_68 m6 rfl fun a w hf hc => ?_
   replace hf := castJ (u := undef) hb hf
   exact zD θ he hi hf 35 rfl rfl rfl hc
 ·intro E θ a w hD hi hp he hc
  have e24 := hp.o 24 rfl
  rcases boolEq (((((r_1.2 != 0) || (r_3.2 != 0)) || (r_5.2.2 != 0)) || (r_7.2.2 != 0)) || (!r_8)) with hb | hb
  ·have hf := he.h0.mP he 34 rfl e24
   replace hf := castB hb hf
   refine stS hf rfl rfl rfl fun a hf => ?_
   replace hf := castI (u := .agg #[i6 r_9.Lo,i6 r_9.Hi]) hb hf
   exact zD θ he hi hf 36 rfl rfl rfl hc
  ·have hf := he.h0.mP he 34 rfl e24
   replace hf := castB hb hf
   refine zQ (v := .agg #[i6 r_9.Lo,i6 r_9.Hi]) hf hc en_27 rfl (fun w hc => law07_span_ok 86 90 hc (condT (notT hb) hr_9)) fun a w hf hc => ?_
   replace hf := castJ (u := undef) hb hf
   exact zD θ he hi hf 36 rfl rfl rfl hc
 ·intro E θ a w hD hi hp he hc
  have e24 := hp.o 24 rfl
  have e25 := hp.o 25 rfl
  have e26 := hp.o 26 rfl
  rcases boolEq (((((r_1.2 != 0) || (r_3.2 != 0)) || (r_5.2.2 != 0)) || (r_7.2.2 != 0)) || (!r_8)) with hb | hb
  ·have hf := he.h0.mP he 34 rfl e24
   replace hf := castB hb hf
   replace hf := hf.more he 35 rfl (onP e25)
   replace hf := castCT hb hf
   replace hf := hf.more he 36 rfl (onP e26)
   replace hf := castCT hb hf
   refine stS hf rfl rfl rfl fun a hf => ?_
   replace hf := castI (u := .bool (!(r_3.1.Lo == r_9.Lo && r_3.1.Hi == r_9.Hi))) hb hf
   exact zD θ he hi hf 37 rfl rfl rfl hc
  ·have hf := he.h0.mP he 34 rfl e24
   replace hf := castB hb hf
   replace hf := hf.more he 35 rfl (onP e25)
   replace hf := castCF hb hf
   replace hf := hf.more he 36 rfl (onP e26)
   replace hf := castCF hb hf
   refine zP hf rfl (pNeA ge_68 rfl rfl (eqs_68 _ _ _ _)) fun a hf => ?_
   replace hf := castJ (u := undef) hb hf
   exact zD θ he hi hf 37 rfl rfl rfl hc
 ·intro E θ a w hD hi hp he hc
  have e24 := hp.o 24 rfl
  have e27 := hp.o 27 rfl
  rcases boolEq (((((r_1.2 != 0) || (r_3.2 != 0)) || (r_5.2.2 != 0)) || (r_7.2.2 != 0)) || (!r_8)) with hb | hb
  ·have hf := he.h0.mP he 34 rfl e24
   replace hf := castB hb hf
   replace hf := hf.more he 37 rfl (onP e27)
   replace hf := castCT hb hf
   refine sp 1 hf rfl fun a hf => ?_
   replace hf := castV (v' := .bool ((((((r_1.2 != 0) || (r_3.2 != 0)) || (r_5.2.2 != 0)) || (r_7.2.2 != 0)) || (!r_8)) || (!(r_3.1.Lo == r_9.Lo && r_3.1.Hi == r_9.Hi)))) (congrArg Value.bool (orT hb)) hf
   exact zD θ he hi hf 38 rfl rfl rfl hc
  ·have hf := he.h0.mP he 34 rfl e24
   replace hf := castB hb hf
   replace hf := hf.more he 37 rfl (onP e27)
   replace hf := castCF hb hf
   refine sp 1 hf rfl fun a hf => ?_
   replace hf := castV (v' := .bool ((((((r_1.2 != 0) || (r_3.2 != 0)) || (r_5.2.2 != 0)) || (r_7.2.2 != 0)) || (!r_8)) || (!(r_3.1.Lo == r_9.Lo && r_3.1.Hi == r_9.Hi)))) (congrArg Value.bool (orF hb)) hf
   exact zD θ he hi hf 38 rfl rfl rfl hc
 ·intro E θ a w hD hi hp he hc
  have e28 := hp.o 28 rfl
  have hf := he.h0.mP he 38 rfl e28
  refine sp 1 hf rfl fun a hf => zD θ he hi hf 39 rfl rfl rfl hc
 ·intro E θ a w hD hi hp he hc
  have e29 := hp.o 29 rfl
  rcases boolEq ((((((r_1.2 != 0) || (r_3.2 != 0)) || (r_5.2.2 != 0)) || (r_7.2.2 != 0)) || (!r_8)) || (!(r_3.1.Lo == r_9.Lo && r_3.1.Hi == r_9.Hi))) with hb | hb
  ·have hf := (he.h0.mT he 4 rfl).mP he 39 rfl e29
   replace hf := castB hb hf
   refine stS hf rfl rfl rfl fun a hf => ?_
   replace hf := castI (u := .agg #[i6 r_5.1.Lo,i6 r_5.1.Hi]) hb hf
   exact zD θ he hi hf 40 rfl rfl rfl hc
  ·have hf := (he.h0.mT he 4 rfl).mP he 39 rfl e29
   replace hf := castB hb hf
   refine zN hf hc ag_68 m3 rfl fun a w hf hc => ?_
   replace hf := castJ (u := undef) hb hf
   exact zD θ he hi hf 40 rfl rfl rfl hc
 ·intro E θ a w hD hi hp he hc
  have e29 := hp.o 29 rfl
  rcases boolEq ((((((r_1.2 != 0) || (r_3.2 != 0)) || (r_5.2.2 != 0)) || (r_7.2.2 != 0)) || (!r_8)) || (!(r_3.1.Lo == r_9.Lo && r_3.1.Hi == r_9.Hi))) with hb | hb
  ·have hf := he.h0.mP he 39 rfl e29
   replace hf := castB hb hf
   refine stS hf rfl rfl rfl fun a hf => ?_
   replace hf := castI (u := .agg #[i6 r_10.Lo,i6 r_10.Hi]) hb hf
   exact zD θ he hi hf 41 rfl rfl rfl hc
  ·have hf := he.h0.mP he 39 rfl e29
   replace hf := castB hb hf
   refine zQ (v := .agg #[i6 r_10.Lo,i6 r_10.Hi]) hf hc en_27 rfl (fun w hc => law07_span_ok 58 60 hc (condT (notT hb) hr_10)) fun a w hf hc => ?_
   replace hf := castJ (u := undef) hb hf
   exact zD θ he hi hf 41 rfl rfl rfl hc
 ·intro E θ a w hD hi hp he hc
  have e29 := hp.o 29 rfl
  have e30 := hp.o 30 rfl
  have e31 := hp.o 31 rfl
  rcases boolEq ((((((r_1.2 != 0) || (r_3.2 != 0)) || (r_5.2.2 != 0)) || (r_7.2.2 != 0)) || (!r_8)) || (!(r_3.1.Lo == r_9.Lo && r_3.1.Hi == r_9.Hi))) with hb | hb
  ·have hf := he.h0.mP he 39 rfl e29
   replace hf := castB hb hf
   replace hf := hf.more he 40 rfl (onP e30)
   replace hf := castCT hb hf
   replace hf := hf.more he 41 rfl (onP e31)
   replace hf := castCT hb hf
   refine stS hf rfl rfl rfl fun a hf => ?_
   replace hf := castI (u := .bool (!(r_5.1.Lo == r_10.Lo && r_5.1.Hi == r_10.Hi))) hb hf
   exact zD θ he hi hf 42 rfl rfl rfl hc
  ·have hf := he.h0.mP he 39 rfl e29
   replace hf := castB hb hf
   replace hf := hf.more he 40 rfl (onP e30)
   replace hf := castCF hb hf
   replace hf := hf.more he 41 rfl (onP e31)
   replace hf := castCF hb hf
   refine zP hf rfl (pNeA ge_68 rfl rfl (eqs_68 _ _ _ _)) fun a hf => ?_
   replace hf := castJ (u := undef) hb hf
   exact zD θ he hi hf 42 rfl rfl rfl hc
 ·intro E θ a w hD hi hp he hc
  have e29 := hp.o 29 rfl
  have e32 := hp.o 32 rfl
  rcases boolEq ((((((r_1.2 != 0) || (r_3.2 != 0)) || (r_5.2.2 != 0)) || (r_7.2.2 != 0)) || (!r_8)) || (!(r_3.1.Lo == r_9.Lo && r_3.1.Hi == r_9.Hi))) with hb | hb
  ·have hf := he.h0.mP he 39 rfl e29
   replace hf := castB hb hf
   replace hf := hf.more he 42 rfl (onP e32)
   replace hf := castCT hb hf
   refine sp 1 hf rfl fun a hf => ?_
   replace hf := castV (v' := .bool (((((((r_1.2 != 0) || (r_3.2 != 0)) || (r_5.2.2 != 0)) || (r_7.2.2 != 0)) || (!r_8)) || (!(r_3.1.Lo == r_9.Lo && r_3.1.Hi == r_9.Hi))) || (!(r_5.1.Lo == r_10.Lo && r_5.1.Hi == r_10.Hi)))) (congrArg Value.bool (orT hb)) hf
   exact zD θ he hi hf 43 rfl rfl rfl hc
  ·have hf := he.h0.mP he 39 rfl e29
   replace hf := castB hb hf
   replace hf := hf.more he 42 rfl (onP e32)
   replace hf := castCF hb hf
   refine sp 1 hf rfl fun a hf => ?_
   replace hf := castV (v' := .bool (((((((r_1.2 != 0) || (r_3.2 != 0)) || (r_5.2.2 != 0)) || (r_7.2.2 != 0)) || (!r_8)) || (!(r_3.1.Lo == r_9.Lo && r_3.1.Hi == r_9.Hi))) || (!(r_5.1.Lo == r_10.Lo && r_5.1.Hi == r_10.Hi)))) (congrArg Value.bool (orF hb)) hf
   exact zD θ he hi hf 43 rfl rfl rfl hc
 ·intro E θ a w hD hi hp he hc
  have e33 := hp.o 33 rfl
  have hf := he.h0.mP he 43 rfl e33
  refine sp 1 hf rfl fun a hf => zD θ he hi hf 44 rfl rfl rfl hc
 ·intro E θ a w hD hi hp he hc
  have e34 := hp.o 34 rfl
  rcases boolEq (((((((r_1.2 != 0) || (r_3.2 != 0)) || (r_5.2.2 != 0)) || (r_7.2.2 != 0)) || (!r_8)) || (!(r_3.1.Lo == r_9.Lo && r_3.1.Hi == r_9.Hi))) || (!(r_5.1.Lo == r_10.Lo && r_5.1.Hi == r_10.Hi))) with hb | hb
  ·have hf := (he.h0.mT he 5 rfl).mP he 44 rfl e34
   replace hf := castB hb hf
   refine stS hf rfl rfl rfl fun a hf => ?_
   replace hf := castI (u := .slice p_5 r_5.2.1.length c_5) hb hf
   exact zD θ he hi hf 45 rfl rfl rfl hc
  ·have hf := (he.h0.mT he 5 rfl).mP he 44 rfl e34
   replace hf := castB hb hf
   refine sp 1 hf rfl fun a hf => ?_
   replace hf := castJ (u := undef) hb hf
   exact zD θ he hi hf 45 rfl rfl rfl hc
 ·intro E θ a w hD hi hp he hc
  have e34 := hp.o 34 rfl
  try dsimp only at hc
  rw [hi] at hc
  rcases boolEq (((((((r_1.2 != 0) || (r_3.2 != 0)) || (r_5.2.2 != 0)) || (r_7.2.2 != 0)) || (!r_8)) || (!(r_3.1.Lo == r_9.Lo && r_3.1.Hi == r_9.Hi))) || (!(r_5.1.Lo == r_10.Lo && r_5.1.Hi == r_10.Hi))) with hb | hb
  ·have hf := he.h0.mP he 44 rfl e34
   replace hf := castB hb hf
   refine stS hf rfl rfl rfl fun a hf => ?_
   replace hf := castI (u := .slice (some ⟨(θ 288).b,0,none⟩) 1 1) hb hf
   refine zD θ he hi hf 46 rfl rfl rfl ?_
   try dsimp only
   rw [updE_self E 36]
   rw [gE_F (notF hb)]
   exact hc
  ·have hf := he.h0.mP he 44 rfl e34
   replace hf := castB hb hf
   refine stBS (rows := ([3] : List Int).map encI_i64) (vs := [(0,i6 3)]) hf hc rfl rfl sl_27 rfl ⟨rfl,rfl,rfl,trivial⟩ rfl rfl fun b_4 a w hf hc => ?_
   replace hf := castJ (u := undef) hb hf
   refine cNil ?_
   refine xThenN ?_
   intro ds u hau
   replace hc := hc.drop k1
   refine ⟨(setT θ 288 ⟨b_4,none,0,(fun _ => (none,0))⟩),he.put hi hau hf rfl [] trivial ⟨qq,qq,qq,qq,qq,qq,qq,qq,qq,qq,qq,qq,qq,qq,qq,qq,qq,qq,qq,qq,qq,qq,qq,qq,qq,qq,qq,qq,qq,qq,qq,qq,qq,qq,qq,qq,qq,qq,qq,qq,qq,qq,qq,qq,qq,qq,qq,qq,qq,qq,qq,qq,qq,qq,qq,qq,qq,qq,trivial⟩,?_⟩
   try dsimp only
   rw [updE_self E 36]
   rw [gE_T (notT hb)]
   exact hc
 ·intro E θ a w hD hi hp he hc
  have e34 := hp.o 34 rfl
  have e35 := hp.o 35 rfl
  have e36 := hp.o 36 rfl
  try dsimp only at hc
  rw [e36] at hc
  rcases boolEq (((((((r_1.2 != 0) || (r_3.2 != 0)) || (r_5.2.2 != 0)) || (r_7.2.2 != 0)) || (!r_8)) || (!(r_3.1.Lo == r_9.Lo && r_3.1.Hi == r_9.Hi))) || (!(r_5.1.Lo == r_10.Lo && r_5.1.Hi == r_10.Hi))) with hb | hb
  ·have hf := he.h0.mP he 44 rfl e34
   replace hf := castB hb hf
   replace hf := hf.more he 45 rfl (onP e35)
   replace hf := castCT hb hf
   replace hf := hf.more he 46 rfl (onP e36)
   replace hf := castCT hb hf
   rw [gE_F (notF hb)] at hc
   refine stS hf rfl rfl rfl fun a hf => ?_
   replace hf := castI (u := .bool r_11) hb hf
   refine zD θ he hi hf 47 rfl rfl rfl ?_
   try dsimp only
   rw [updE_tru 37 e36]
   rw [gE_F (notF hb)]
   exact hc
  ·have hf := he.h0.mP he 44 rfl e34
   replace hf := castB hb hf
   replace hf := hf.more he 45 rfl (onP e35)
   replace hf := castCF hb hf
   replace hf := hf.more he 46 rfl (onP e36)
   replace hf := castCF hb hf
   rw [gE_T (notT hb)] at hc
   refine zQ (v := .bool r_11) hf hc en_10 rfl (fun w hc => by obtain ⟨G1,hle1,hrd1,hc,hth1⟩ := lend hc k5; obtain ⟨G2,hle2,hrd2,hc,hth2⟩ := lend hc k0; exact (kit_Same_int_ok r_5.2.1 ([3] : List Int) (hrd1.mono hle2) hrd2 hc (condT (notT hb) hr_11)).mono fun e w h => ⟨h.1,((hth1 _ _ ((hth2 _ _ h.2).unpick k0)).unpick k5)⟩) fun a w hf hc => ?_
   replace hf := castJ (u := undef) hb hf
   refine zD θ he hi hf 47 rfl rfl rfl ?_
   try dsimp only
   rw [updE_tru 37 e36]
   rw [gE_T (notT hb)]
   exact hc
 ·intro E θ a w hD hi hp he hc
  have e34 := hp.o 34 rfl
  have e37 := hp.o 37 rfl
  rcases boolEq (((((((r_1.2 != 0) || (r_3.2 != 0)) || (r_5.2.2 != 0)) || (r_7.2.2 != 0)) || (!r_8)) || (!(r_3.1.Lo == r_9.Lo && r_3.1.Hi == r_9.Hi))) || (!(r_5.1.Lo == r_10.Lo && r_5.1.Hi == r_10.Hi))) with hb | hb
  ·have hf := he.h0.mP he 44 rfl e34
   replace hf := castB hb hf
   replace hf := hf.more he 47 rfl (onP e37)
   replace hf := castCT hb hf
   refine stS hf rfl rfl rfl fun a hf => ?_
   replace hf := castI (u := .bool (!r_11)) hb hf
   exact zD θ he hi hf 48 rfl rfl rfl hc
  ·have hf := he.h0.mP he 44 rfl e34
   replace hf := castB hb hf
   replace hf := hf.more he 47 rfl (onP e37)
   replace hf := castCF hb hf
   refine sp 1 hf rfl fun a hf => ?_
   replace hf := castJ (u := undef) hb hf
   exact zD θ he hi hf 48 rfl rfl rfl hc
 ·intro E θ a w hD hi hp he hc
  have e34 := hp.o 34 rfl
  have e38 := hp.o 38 rfl
  rcases boolEq (((((((r_1.2 != 0) || (r_3.2 != 0)) || (r_5.2.2 != 0)) || (r_7.2.2 != 0)) || (!r_8)) || (!(r_3.1.Lo == r_9.Lo && r_3.1.Hi == r_9.Hi))) || (!(r_5.1.Lo == r_10.Lo && r_5.1.Hi == r_10.Hi))) with hb | hb
  ·have hf := he.h0.mP he 44 rfl e34
   replace hf := castB hb hf
   replace hf := hf.more he 48 rfl (onP e38)
   replace hf := castCT hb hf
   refine sp 1 hf rfl fun a hf => ?_
   replace hf := castV (v' := .bool ((((((((r_1.2 != 0) || (r_3.2 != 0)) || (r_5.2.2 != 0)) || (r_7.2.2 != 0)) || (!r_8)) || (!(r_3.1.Lo == r_9.Lo && r_3.1.Hi == r_9.Hi))) || (!(r_5.1.Lo == r_10.Lo && r_5.1.Hi == r_10.Hi))) || (!r_11))) (congrArg Value.bool (orT hb)) hf
   exact zD θ he hi hf 49 rfl rfl rfl hc
  ·have hf := he.h0.mP he 44 rfl e34
   replace hf := castB hb hf
   replace hf := hf.more he 48 rfl (onP e38)
   replace hf := castCF hb hf
   refine sp 1 hf rfl fun a hf => ?_
   replace hf := castV (v' := .bool ((((((((r_1.2 != 0) || (r_3.2 != 0)) || (r_5.2.2 != 0)) || (r_7.2.2 != 0)) || (!r_8)) || (!(r_3.1.Lo == r_9.Lo && r_3.1.Hi == r_9.Hi))) || (!(r_5.1.Lo == r_10.Lo && r_5.1.Hi == r_10.Hi))) || (!r_11))) (congrArg Value.bool (orF hb)) hf
   exact zD θ he hi hf 49 rfl rfl rfl hc
 ·intro E θ a w hD hi hp he hc
  have e39 := hp.o 39 rfl
  have hf := he.h0.mP he 49 rfl e39
  refine sp 1 hf rfl fun a hf => zD θ he hi hf 50 rfl rfl rfl hc
 ·intro E θ a w hD hi hp he hc
  have e40 := hp.o 40 rfl
  rcases boolEq ((((((((r_1.2 != 0) || (r_3.2 != 0)) || (r_5.2.2 != 0)) || (r_7.2.2 != 0)) || (!r_8)) || (!(r_3.1.Lo == r_9.Lo && r_3.1.Hi == r_9.Hi))) || (!(r_5.1.Lo == r_10.Lo && r_5.1.Hi == r_10.Hi))) || (!r_11)) with hb | hb
  ·have hf := (he.h0.mT he 7 rfl).mP he 50 rfl e40
   replace hf := castB hb hf
   refine stS hf rfl rfl rfl fun a hf => ?_
   replace hf := castI (u := i6 r_7.1) hb hf
   exact zD θ he hi hf 51 rfl rfl rfl hc
  ·have hf := (he.h0.mT he 7 rfl).mP he 50 rfl e40
   replace hf := castB hb hf
   refine sp 1 hf rfl fun a hf => ?_
   replace hf := castJ (u := undef) hb hf
   exact zD θ he hi hf 51 rfl rfl rfl hc
 ·intro E θ a w hD hi hp he hc
  have e40 := hp.o 40 rfl
  have e41 := hp.o 41 rfl
  rcases boolEq ((((((((r_1.2 != 0) || (r_3.2 != 0)) || (r_5.2.2 != 0)) || (r_7.2.2 != 0)) || (!r_8)) || (!(r_3.1.Lo == r_9.Lo && r_3.1.Hi == r_9.Hi))) || (!(r_5.1.Lo == r_10.Lo && r_5.1.Hi == r_10.Hi))) || (!r_11)) with hb | hb
  ·have hf := he.h0.mP he 50 rfl e40
   replace hf := castB hb hf
   replace hf := hf.more he 51 rfl (onP e41)
   replace hf := castCT hb hf
   refine stS hf rfl rfl rfl fun a hf => ?_
   replace hf := castI (u := .bool (r_7.1 != 0)) hb hf
   exact zD θ he hi hf 52 rfl rfl rfl hc
  ·have hf := he.h0.mP he 50 rfl e40
   replace hf := castB hb hf
   replace hf := hf.more he 51 rfl (onP e41)
   replace hf := castCF hb hf
   refine sp 1 hf rfl fun a hf => ?_
   replace hf := castJ (u := undef) hb hf
   exact zD θ he hi hf 52 rfl rfl rfl hc
 ·intro E θ a w hD hi hp he hc
  have e40 := hp.o 40 rfl
  have e42 := hp.o 42 rfl
  rcases boolEq ((((((((r_1.2 != 0) || (r_3.2 != 0)) || (r_5.2.2 != 0)) || (r_7.2.2 != 0)) || (!r_8)) || (!(r_3.1.Lo == r_9.Lo && r_3.1.Hi == r_9.Hi))) || (!(r_5.1.Lo == r_10.Lo && r_5.1.Hi == r_10.Hi))) || (!r_11)) with hb | hb
  ·have hf := he.h0.mP he 50 rfl e40
   replace hf := castB hb hf
   replace hf := hf.more he 52 rfl (onP e42)
   replace hf := castCT hb hf
   refine sp 1 hf rfl fun a hf => ?_
   replace hf := castV (v' := .bool (((((((((r_1.2 != 0) || (r_3.2 != 0)) || (r_5.2.2 != 0)) || (r_7.2.2 != 0)) || (!r_8)) || (!(r_3.1.Lo == r_9.Lo && r_3.1.Hi == r_9.Hi))) || (!(r_5.1.Lo == r_10.Lo && r_5.1.Hi == r_10.Hi))) || (!r_11)) || (r_7.1 != 0))) (congrArg Value.bool (orT hb)) hf
   exact zD θ he hi hf 53 rfl rfl rfl hc
  ·have hf := he.h0.mP he 50 rfl e40
   replace hf := castB hb hf
   replace hf := hf.more he 52 rfl (onP e42)
   replace hf := castCF hb hf
   refine sp 1 hf rfl fun a hf => ?_
   replace hf := castV (v' := .bool (((((((((r_1.2 != 0) || (r_3.2 != 0)) || (r_5.2.2 != 0)) || (r_7.2.2 != 0)) || (!r_8)) || (!(r_3.1.Lo == r_9.Lo && r_3.1.Hi == r_9.Hi))) || (!(r_5.1.Lo == r_10.Lo && r_5.1.Hi == r_10.Hi))) || (!r_11)) || (r_7.1 != 0))) (congrArg Value.bool (orF hb)) hf
   exact zD θ he hi hf 53 rfl rfl rfl hc
 ·intro E θ a w hD hi hp he hc
  have e43 := hp.o 43 rfl
  have hf := he.h0.mP he 53 rfl e43
  refine sp 1 hf rfl fun a hf => zD θ he hi hf 54 rfl rfl rfl hc
 ·intro E θ a w hD hi hp he hc
  have e44 := hp.o 44 rfl
  rcases boolEq (((((((((r_1.2 != 0) || (r_3.2 != 0)) || (r_5.2.2 != 0)) || (r_7.2.2 != 0)) || (!r_8)) || (!(r_3.1.Lo == r_9.Lo && r_3.1.Hi == r_9.Hi))) || (!(r_5.1.Lo == r_10.Lo && r_5.1.Hi == r_10.Hi))) || (!r_11)) || (r_7.1 != 0)) with hb | hb
  ·have hf := (he.h0.mT he 8 rfl).mP he 54 rfl e44
   replace hf := castB hb hf
   refine stS hf rfl rfl rfl fun a hf => ?_
   replace hf := castI (u := i6 r_7.2.1) hb hf
   exact zD θ he hi hf 55 rfl rfl rfl hc
  ·have hf := (he.h0.mT he 8 rfl).mP he 54 rfl e44
   replace hf := castB hb hf
   refine sp 1 hf rfl fun a hf => ?_
   replace hf := castJ (u := undef) hb hf
   exact zD θ he hi hf 55 rfl rfl rfl hc
 ·intro E θ a w hD hi hp he hc
  have e44 := hp.o 44 rfl
  have e45 := hp.o 45 rfl
  rcases boolEq (((((((((r_1.2 != 0) || (r_3.2 != 0)) || (r_5.2.2 != 0)) || (r_7.2.2 != 0)) || (!r_8)) || (!(r_3.1.Lo == r_9.Lo && r_3.1.Hi == r_9.Hi))) || (!(r_5.1.Lo == r_10.Lo && r_5.1.Hi == r_10.Hi))) || (!r_11)) || (r_7.1 != 0)) with hb | hb
  ·have hf := he.h0.mP he 54 rfl e44
   replace hf := castB hb hf
   replace hf := hf.more he 55 rfl (onP e45)
   replace hf := castCT hb hf
   refine stS hf rfl rfl rfl fun a hf => ?_
   replace hf := castI (u := .bool (r_7.2.1 != 3)) hb hf
   exact zD θ he hi hf 56 rfl rfl rfl hc
  ·have hf := he.h0.mP he 54 rfl e44
   replace hf := castB hb hf
   replace hf := hf.more he 55 rfl (onP e45)
   replace hf := castCF hb hf
   refine sp 1 hf rfl fun a hf => ?_
   replace hf := castJ (u := undef) hb hf
   exact zD θ he hi hf 56 rfl rfl rfl hc
 ·intro E θ a w hD hi hp he hc
  have e44 := hp.o 44 rfl
  have e46 := hp.o 46 rfl
  rcases boolEq (((((((((r_1.2 != 0) || (r_3.2 != 0)) || (r_5.2.2 != 0)) || (r_7.2.2 != 0)) || (!r_8)) || (!(r_3.1.Lo == r_9.Lo && r_3.1.Hi == r_9.Hi))) || (!(r_5.1.Lo == r_10.Lo && r_5.1.Hi == r_10.Hi))) || (!r_11)) || (r_7.1 != 0)) with hb | hb
  ·have hf := he.h0.mP he 54 rfl e44
   replace hf := castB hb hf
   replace hf := hf.more he 56 rfl (onP e46)
   replace hf := castCT hb hf
   refine sp 1 hf rfl fun a hf => ?_
   replace hf := castV (v' := .bool ((((((((((r_1.2 != 0) || (r_3.2 != 0)) || (r_5.2.2 != 0)) || (r_7.2.2 != 0)) || (!r_8)) || (!(r_3.1.Lo == r_9.Lo && r_3.1.Hi == r_9.Hi))) || (!(r_5.1.Lo == r_10.Lo && r_5.1.Hi == r_10.Hi))) || (!r_11)) || (r_7.1 != 0)) || (r_7.2.1 != 3))) (congrArg Value.bool (orT hb)) hf
   exact zD θ he hi hf 57 rfl rfl rfl hc
  ·have hf := he.h0.mP he 54 rfl e44
   replace hf := castB hb hf
   replace hf := hf.more he 56 rfl (onP e46)
   replace hf := castCF hb hf
   refine sp 1 hf rfl fun a hf => ?_
   replace hf := castV (v' := .bool ((((((((((r_1.2 != 0) || (r_3.2 != 0)) || (r_5.2.2 != 0)) || (r_7.2.2 != 0)) || (!r_8)) || (!(r_3.1.Lo == r_9.Lo && r_3.1.Hi == r_9.Hi))) || (!(r_5.1.Lo == r_10.Lo && r_5.1.Hi == r_10.Hi))) || (!r_11)) || (r_7.1 != 0)) || (r_7.2.1 != 3))) (congrArg Value.bool (orF hb)) hf
   exact zD θ he hi hf 57 rfl rfl rfl hc
 ·intro E θ a w hall he hc
  have hf := he.h0
  have e20 := hall 20 rfl
  have e36 := hall 36 rfl
  have e47 := hall 47 rfl
  replace hf := hf.more he 57 rfl (onP e47)
  try dsimp only at hc
  rw [e20,e36] at hc
  replace hc := (hc.drop k1).drop k0
  exact ⟨hf.kp rfl,hc⟩
 rintro a w ⟨hf,hc⟩
 refine h7 _ _ ?_
 refine zI hf rfl hF ?_ ?_ <;> clear hF <;> intro hF
 ·refine zS fun K h => sp 1 hf rfl fun a hf => zT h ?_
  refine wp_ret ?_
  refine xThenR ?_
  obtain rfl := sj hF
  replace hc := (((((((hc.drop k7).drop k6).drop k5).drop k4).drop k3).drop k2).drop k1).drop k0
  exact zO1 Try.results12 hf rfl ⟨rfl,hc⟩
 ·refine wp_skip ?_
  refine h6 _ _ ?_
  refine wp_seq_k fun K9 h9 => cReg ?_
  obtain ⟨r_12,hr_12,hF⟩ := bnd_some hF
  refine zC hf en_22 rfl (law07_Four_ok 58 hc hr_12) ?_
  rintro _ w ⟨p_7,c_7,rfl,hc⟩
  refine ⟨_,rfl,fun a hf => ?_⟩
  refine zP hf rfl (pBuildS (cells := [i6 20,i6 35]) bt_68 rfl rfl) fun a hf => zP hf rfl (pBuildS (cells := [i6 30,i6 40]) bt_68 rfl rfl) fun a hf => zP hf rfl (pBuildS (cells := [i6 49,i6 60]) bt_68 rfl rfl) fun a hf => zP hf rfl (pBuildS (cells := [i6 50,i6 60]) bt_68 rfl rfl) fun a hf => stBS (rows := ([(⟨20,35⟩ : api_Span),(⟨30,40⟩ : api_Span),(⟨49,60⟩ : api_Span),(⟨50,60⟩ : api_Span)] : List api_Span).map enc_api_Span) (vs := [(0,.agg #[i6 20,i6 35]),(1,.agg #[i6 30,i6 40]),(2,.agg #[i6 49,i6 60]),(3,.agg #[i6 50,i6 60])]) hf hc rfl rfl sl_60 rfl ⟨rfl,rfl,rfl,rfl,rfl,rfl,rfl,rfl,rfl,rfl,rfl,rfl,trivial⟩ rfl rfl fun b_5 a w hf hc => ?_
  obtain ⟨r_13,hr_13,hF⟩ := bnd_some hF
  obtain ⟨G1,hle1,hrd1,hc,hth1⟩ := lend hc k1
  obtain ⟨G2,hle2,hrd2,hc,hth2⟩ := lend hc k0
  refine zC hf en_28 rfl (daily_Again_ok r_12 ([(⟨20,35⟩ : api_Span),(⟨30,40⟩ : api_Span),(⟨49,60⟩ : api_Span),(⟨50,60⟩ : api_Span)] : List api_Span) (hrd1.mono hle2) hrd2 hc hr_13) ?_
  rintro _ w ⟨p_8,c_8,rfl,hc⟩
  refine ⟨_,rfl,fun a hf => ?_⟩
  replace hc := hth2 _ _ hc
  replace hc := hth1 _ _ hc
  refine sp 5 hf rfl fun a hf => cNil ?_
  replace hc := (((((((((hc.drop k10).drop k9).drop k8).drop k7).drop k6).drop k5).drop k4).drop k3).drop k1).drop k0
  refine h9 _ _ ?_
  refine zS fun K h => stBS (rows := ([10,14,12,20] : List Int).map encI_i64) (vs := [(0,i6 10),(1,i6 14),(2,i6 12),(3,i6 20)]) hf hc rfl rfl sl_27 rfl ⟨rfl,rfl,rfl,rfl,rfl,rfl,rfl,rfl,rfl,rfl,rfl,rfl,trivial⟩ rfl rfl fun b_6 a w hf hc => ?_
  obtain ⟨r_14,hr_14,hF⟩ := bnd_some hF
  obtain ⟨G1,hle1,hrd1,hc,hth1⟩ := lend hc k0
  refine zC hf en_29 rfl (law07_Counter_ok ([10,14,12,20] : List Int) hrd1 hc hr_14) ?_
  rintro _ w ⟨p_9,c_9,rfl,hc⟩
  refine ⟨_,rfl,fun a hf => ?_⟩
  replace hc := hth1 _ _ hc
  obtain ⟨r_15,hr_15,hF⟩ := bnd_some hF
  obtain ⟨G1,hle1,hrd1,hc,hth1⟩ := lend hc k1
  refine zC hf en_6 rfl (daily_Correct_ok r_14 hrd1 hc hr_15) ?_
  rintro _ w ⟨p_10,c_10,rfl,hc⟩
  refine ⟨_,rfl,fun a hf => ?_⟩
  replace hc := hth1 _ _ hc
  refine sp 7 hf rfl fun a hf => zT h ?_
  refine zS fun K h => stBS (rows := ([9,5,7,3] : List Int).map encI_i64) (vs := [(0,i6 9),(1,i6 5),(2,i6 7),(3,i6 3)]) hf hc rfl rfl sl_27 rfl ⟨rfl,rfl,rfl,rfl,rfl,rfl,rfl,rfl,rfl,rfl,rfl,rfl,trivial⟩ rfl rfl fun b_7 a w hf hc => ?_
  obtain ⟨r_16,hr_16,hF⟩ := bnd_some hF
  obtain ⟨G1,hle1,hrd1,hc,hth1⟩ := lend hc k0
  refine zC hf en_29 rfl (law07_Counter_ok ([9,5,7,3] : List Int) hrd1 hc hr_16) ?_
  rintro _ w ⟨p_11,c_11,rfl,hc⟩
  refine ⟨_,rfl,fun a hf => ?_⟩
  replace hc := hth1 _ _ hc
  refine zP hf rfl (pBuildS (cells := [i6 0,i6 1,i6 1]) bt_58 rfl rfl) fun a hf => zP hf rfl (pBuildS (cells := [i6 2,i6 3,i6 1]) bt_58 rfl rfl) fun a hf => stBS (rows := ([(⟨0,1,1⟩ : daily_Fall),(⟨2,3,1⟩ : daily_Fall)] : List daily_Fall).map enc_daily_Fall) (vs := [(0,.agg #[i6 0,i6 1,i6 1]),(1,.agg #[i6 2,i6 3,i6 1])]) hf hc rfl rfl sl_34 rfl ⟨rfl,rfl,rfl,rfl,rfl,rfl,trivial⟩ rfl rfl fun b_8 a w hf hc => ?_
  obtain ⟨r_17,hr_17,hF⟩ := bnd_some hF
  refine zQ (v := .tuple #[i6 r_17.1,i6 r_17.2]) hf hc en_9 rfl (fun w hc => by obtain ⟨G1,hle1,hrd1,hc,hth1⟩ := lend hc k2; obtain ⟨G2,hle2,hrd2,hc,hth2⟩ := lend hc k0; exact (daily_Proves_ok r_16 ([(⟨0,1,1⟩ : daily_Fall),(⟨2,3,1⟩ : daily_Fall)] : List daily_Fall) (hrd1.mono hle2) hrd2 hc hr_17).mono fun e w h => ⟨h.1,((hth1 _ _ ((hth2 _ _ h.2).unpick k0)).unpick k2)⟩) fun a w hf hc => sp 5 hf rfl fun a hf => zT h ?_
  refine zS fun K h => sp 3 hf rfl fun a hf => stCc 3 (fun a => Has 139 a [(11,.slice p_8 r_13.1.length c_8),(2,i6 r_13.2),(12,.slice p_10 r_15.1.length c_10),(13,i6 r_15.2.1),(4,i6 r_15.2.2),(14,i6 r_17.1),(7,i6 r_17.2),(111,i6 r_13.2),(112,.bool (r_13.2 == 0)),(113,.bool (r_13.2 == 0)),(116,.bool ((r_13.2 == 0) && (r_15.2.2 == 0)))]) hc ?_ ?_
  ·cases hb : (r_13.2 == 0)
   ·rw [hb] at hf
    refine stS hf rfl rfl rfl fun a hf => stS hf rfl rfl rfl fun a hf => sp 1 hf rfl fun a hf => cNil ⟨hf.kp rfl,hc⟩
   ·rw [hb] at hf
    refine sp 3 hf rfl fun a hf => cNil ⟨hf.kp rfl,hc⟩
  intro a w ⟨hf,hc⟩
  refine sp 1 hf rfl fun a hf => stCc 3 (fun a => Has 139 a [(11,.slice p_8 r_13.1.length c_8),(2,i6 r_13.2),(12,.slice p_10 r_15.1.length c_10),(13,i6 r_15.2.1),(4,i6 r_15.2.2),(14,i6 r_17.1),(7,i6 r_17.2),(111,i6 r_13.2),(112,.bool (r_13.2 == 0)),(113,.bool (r_13.2 == 0)),(116,.bool ((r_13.2 == 0) && (r_15.2.2 == 0))),(117,.bool ((r_13.2 == 0) && (r_15.2.2 == 0))),(120,.bool (((r_13.2 == 0) && (r_15.2.2 == 0)) && (r_17.2 == 0)))]) hc ?_ ?_
  ·cases hb : ((r_13.2 == 0) && (r_15.2.2 == 0))
   ·rw [hb] at hf
    refine stS hf rfl rfl rfl fun a hf => stS hf rfl rfl rfl fun a hf => sp 1 hf rfl fun a hf => cNil ⟨hf.kp rfl,hc⟩
   ·rw [hb] at hf
    refine sp 3 hf rfl fun a hf => cNil ⟨hf.kp rfl,hc⟩
  intro a w ⟨hf,hc⟩
  refine sp 1 hf rfl fun a hf => ?_
  obtain ⟨t_1,ht_1,hF⟩ := bnd_some hF
  refine stCc 4 (fun a => Has 139 a [(11,.slice p_8 r_13.1.length c_8),(2,i6 r_13.2),(12,.slice p_10 r_15.1.length c_10),(13,i6 r_15.2.1),(4,i6 r_15.2.2),(14,i6 r_17.1),(7,i6 r_17.2),(111,i6 r_13.2),(112,.bool (r_13.2 == 0)),(113,.bool (r_13.2 == 0)),(116,.bool ((r_13.2 == 0) && (r_15.2.2 == 0))),(117,.bool ((r_13.2 == 0) && (r_15.2.2 == 0))),(120,.bool (((r_13.2 == 0) && (r_15.2.2 == 0)) && (r_17.2 == 0))),(121,.bool (((r_13.2 == 0) && (r_15.2.2 == 0)) && (r_17.2 == 0))),(125,.bool t_1)]) hc ?_ ?_
  ·cases hb : (((r_13.2 == 0) && (r_15.2.2 == 0)) && (r_17.2 == 0))
   ·rw [hb] at hf
    have hF := condF hb ht_1
    obtain rfl := sj hF
    refine stS hf rfl rfl rfl fun a hf => stS hf rfl rfl rfl fun a hf => stS hf rfl rfl rfl fun a hf => sp 1 hf rfl fun a hf => cNil ⟨hf.kp rfl,hc⟩
   ·rw [hb] at hf
    have hF := condT hb ht_1
    refine sp 1 hf rfl fun a hf => stBS (rows := ([2] : List Int).map encI_i64) (vs := [(0,i6 2)]) hf hc rfl rfl sl_27 rfl ⟨rfl,rfl,rfl,trivial⟩ rfl rfl fun b_9 a w hf hc => ?_
    obtain ⟨r_18,hr_18,hF⟩ := bnd_some hF
    refine zQ (v := .bool r_18) hf hc en_10 rfl (fun w hc => by obtain ⟨G1,hle1,hrd1,hc,hth1⟩ := lend hc k7; obtain ⟨G2,hle2,hrd2,hc,hth2⟩ := lend hc k0; exact (kit_Same_int_ok r_13.1 ([2] : List Int) (hrd1.mono hle2) hrd2 hc hr_18).mono fun e w h => ⟨h.1,((hth1 _ _ ((hth2 _ _ h.2).unpick k0)).unpick k7)⟩) fun a w hf hc => sp 1 hf rfl fun a hf => ?_
    replace hc := hc.drop k0
    obtain rfl := sj hF
    exact cNil ⟨hf.kp rfl,hc⟩
  intro a w ⟨hf,hc⟩
  refine sp 1 hf rfl fun a hf => ?_
  obtain ⟨t_2,ht_2,hF⟩ := bnd_some hF
  refine stCc 4 (fun a => Has 139 a [(11,.slice p_8 r_13.1.length c_8),(2,i6 r_13.2),(12,.slice p_10 r_15.1.length c_10),(13,i6 r_15.2.1),(4,i6 r_15.2.2),(14,i6 r_17.1),(7,i6 r_17.2),(111,i6 r_13.2),(112,.bool (r_13.2 == 0)),(113,.bool (r_13.2 == 0)),(116,.bool ((r_13.2 == 0) && (r_15.2.2 == 0))),(117,.bool ((r_13.2 == 0) && (r_15.2.2 == 0))),(120,.bool (((r_13.2 == 0) && (r_15.2.2 == 0)) && (r_17.2 == 0))),(121,.bool (((r_13.2 == 0) && (r_15.2.2 == 0)) && (r_17.2 == 0))),(125,.bool t_1),(126,.bool t_1),(130,.bool t_2)]) hc ?_ ?_
  ·cases hb : t_1
   ·rw [hb] at hf
    try rw [hb] at hc
    have hF := condF hb ht_2
    obtain rfl := sj hF
    refine stS hf rfl rfl rfl fun a hf => stS hf rfl rfl rfl fun a hf => stS hf rfl rfl rfl fun a hf => sp 1 hf rfl fun a hf => cNil ⟨hf.kp rfl,hc⟩
   ·rw [hb] at hf
    try rw [hb] at hc
    have hF := condT hb ht_2
    refine sp 1 hf rfl fun a hf => stBS (rows := ([10,12,12,20] : List Int).map encI_i64) (vs := [(0,i6 10),(1,i6 12),(2,i6 12),(3,i6 20)]) hf hc rfl rfl sl_27 rfl ⟨rfl,rfl,rfl,rfl,rfl,rfl,rfl,rfl,rfl,rfl,rfl,rfl,trivial⟩ rfl rfl fun b_10 a w hf hc => ?_
    obtain ⟨r_19,hr_19,hF⟩ := bnd_some hF
    refine zQ (v := .bool r_19) hf hc en_10 rfl (fun w hc => by obtain ⟨G1,hle1,hrd1,hc,hth1⟩ := lend hc k5; obtain ⟨G2,hle2,hrd2,hc,hth2⟩ := lend hc k0; exact (kit_Same_int_ok r_15.1 ([10,12,12,20] : List Int) (hrd1.mono hle2) hrd2 hc hr_19).mono fun e w h => ⟨h.1,((hth1 _ _ ((hth2 _ _ h.2).unpick k0)).unpick k5)⟩) fun a w hf hc => sp 1 hf rfl fun a hf => ?_
    replace hc := hc.drop k0
    obtain rfl := sj hF
    exact cNil ⟨hf.kp rfl,hc⟩
  intro a w ⟨hf,hc⟩
  refine sp 1 hf rfl fun a hf => stCc 3 (fun a => Has 139 a [(11,.slice p_8 r_13.1.length c_8),(2,i6 r_13.2),(12,.slice p_10 r_15.1.length c_10),(13,i6 r_15.2.1),(4,i6 r_15.2.2),(14,i6 r_17.1),(7,i6 r_17.2),(111,i6 r_13.2),(112,.bool (r_13.2 == 0)),(113,.bool (r_13.2 == 0)),(116,.bool ((r_13.2 == 0) && (r_15.2.2 == 0))),(117,.bool ((r_13.2 == 0) && (r_15.2.2 == 0))),(120,.bool (((r_13.2 == 0) && (r_15.2.2 == 0)) && (r_17.2 == 0))),(121,.bool (((r_13.2 == 0) && (r_15.2.2 == 0)) && (r_17.2 == 0))),(125,.bool t_1),(126,.bool t_1),(130,.bool t_2),(131,.bool t_2),(134,.bool (t_2 && (r_15.2.1 == 2)))]) hc ?_ ?_
  ·cases hb : t_2
   ·rw [hb] at hf
    try rw [hb] at hc
    refine stS hf rfl rfl rfl fun a hf => stS hf rfl rfl rfl fun a hf => sp 1 hf rfl fun a hf => cNil ⟨hf.kp rfl,hc⟩
   ·rw [hb] at hf
    try rw [hb] at hc
    refine sp 3 hf rfl fun a hf => cNil ⟨hf.kp rfl,hc⟩
  intro a w ⟨hf,hc⟩
  refine sp 1 hf rfl fun a hf => stCc 3 (fun a => Has 139 a [(11,.slice p_8 r_13.1.length c_8),(2,i6 r_13.2),(12,.slice p_10 r_15.1.length c_10),(13,i6 r_15.2.1),(4,i6 r_15.2.2),(14,i6 r_17.1),(7,i6 r_17.2),(111,i6 r_13.2),(112,.bool (r_13.2 == 0)),(113,.bool (r_13.2 == 0)),(116,.bool ((r_13.2 == 0) && (r_15.2.2 == 0))),(117,.bool ((r_13.2 == 0) && (r_15.2.2 == 0))),(120,.bool (((r_13.2 == 0) && (r_15.2.2 == 0)) && (r_17.2 == 0))),(121,.bool (((r_13.2 == 0) && (r_15.2.2 == 0)) && (r_17.2 == 0))),(125,.bool t_1),(126,.bool t_1),(130,.bool t_2),(131,.bool t_2),(134,.bool (t_2 && (r_15.2.1 == 2))),(135,.bool (t_2 && (r_15.2.1 == 2))),(138,.bool ((t_2 && (r_15.2.1 == 2)) && (r_17.1 == 8)))]) hc ?_ ?_
  ·cases hb : (t_2 && (r_15.2.1 == 2))
   ·rw [hb] at hf
    refine stS hf rfl rfl rfl fun a hf => stS hf rfl rfl rfl fun a hf => sp 1 hf rfl fun a hf => cNil ⟨hf.kp rfl,hc⟩
   ·rw [hb] at hf
    refine sp 3 hf rfl fun a hf => cNil ⟨hf.kp rfl,hc⟩
  intro a w ⟨hf,hc⟩
  refine sp 1 hf rfl fun a hf => zT h ?_
  refine wp_ret ?_
  obtain rfl := sj hF
  replace hc := ((((((hc.drop k6).drop k5).drop k4).drop k3).drop k2).drop k1).drop k0
  exact zO1 Try.results12 hf rfl ⟨rfl,hc⟩

end Go.Nilo
