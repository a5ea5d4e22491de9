/-
 What functions of the Go text compute, as plain functions, and that they do, part 3 of 3. Conditions: what each theorem names.
-/
import Derived.Test.YtakhbnnlhoninadSs2
import Derived.Test.YtakhbnnlhoninadProg
set_option linter.unusedVariables false
set_option linter.unusedSimpArgs false
set_option maxRecDepth 100000
set_option maxHeartbeats 4000000
namespace Go.Nilo
open Go.Proofs


def shift_can_j19 (N : Nat) (xv_1 : Int) (x_4 : Int) : Option (Rs (Int × Int)) :=
 some (.go (x_4,xv_1))
def shift_can_r15 (N : Nat) (most : Int) (r : (List (Nat → Int))) (r_1 : (List (Nat → Int))) (x : Int) (x_1 : Int) (x_2 : Int) (xv : Int) (xv_1 : Int) : Option (Rs (Int × Int)) :=
 Option.bind (Option.bind (getI r x) fun e_1 =>
 Option.bind (inR xv 601) fun un =>
 cond ((e_1 xv.toNat) != 1073741824)
 (Option.bind (getI r_1 x) fun e_2 =>
 some (decide ((W ((e_1 xv.toNat) + (e_2 xv.toNat))) ≤ most)))
 (some false)) fun rg =>
 cond rg
 (cond (decide (x_2 < x_1))
 (shift_can_j19 N xv_1 xv_1)
 (shift_can_j19 N xv_1 x_1))
 (some (.go (x_1,x_2)))
def shift_can_b6 (N : Nat) (l : List api_Span) (most : Int) (r : (List (Nat → Int))) (r_1 : (List (Nat → Int))) (out : List api_Span) (x : Int) : Option (Step ((List api_Span) × Int) ((List api_Span) × Bool)) :=
 cond (decide (x < ((l.length : Nat) : Int)))
 (Option.bind (shift_shifts_1 N (rY (fun (zz : Int × Int) (ix_ : (Int × Int)) => shift_can_r15 N most r r_1 x zz.1 zz.2 ix_.1 ix_.2)) (.go (1,0))) fun x15 =>
 rsK x15 (fun zz15 => cond (decide (zz15.2 < zz15.1))
 (some (.ret (([] : List api_Span),false)))
 (Option.bind (room ((out ++ [(⟨zz15.1,zz15.2⟩ : api_Span)])).length) fun un_1 =>
 some (.cont ((out ++ [(⟨zz15.1,zz15.2⟩ : api_Span)]),W (x + 1))))) (fun zz15 => none))
 (some (.brk (out,x)))
def shift_can (N : Nat) (l : List api_Span) (most : Int) : Option ((List api_Span) × Bool) :=
 Option.bind (shift_reckoned N l) fun r =>
 Option.bind (shift_behind N l) fun r_1 =>
 Option.bind (loopO (fun s6 => shift_can_b6 N l most r r_1 s6.1 s6.2) N (([] : List api_Span),0)) fun x6 =>
 exK x6 (fun s6 => some (s6.1,true)) some
theorem shift_can_ok {N : Nat} {G : Pers} {Lf : List Ent} {w : World} (l : List api_Span) (most : Int) {l_p : Option Addr} {l_c : Nat} (h_l : Rd G 2 l_p l_c (l.map enc_api_Span)) (hc : Ctx G (Lf) w) {res : (List api_Span) × Bool} (hF : shift_can N l most = some res) : Calls Try.prog 52 #[.slice l_p l.length l_c,i6 most] w (fun e w => ∃ (p'1 : Option Addr) (c'1 : Nat),e = .returned (.tuple #[.slice p'1 res.1.length c'1,.bool res.2]) ∧ Ctx G (.row p'1 c'1 (res.1.map enc_api_Span) 38 2::Lf) w) := by
 unfold shift_can at hF
 refine fnInM Try.func52 rfl Try.ntmps52 rfl fun a hf => zS fun K h => zB hf hc rfl fun b_1 a w hf hc => sp 2 hf rfl fun a hf => zT h ?_
 refine zS fun K h => sp 1 hf rfl fun a hf => ?_
 obtain ⟨r,hr,hF⟩ := bnd_some hF
 refine zC hf en_45 rfl (shift_reckoned_ok l h_l hc hr) ?_
 rintro _ w ⟨p_1,c_1,rfl,hc⟩
 refine ⟨_,rfl,fun a hf => ?_⟩
 refine sp 1 hf rfl fun a hf => ?_
 obtain ⟨r_1,hr_1,hF⟩ := bnd_some hF
 refine zC hf en_19 rfl (shift_behind_ok l h_l hc hr_1) ?_
 rintro _ w ⟨p_2,c_2,rfl,hc⟩
 refine ⟨_,rfl,fun a hf => ?_⟩
 refine zA hf hc zr_81 rfl fun b_2 a w hf hc => zA hf hc zr_81 rfl fun b_3 a w hf hc => zW hf hc sz_81 u1 rfl fun w hc => zW hf hc sz_81 u0 rfl fun w hc => zT h ?_
 refine zS fun K h => sp 1 hf rfl fun a hf => zT h ?_
 refine wp_seq_k fun K4 h4 => zS fun K h => sp 1 hf rfl fun a hf => zP hf rfl (pLenS Try.underlying51 rfl) fun a hf => sp 1 hf rfl fun a hf => zT h ?_
 refine wp_block ?_
 obtain ⟨x6,hx6,hF⟩ := bnd_some hF
 let S6 : ((List api_Span) × Int) → Act → World → Prop := (fun (zz : (List api_Span) × Int) a w => ∃ (p_3 : Option Addr) (c_3 : Nat) (p_4 : Option Addr) (c_4 : Nat) (p_5 : Option Addr) (c_5 : Nat) (Ds : List Nat),Has ⟨70,markL Ds⟩ a [(3,pq b_1),(6,pq b_2),(7,pq b_3),(8,.slice p_3 zz.1.length c_3),(18,i6 ((l.length : Nat) : Int)),(19,i6 zz.2)] ∧ Ctx G (.row p_3 c_3 (zz.1.map enc_api_Span) 38 2::.box b_3 [.slice p_5 r_1.length c_5] 81::.box b_2 [.slice p_4 r.length c_4] 81::.row p_5 c_5 (r_1.map encA_85) 85 601::.row p_4 c_4 (r.map encA_85) 85 601::.box b_1 [i6 most] 3::(raws Ds ++ Lf)) w)
 have hr6 : ∀ (zz : (List api_Span) × Int) a w,x6 = .go zz → S6 zz a w → K4 a w := by
  rintro ⟨out,x⟩ a w rfl ⟨p_3,c_3,p_4,c_4,p_5,c_5,Ds,hf,hc⟩
  replace hF := exK_go hF
  refine h4 _ _ ?_
  refine zS fun K h => sp 3 hf rfl fun a hf => zT h ?_
  refine wp_ret ?_
  obtain rfl := sj hF
  replace hc := ((((hc.drop k5).drop k4).drop k3).drop k2).drop k1
  refine outM hf ?_
  refine outML [.row p_3 c_3 (out.map enc_api_Span) 38 2] Ds hc fun w hc => ?_
  replace hc : Ctx G (.row p_3 c_3 (out.map enc_api_Span) 38 2::Lf) w := hc
  exact outM2 Try.results52 hf hc (show look _ 4 = _ from rfl) (show look _ 5 = _ from rfl) ⟨p_3,c_3,rfl,hc⟩
 have ho6 : ∀ r,x6 = .out r → r = res := by
  rintro r rfl
  exact sj hF
 replace hf := markZ hf
 replace hc : Ctx G (.box b_3 [.slice p_2 r_1.length c_2] 81::.box b_2 [.slice p_1 r.length c_1] 81::.row p_2 c_2 (r_1.map encA_85) 85 601::.row p_1 c_1 (r.map encA_85) 85 601::.box b_1 [i6 most] 3::(raws [] ++ Lf)) w := hc
 replace hc := hc.nilRow 38 2
 refine cLoop N (loopW (S := S6) (x := x6) ?_ N (([] : List api_Span),0) _ _ ⟨none,0,p_1,c_1,p_2,c_2,[],hf.kp rfl,hc⟩ hx6)
 clear hF hf hc
 rintro ⟨out,x⟩ st6 a w KB6 ⟨p_3,c_3,p_4,c_4,p_5,c_5,Ds,hf,hc⟩ hF hfin6 hK6
 unfold shift_can_b6 at hF
 refine zS fun K h => sp 1 hf rfl fun a hf => zT h ?_
 refine wp_seq_k fun K9 h9 => zI hf rfl hF ?_ ?_ <;> clear hF <;> intro hF
 ·refine wp_skip ?_
  refine h9 _ _ ?_
  refine wp_seq_k fun K10 h10 => wp_block ?_
  refine zS fun K h => sp 1 hf rfl fun a hf => zA hf hc zr_3 rfl fun b_4 a w hf hc => zW hf hc sz_3 u0 rfl fun w hc => zT h ?_
  refine zS fun K h => zP hf rfl (pBuildS (cells := [i6 1,i6 0]) bt_38 rfl rfl) fun a hf => zA hf hc zr_38 rfl fun b_5 a w hf hc => zW hf hc sz_38 u0 rfl fun w hc => zT h ?_
  refine wp_seq_k fun K13 h13 => zS fun K h => zQ (v := .func (.func 47) #[] #[]) hf hc en_21 rfl (fun w hc => shift_shifts_ok hc rfl) fun a w hf hc => zT h ?_
  obtain ⟨x15,hx15,hF⟩ := bnd_some hF
  refine cRange (C := []) (C2 := []) (L0 := [.box b_5 [i6 1,i6 0] 38,.box b_4 [i6 x] 3,.row p_3 c_3 (out.map enc_api_Span) 38 2,.box b_3 [.slice p_5 r_1.length c_5] 81,.box b_2 [.slice p_4 r.length c_4] 81,.row p_5 c_5 (r_1.map encA_85) 85 601,.row p_4 c_4 (r.map encA_85) 85 601,.box b_1 [i6 most] 3]) (Lf := (raws Ds ++ Lf)) (encs := fun x : (Int × Int) => [i6 x.1,i6 x.2]) (fun (zz : Int × Int) L => ∃ (p_6 : Option Addr) (c_6 : Nat) (p_7 : Option Addr) (c_7 : Nat),L = [.box b_5 [i6 zz.1,i6 zz.2] 38,.box b_4 [i6 x] 3,.row p_3 c_3 (out.map enc_api_Span) 38 2,.box b_3 [.slice p_7 r_1.length c_7] 81,.box b_2 [.slice p_6 r.length c_6] 81,.row p_7 c_7 (r_1.map encA_85) 85 601,.row p_6 c_6 (r.map encA_85) 85 601,.box b_1 [i6 most] 3]) (fun (zz : Int × Int) (ix_ : (Int × Int)) => shift_can_r15 N most r r_1 x zz.1 zz.2 ix_.1 ix_.2) (1,0) x15 hf hc rfl en_47 (fun _ => rfl) rfl ⟨p_4,c_4,p_5,c_5,rfl⟩ ?_ ?_ ?_ ?_
  ·intro lq mq J L Lx w hy hJ hc
   exact shift_shifts_1_ok  J _ hy _ hJ hc hx15
  ·clear hF hf hc
   rintro lq mq ⟨x_1,x_2⟩ ⟨xv,xv_1⟩ oq _ Lr Lb a w hK0 ⟨p_6,c_6,p_7,c_7,rfl⟩ hF hf hc hK
   replace hf : Has 70 a [(3,pq b_1),(6,pq b_2),(7,pq b_3),(8,.slice p_3 out.length c_3),(9,pq b_4),(10,pq b_5),(18,i6 ((l.length : Nat) : Int)),(19,i6 x),(24,i6 xv),(25,i6 xv_1)] := hf.kp rfl
   replace hc : Ctx G (.box b_5 [i6 x_1,i6 x_2] 38::.box b_4 [i6 x] 3::.row p_3 c_3 (out.map enc_api_Span) 38 2::.box b_3 [.slice p_7 r_1.length c_7] 81::.box b_2 [.slice p_6 r.length c_6] 81::.row p_7 c_7 (r_1.map encA_85) 85 601::.row p_6 c_6 (r.map encA_85) 85 601::.box b_1 [i6 most] 3::Lr) w := hc
   replace hF : shift_can_r15 N most r r_1 x x_1 x_2 xv xv_1 = some oq := hF
   unfold shift_can_r15 at hF
   refine rSeq fun K16 h16 => rReg (fun _ _ h => h) rfl ?_
   refine sp 1 hf rfl fun a hf => cNil ?_
   refine h16 _ _ ?_
   refine rReg (fun _ _ h => h) rfl ?_
   refine sp 1 hf rfl fun a hf => cNil ?_
   refine hK _ _ [.box b_5 [i6 x_1,i6 x_2] 38,.box b_4 [i6 x] 3,.row p_3 c_3 (out.map enc_api_Span) 38 2,.box b_3 [.slice p_7 r_1.length c_7] 81,.box b_2 [.slice p_6 r.length c_6] 81,.row p_7 c_7 (r_1.map encA_85) 85 601,.row p_6 c_6 (r.map encA_85) 85 601,.box b_1 [i6 most] 3] hc fun w hc => ?_
   replace hc : Ctx G (.box b_5 [i6 x_1,i6 x_2] 38::.box b_4 [i6 x] 3::.row p_3 c_3 (out.map enc_api_Span) 38 2::.box b_3 [.slice p_7 r_1.length c_7] 81::.box b_2 [.slice p_6 r.length c_6] 81::.row p_7 c_7 (r_1.map encA_85) 85 601::.row p_6 c_6 (r.map encA_85) 85 601::.box b_1 [i6 most] 3::Lb) w := hc
   refine rThenK fun K17 h17 => rBlock ?_
   refine rSeq fun K18 h18 => ?_
   obtain ⟨rg,hrg,hF⟩ := bnd_some hF
   refine rCut (fun a w => ∃ (p_8 : Option Addr) (c_8 : Nat) (p_9 : Option Addr) (c_9 : Nat),Has 70 a [(3,pq b_1),(6,pq b_2),(7,pq b_3),(8,.slice p_3 out.length c_3),(9,pq b_4),(10,pq b_5),(12,i6 xv_1),(18,i6 ((l.length : Nat) : Int)),(19,i6 x),(49,.bool rg)] ∧ Ctx G (.box b_5 [i6 x_1,i6 x_2] 38::.box b_4 [i6 x] 3::.row p_3 c_3 (out.map enc_api_Span) 38 2::.box b_3 [.slice p_8 r_1.length c_8] 81::.box b_2 [.slice p_9 r.length c_9] 81::.row p_8 c_8 (r_1.map encA_85) 85 601::.row p_9 c_9 (r.map encA_85) 85 601::.box b_1 [i6 most] 3::Lb) w) ?_ ?_
   ·clear hF
    have hF := hrg
    clear hrg
    obtain ⟨e_1,he_1,hF⟩ := bnd_some hF
    obtain ⟨g,rfl,qa,qr⟩ := row_atm hc m6 he_1
    obtain ⟨un,hun,hF⟩ := bnd_some hF
    cases hb : ((e_1 xv.toNat) != 1073741824)
    ·replace hF := condF hb hF
     try rw [hb] at hf
     try rw [hb] at hc
     have hb1 := hb
     clear hb
     refine rRegE (fun _ _ h => h) rfl (fun θ => (⟨none,none,3,pq b_1⟩::⟨none,none,6,pq b_2⟩::⟨none,none,7,pq b_3⟩::⟨none,none,8,.slice p_3 out.length c_3⟩::⟨none,none,9,pq b_4⟩::⟨none,none,10,pq b_5⟩::⟨none,none,11,i6 xv⟩::⟨none,none,12,i6 xv_1⟩::⟨none,none,18,i6 ((l.length : Nat) : Int)⟩::⟨none,none,19,i6 x⟩::⟨some 0,none,26,.slice (some ⟨g,0,none⟩) r.length c_6⟩::⟨some 1,none,27,i6 x⟩::⟨some 2,none,28,i6 xv⟩::⟨some 3,none,29,.pointer (some ⟨g,x.toNat * 601,none⟩)⟩::⟨some 4,none,30,.pointer (some ⟨g,x.toNat * 601 + xv.toNat * 1,none⟩)⟩::⟨some 5,none,31,i6 (e_1 xv.toNat)⟩::⟨some 6,none,32,.bool false⟩::⟨some 7,none,33,.bool false⟩::⟨some 8,none,34,undef⟩::⟨some 9,none,35,undef⟩::⟨some 10,none,36,undef⟩::⟨some 11,none,37,undef⟩::⟨some 12,none,38,undef⟩::⟨some 13,none,39,undef⟩::⟨some 14,none,40,undef⟩::⟨some 15,none,41,undef⟩::⟨some 16,none,42,undef⟩::⟨some 17,none,43,undef⟩::⟨some 18,none,44,undef⟩::⟨some 19,none,45,undef⟩::⟨some 20,none,46,undef⟩::⟨some 21,none,47,undef⟩::⟨some 22,none,48,undef⟩::⟨some 23,none,49,.bool false⟩::[])) (fun E θ => .box b_5 [i6 x_1,i6 x_2] 38::.box b_4 [i6 x] 3::.row p_3 c_3 (out.map enc_api_Span) 38 2::.box b_3 [.slice p_7 r_1.length c_7] 81::.box b_2 [.slice (some ⟨g,0,none⟩) r.length c_6] 81::.row p_7 c_7 (r_1.map encA_85) 85 601::.row (some ⟨g,0,none⟩) c_6 (r.map encA_85) 85 601::.box b_1 [i6 most] 3::Lb) [] (fun a w => Has 70 a [(3,pq b_1),(6,pq b_2),(7,pq b_3),(8,.slice p_3 out.length c_3),(9,pq b_4),(10,pq b_5),(12,i6 xv_1),(18,i6 ((l.length : Nat) : Int)),(19,i6 x),(34,undef),(35,undef),(36,undef),(37,undef),(38,undef),(39,undef),(40,undef),(41,undef),(42,undef),(43,undef),(44,undef),(45,undef),(46,undef),(47,undef),(48,undef),(49,.bool false)] ∧ Ctx G (.box b_5 [i6 x_1,i6 x_2] 38::.box b_4 [i6 x] 3::.row p_3 c_3 (out.map enc_api_Span) 38 2::.box b_3 [.slice p_7 r_1.length c_7] 81::.box b_2 [.slice (some ⟨g,0,none⟩) r.length c_6] 81::.row p_7 c_7 (r_1.map encA_85) 85 601::.row (some ⟨g,0,none⟩) c_6 (r.map encA_85) 85 601::.box b_1 [i6 most] 3::Lb) w) follows_mx (by kernel_rfl) (by kernel_rfl) (HasE.of hf ⟨rfl,rfl,rfl,rfl,rfl,rfl,rfl,rfl,rfl,rfl,trivial,trivial,trivial,trivial,trivial,trivial,trivial,trivial,trivial,trivial,trivial,trivial,trivial,trivial,trivial,trivial,trivial,trivial,trivial,trivial,trivial,trivial,trivial,trivial,trivial⟩) hc ⟨?_,?_,?_,?_,?_,?_,?_,?_,?_,?_,?_,?_,?_,?_,?_,?_,?_,?_,?_,?_,?_,?_,?_,?_,trivial⟩ ?_ ?_
     ·intro E θ a w hD hi hp he hc
      have hf := he.h0.mT he 1 rfl
      refine zL hf hc sc_81 m4 rfl fun a w hf hc => zD θ he hi hf 10 rfl rfl rfl hc
     ·intro E θ a w hD hi hp he hc
      have hf := he.h0.mT he 4 rfl
      refine zL hf hc sc_3 m1 rfl fun a w hf hc => zD θ he hi hf 11 rfl rfl rfl hc
     ·intro E θ a w hD hi hp he hc
      have hf := he.h0.mT he 6 rfl
      refine sp 1 hf rfl fun a hf => zD θ he hi hf 12 rfl rfl rfl hc
     ·intro E θ a w hD hi hp he hc
      have e0 := hp.o 0 rfl
      have e1 := hp.o 1 rfl
      have hf := (he.h0.mP he 10 rfl e0).mP he 11 rfl e1
      refine zP hf rfl (pIA Try.underlying81 sz_85 rfl rfl qa) fun a hf => zD θ he hi hf 13 rfl rfl rfl hc
     ·intro E θ a w hD hi hp he hc
      have e2 := hp.o 2 rfl
      have e3 := hp.o 3 rfl
      have hf := (he.h0.mP he 12 rfl e2).mP he 13 rfl e3
      refine zP hf rfl (pIAA Try.underlying85 sz_3 rfl rfl (inR_spec hun).1 (inR_spec hun).2) fun a hf => zD θ he hi hf 14 rfl rfl rfl hc
     ·intro E θ a w hD hi hp he hc
      have e4 := hp.o 4 rfl
      have hf := he.h0.mP he 14 rfl e4
      refine zE hf hc rfl (eLd1 sc_3 rfl (cell_row (sz := 601) (i := x.toNat) (j := xv.toNat * 1 + 0) m6 qr (catc_cell (fun x => (one_encI_i64 x).1) hun rfl))) fun a w hf hc => zD θ he hi hf 15 rfl rfl rfl hc
     ·intro E θ a w hD hi hp he hc
      have e5 := hp.o 5 rfl
      have hf := he.h0.mP he 15 rfl e5
      refine sp 1 hf rfl fun a hf => ?_
      rw [hb1] at hf
      exact zD θ he hi hf 16 rfl rfl rfl hc
     ·intro E θ a w hD hi hp he hc
      have e6 := hp.o 6 rfl
      have hf := he.h0.mP he 16 rfl e6
      refine sp 1 hf rfl fun a hf => zD θ he hi hf 17 rfl rfl rfl hc
     ·intro E θ a w hD hi hp he hc
      have e7 := hp.o 7 rfl
      have hf := (he.h0.mT he 1 rfl).mP he 17 rfl e7
      refine stS hf rfl rfl rfl fun a hf => zD θ he hi hf 18 rfl rfl rfl hc
     ·intro E θ a w hD hi hp he hc
      have e7 := hp.o 7 rfl
      have hf := (he.h0.mT he 4 rfl).mP he 17 rfl e7
      refine stS hf rfl rfl rfl fun a hf => zD θ he hi hf 19 rfl rfl rfl hc
     ·intro E θ a w hD hi hp he hc
      have e7 := hp.o 7 rfl
      have hf := (he.h0.mT he 6 rfl).mP he 17 rfl e7
      refine stS hf rfl rfl rfl fun a hf => zD θ he hi hf 20 rfl rfl rfl hc
     ·intro E θ a w hD hi hp he hc
      have e7 := hp.o 7 rfl
      have e8 := hp.o 8 rfl
      have e9 := hp.o 9 rfl
      have hf := ((he.h0.mP he 17 rfl e7).mP he 18 rfl e8).mP he 19 rfl e9
      refine stS hf rfl rfl rfl fun a hf => zD θ he hi hf 21 rfl rfl rfl hc
     ·intro E θ a w hD hi hp he hc
      have e7 := hp.o 7 rfl
      have e10 := hp.o 10 rfl
      have e11 := hp.o 11 rfl
      have hf := ((he.h0.mP he 17 rfl e7).mP he 20 rfl e10).mP he 21 rfl e11
      refine stS hf rfl rfl rfl fun a hf => zD θ he hi hf 22 rfl rfl rfl hc
     ·intro E θ a w hD hi hp he hc
      have e7 := hp.o 7 rfl
      have e12 := hp.o 12 rfl
      have hf := (he.h0.mP he 17 rfl e7).mP he 22 rfl e12
      refine stS hf rfl rfl rfl fun a hf => zD θ he hi hf 23 rfl rfl rfl hc
     ·intro E θ a w hD hi hp he hc
      have e7 := hp.o 7 rfl
      have hf := (he.h0.mT he 2 rfl).mP he 17 rfl e7
      refine stS hf rfl rfl rfl fun a hf => zD θ he hi hf 24 rfl rfl rfl hc
     ·intro E θ a w hD hi hp he hc
      have e7 := hp.o 7 rfl
      have hf := (he.h0.mT he 4 rfl).mP he 17 rfl e7
      refine stS hf rfl rfl rfl fun a hf => zD θ he hi hf 25 rfl rfl rfl hc
     ·intro E θ a w hD hi hp he hc
      have e7 := hp.o 7 rfl
      have hf := (he.h0.mT he 6 rfl).mP he 17 rfl e7
      refine stS hf rfl rfl rfl fun a hf => zD θ he hi hf 26 rfl rfl rfl hc
     ·intro E θ a w hD hi hp he hc
      have e7 := hp.o 7 rfl
      have e14 := hp.o 14 rfl
      have e15 := hp.o 15 rfl
      have hf := ((he.h0.mP he 17 rfl e7).mP he 24 rfl e14).mP he 25 rfl e15
      refine stS hf rfl rfl rfl fun a hf => zD θ he hi hf 27 rfl rfl rfl hc
     ·intro E θ a w hD hi hp he hc
      have e7 := hp.o 7 rfl
      have e16 := hp.o 16 rfl
      have e17 := hp.o 17 rfl
      have hf := ((he.h0.mP he 17 rfl e7).mP he 26 rfl e16).mP he 27 rfl e17
      refine stS hf rfl rfl rfl fun a hf => zD θ he hi hf 28 rfl rfl rfl hc
     ·intro E θ a w hD hi hp he hc
      have e7 := hp.o 7 rfl
      have e18 := hp.o 18 rfl
      have hf := (he.h0.mP he 17 rfl e7).mP he 28 rfl e18
      refine stS hf rfl rfl rfl fun a hf => zD θ he hi hf 29 rfl rfl rfl hc
     ·intro E θ a w hD hi hp he hc
      have e7 := hp.o 7 rfl
      have e13 := hp.o 13 rfl
      have e19 := hp.o 19 rfl
      have hf := ((he.h0.mP he 17 rfl e7).mP he 23 rfl e13).mP he 29 rfl e19
      refine stS hf rfl rfl rfl fun a hf => zD θ he hi hf 30 rfl rfl rfl hc
     ·intro E θ a w hD hi hp he hc
      have e7 := hp.o 7 rfl
      have hf := (he.h0.mT he 0 rfl).mP he 17 rfl e7
      refine stS hf rfl rfl rfl fun a hf => zD θ he hi hf 31 rfl rfl rfl hc
     ·intro E θ a w hD hi hp he hc
      have e7 := hp.o 7 rfl
      have e20 := hp.o 20 rfl
      have e21 := hp.o 21 rfl
      have hf := ((he.h0.mP he 17 rfl e7).mP he 30 rfl e20).mP he 31 rfl e21
      refine stS hf rfl rfl rfl fun a hf => zD θ he hi hf 32 rfl rfl rfl hc
     ·intro E θ a w hD hi hp he hc
      have e7 := hp.o 7 rfl
      have e22 := hp.o 22 rfl
      have hf := (he.h0.mP he 17 rfl e7).mP he 32 rfl e22
      refine sp 1 hf rfl fun a hf => zD θ he hi hf 33 rfl rfl rfl hc
     ·intro E θ a w hall he hc
      have hf := he.h0
      have e8 := hall 8 rfl
      have e9 := hall 9 rfl
      have e10 := hall 10 rfl
      have e11 := hall 11 rfl
      have e12 := hall 12 rfl
      have e13 := hall 13 rfl
      have e14 := hall 14 rfl
      have e15 := hall 15 rfl
      have e16 := hall 16 rfl
      have e17 := hall 17 rfl
      have e18 := hall 18 rfl
      have e19 := hall 19 rfl
      have e20 := hall 20 rfl
      have e21 := hall 21 rfl
      have e22 := hall 22 rfl
      have e23 := hall 23 rfl
      replace hf := hf.more he 33 rfl (onP e23)
      replace hf := hf.more he 32 rfl (onP e22)
      replace hf := hf.more he 31 rfl (onP e21)
      replace hf := hf.more he 30 rfl (onP e20)
      replace hf := hf.more he 29 rfl (onP e19)
      replace hf := hf.more he 28 rfl (onP e18)
      replace hf := hf.more he 27 rfl (onP e17)
      replace hf := hf.more he 26 rfl (onP e16)
      replace hf := hf.more he 25 rfl (onP e15)
      replace hf := hf.more he 24 rfl (onP e14)
      replace hf := hf.more he 23 rfl (onP e13)
      replace hf := hf.more he 22 rfl (onP e12)
      replace hf := hf.more he 21 rfl (onP e11)
      replace hf := hf.more he 20 rfl (onP e10)
      replace hf := hf.more he 19 rfl (onP e9)
      replace hf := hf.more he 18 rfl (onP e8)
      replace hf := hf.more he 9 rfl (onT)
      replace hf := hf.more he 8 rfl (onT)
      replace hf := hf.more he 7 rfl (onT)
      replace hf := hf.more he 5 rfl (onT)
      replace hf := hf.more he 4 rfl (onT)
      replace hf := hf.more he 3 rfl (onT)
      replace hf := hf.more he 2 rfl (onT)
      replace hf := hf.more he 1 rfl (onT)
      replace hf := hf.more he 0 rfl (onT)
      exact ⟨hf.kp rfl,hc⟩
     rintro a w ⟨hf,hc⟩
     refine xThenN ?_
     obtain rfl := sj hF
     exact ⟨p_7,c_7,(some ⟨g,0,none⟩),c_6,hf.kp rfl,hc⟩
    ·replace hF := condT hb hF
     try rw [hb] at hf
     try rw [hb] at hc
     have hb1 := hb
     clear hb
     obtain ⟨e_2,he_2,hF⟩ := bnd_some hF
     obtain ⟨g_1,rfl,qa_1,qr_1⟩ := row_atm hc m5 he_2
     refine rRegE (fun _ _ h => h) rfl (fun θ => (⟨none,none,3,pq b_1⟩::⟨none,none,6,pq b_2⟩::⟨none,none,7,pq b_3⟩::⟨none,none,8,.slice p_3 out.length c_3⟩::⟨none,none,9,pq b_4⟩::⟨none,none,10,pq b_5⟩::⟨none,none,11,i6 xv⟩::⟨none,none,12,i6 xv_1⟩::⟨none,none,18,i6 ((l.length : Nat) : Int)⟩::⟨none,none,19,i6 x⟩::⟨some 0,none,26,.slice (some ⟨g,0,none⟩) r.length c_6⟩::⟨some 1,none,27,i6 x⟩::⟨some 2,none,28,i6 xv⟩::⟨some 3,none,29,.pointer (some ⟨g,x.toNat * 601,none⟩)⟩::⟨some 4,none,30,.pointer (some ⟨g,x.toNat * 601 + xv.toNat * 1,none⟩)⟩::⟨some 5,none,31,i6 (e_1 xv.toNat)⟩::⟨some 6,none,32,.bool true⟩::⟨some 7,none,33,.bool true⟩::⟨some 8,none,34,.slice (some ⟨g,0,none⟩) r.length c_6⟩::⟨some 9,none,35,i6 x⟩::⟨some 10,none,36,i6 xv⟩::⟨some 11,none,37,.pointer (some ⟨g,x.toNat * 601,none⟩)⟩::⟨some 12,none,38,.pointer (some ⟨g,x.toNat * 601 + xv.toNat * 1,none⟩)⟩::⟨some 13,none,39,i6 (e_1 xv.toNat)⟩::⟨some 14,none,40,.slice (some ⟨g_1,0,none⟩) r_1.length c_7⟩::⟨some 15,none,41,i6 x⟩::⟨some 16,none,42,i6 xv⟩::⟨some 17,none,43,.pointer (some ⟨g_1,x.toNat * 601,none⟩)⟩::⟨some 18,none,44,.pointer (some ⟨g_1,x.toNat * 601 + xv.toNat * 1,none⟩)⟩::⟨some 19,none,45,i6 (e_2 xv.toNat)⟩::⟨some 20,none,46,i6 (W ((e_1 xv.toNat) + (e_2 xv.toNat)))⟩::⟨some 21,none,47,i6 most⟩::⟨some 22,none,48,.bool (decide ((W ((e_1 xv.toNat) + (e_2 xv.toNat))) ≤ most))⟩::⟨some 23,none,49,.bool (decide ((W ((e_1 xv.toNat) + (e_2 xv.toNat))) ≤ most))⟩::[])) (fun E θ => .box b_5 [i6 x_1,i6 x_2] 38::.box b_4 [i6 x] 3::.row p_3 c_3 (out.map enc_api_Span) 38 2::.box b_3 [.slice (some ⟨g_1,0,none⟩) r_1.length c_7] 81::.box b_2 [.slice (some ⟨g,0,none⟩) r.length c_6] 81::.row (some ⟨g_1,0,none⟩) c_7 (r_1.map encA_85) 85 601::.row (some ⟨g,0,none⟩) c_6 (r.map encA_85) 85 601::.box b_1 [i6 most] 3::Lb) [] (fun a w => Has 70 a [(3,pq b_1),(6,pq b_2),(7,pq b_3),(8,.slice p_3 out.length c_3),(9,pq b_4),(10,pq b_5),(12,i6 xv_1),(18,i6 ((l.length : Nat) : Int)),(19,i6 x),(34,.slice (some ⟨g,0,none⟩) r.length c_6),(35,i6 x),(36,i6 xv),(37,.pointer (some ⟨g,x.toNat * 601,none⟩)),(38,.pointer (some ⟨g,x.toNat * 601 + xv.toNat * 1,none⟩)),(39,i6 (e_1 xv.toNat)),(40,.slice (some ⟨g_1,0,none⟩) r_1.length c_7),(41,i6 x),(42,i6 xv),(43,.pointer (some ⟨g_1,x.toNat * 601,none⟩)),(44,.pointer (some ⟨g_1,x.toNat * 601 + xv.toNat * 1,none⟩)),(45,i6 (e_2 xv.toNat)),(46,i6 (W ((e_1 xv.toNat) + (e_2 xv.toNat)))),(47,i6 most),(48,.bool (decide ((W ((e_1 xv.toNat) + (e_2 xv.toNat))) ≤ most))),(49,.bool (decide ((W ((e_1 xv.toNat) + (e_2 xv.toNat))) ≤ most)))] ∧ Ctx G (.box b_5 [i6 x_1,i6 x_2] 38::.box b_4 [i6 x] 3::.row p_3 c_3 (out.map enc_api_Span) 38 2::.box b_3 [.slice (some ⟨g_1,0,none⟩) r_1.length c_7] 81::.box b_2 [.slice (some ⟨g,0,none⟩) r.length c_6] 81::.row (some ⟨g_1,0,none⟩) c_7 (r_1.map encA_85) 85 601::.row (some ⟨g,0,none⟩) c_6 (r.map encA_85) 85 601::.box b_1 [i6 most] 3::Lb) w) follows_mx (by kernel_rfl) (by kernel_rfl) (HasE.of hf ⟨rfl,rfl,rfl,rfl,rfl,rfl,rfl,rfl,rfl,rfl,trivial,trivial,trivial,trivial,trivial,trivial,trivial,trivial,trivial,trivial,trivial,trivial,trivial,trivial,trivial,trivial,trivial,trivial,trivial,trivial,trivial,trivial,trivial,trivial,trivial⟩) hc ⟨?_,?_,?_,?_,?_,?_,?_,?_,?_,?_,?_,?_,?_,?_,?_,?_,?_,?_,?_,?_,?_,?_,?_,?_,trivial⟩ ?_ ?_
     ·intro E θ a w hD hi hp he hc
      have hf := he.h0.mT he 1 rfl
      refine zL hf hc sc_81 m4 rfl fun a w hf hc => zD θ he hi hf 10 rfl rfl rfl hc
     ·intro E θ a w hD hi hp he hc
      have hf := he.h0.mT he 4 rfl
      refine zL hf hc sc_3 m1 rfl fun a w hf hc => zD θ he hi hf 11 rfl rfl rfl hc
     ·intro E θ a w hD hi hp he hc
      have hf := he.h0.mT he 6 rfl
      refine sp 1 hf rfl fun a hf => zD θ he hi hf 12 rfl rfl rfl hc
     ·intro E θ a w hD hi hp he hc
      have e0 := hp.o 0 rfl
      have e1 := hp.o 1 rfl
      have hf := (he.h0.mP he 10 rfl e0).mP he 11 rfl e1
      refine zP hf rfl (pIA Try.underlying81 sz_85 rfl rfl qa) fun a hf => zD θ he hi hf 13 rfl rfl rfl hc
     ·intro E θ a w hD hi hp he hc
      have e2 := hp.o 2 rfl
      have e3 := hp.o 3 rfl
      have hf := (he.h0.mP he 12 rfl e2).mP he 13 rfl e3
      refine zP hf rfl (pIAA Try.underlying85 sz_3 rfl rfl (inR_spec hun).1 (inR_spec hun).2) fun a hf => zD θ he hi hf 14 rfl rfl rfl hc
     ·intro E θ a w hD hi hp he hc
      have e4 := hp.o 4 rfl
      have hf := he.h0.mP he 14 rfl e4
      refine zE hf hc rfl (eLd1 sc_3 rfl (cell_row (sz := 601) (i := x.toNat) (j := xv.toNat * 1 + 0) m6 qr (catc_cell (fun x => (one_encI_i64 x).1) hun rfl))) fun a w hf hc => zD θ he hi hf 15 rfl rfl rfl hc
     ·intro E θ a w hD hi hp he hc
      have e5 := hp.o 5 rfl
      have hf := he.h0.mP he 15 rfl e5
      refine sp 1 hf rfl fun a hf => ?_
      rw [hb1] at hf
      exact zD θ he hi hf 16 rfl rfl rfl hc
     ·intro E θ a w hD hi hp he hc
      have e6 := hp.o 6 rfl
      have hf := he.h0.mP he 16 rfl e6
      refine sp 1 hf rfl fun a hf => zD θ he hi hf 17 rfl rfl rfl hc
     ·intro E θ a w hD hi hp he hc
      have e7 := hp.o 7 rfl
      have hf := (he.h0.mT he 1 rfl).mP he 17 rfl e7
      refine zL hf hc sc_81 m4 rfl fun a w hf hc => zD θ he hi hf 18 rfl rfl rfl hc
     ·intro E θ a w hD hi hp he hc
      have e7 := hp.o 7 rfl
      have hf := (he.h0.mT he 4 rfl).mP he 17 rfl e7
      refine zL hf hc sc_3 m1 rfl fun a w hf hc => zD θ he hi hf 19 rfl rfl rfl hc
     ·intro E θ a w hD hi hp he hc
      have e7 := hp.o 7 rfl
      have hf := (he.h0.mT he 6 rfl).mP he 17 rfl e7
      refine sp 1 hf rfl fun a hf => zD θ he hi hf 20 rfl rfl rfl hc
     ·intro E θ a w hD hi hp he hc
      have e7 := hp.o 7 rfl
      have e8 := hp.o 8 rfl
      have e9 := hp.o 9 rfl
      have hf := ((he.h0.mP he 17 rfl e7).mP he 18 rfl e8).mP he 19 rfl e9
      refine zP hf rfl (pIA Try.underlying81 sz_85 rfl rfl qa) fun a hf => zD θ he hi hf 21 rfl rfl rfl hc
     ·intro E θ a w hD hi hp he hc
      have e7 := hp.o 7 rfl
      have e10 := hp.o 10 rfl
      have e11 := hp.o 11 rfl
      have hf := ((he.h0.mP he 17 rfl e7).mP he 20 rfl e10).mP he 21 rfl e11
      refine zP hf rfl (pIAA Try.underlying85 sz_3 rfl rfl (inR_spec hun).1 (inR_spec hun).2) fun a hf => zD θ he hi hf 22 rfl rfl rfl hc
     ·intro E θ a w hD hi hp he hc
      have e7 := hp.o 7 rfl
      have e12 := hp.o 12 rfl
      have hf := (he.h0.mP he 17 rfl e7).mP he 22 rfl e12
      refine zE hf hc rfl (eLd1 sc_3 rfl (cell_row (sz := 601) (i := x.toNat) (j := xv.toNat * 1 + 0) m6 qr (catc_cell (fun x => (one_encI_i64 x).1) hun rfl))) fun a w hf hc => zD θ he hi hf 23 rfl rfl rfl hc
     ·intro E θ a w hD hi hp he hc
      have e7 := hp.o 7 rfl
      have hf := (he.h0.mT he 2 rfl).mP he 17 rfl e7
      refine zL hf hc sc_81 m3 rfl fun a w hf hc => zD θ he hi hf 24 rfl rfl rfl hc
     ·intro E θ a w hD hi hp he hc
      have e7 := hp.o 7 rfl
      have hf := (he.h0.mT he 4 rfl).mP he 17 rfl e7
      refine zL hf hc sc_3 m1 rfl fun a w hf hc => zD θ he hi hf 25 rfl rfl rfl hc
     ·intro E θ a w hD hi hp he hc
      have e7 := hp.o 7 rfl
      have hf := (he.h0.mT he 6 rfl).mP he 17 rfl e7
      refine sp 1 hf rfl fun a hf => zD θ he hi hf 26 rfl rfl rfl hc
     ·intro E θ a w hD hi hp he hc
      have e7 := hp.o 7 rfl
      have e14 := hp.o 14 rfl
      have e15 := hp.o 15 rfl
      have hf := ((he.h0.mP he 17 rfl e7).mP he 24 rfl e14).mP he 25 rfl e15
      refine zP hf rfl (pIA Try.underlying81 sz_85 rfl rfl qa_1) fun a hf => zD θ he hi hf 27 rfl rfl rfl hc
     ·intro E θ a w hD hi hp he hc
      have e7 := hp.o 7 rfl
      have e16 := hp.o 16 rfl
      have e17 := hp.o 17 rfl
      have hf := ((he.h0.mP he 17 rfl e7).mP he 26 rfl e16).mP he 27 rfl e17
      refine zP hf rfl (pIAA Try.underlying85 sz_3 rfl rfl (inR_spec hun).1 (inR_spec hun).2) fun a hf => zD θ he hi hf 28 rfl rfl rfl hc
     ·intro E θ a w hD hi hp he hc
      have e7 := hp.o 7 rfl
      have e18 := hp.o 18 rfl
      have hf := (he.h0.mP he 17 rfl e7).mP he 28 rfl e18
      refine zE hf hc rfl (eLd1 sc_3 rfl (cell_row (sz := 601) (i := x.toNat) (j := xv.toNat * 1 + 0) m5 qr_1 (catc_cell (fun x => (one_encI_i64 x).1) hun rfl))) fun a w hf hc => zD θ he hi hf 29 rfl rfl rfl hc
     ·intro E θ a w hD hi hp he hc
      have e7 := hp.o 7 rfl
      have e13 := hp.o 13 rfl
      have e19 := hp.o 19 rfl
      have hf := ((he.h0.mP he 17 rfl e7).mP he 23 rfl e13).mP he 29 rfl e19
      refine sp 1 hf rfl fun a hf => zD θ he hi hf 30 rfl rfl rfl hc
     ·intro E θ a w hD hi hp he hc
      have e7 := hp.o 7 rfl
      have hf := (he.h0.mT he 0 rfl).mP he 17 rfl e7
      refine zL hf hc sc_3 m7 rfl fun a w hf hc => zD θ he hi hf 31 rfl rfl rfl hc
     ·intro E θ a w hD hi hp he hc
      have e7 := hp.o 7 rfl
      have e20 := hp.o 20 rfl
      have e21 := hp.o 21 rfl
      have hf := ((he.h0.mP he 17 rfl e7).mP he 30 rfl e20).mP he 31 rfl e21
      refine sp 1 hf rfl fun a hf => zD θ he hi hf 32 rfl rfl rfl hc
     ·intro E θ a w hD hi hp he hc
      have e7 := hp.o 7 rfl
      have e22 := hp.o 22 rfl
      have hf := (he.h0.mP he 17 rfl e7).mP he 32 rfl e22
      refine sp 1 hf rfl fun a hf => zD θ he hi hf 33 rfl rfl rfl hc
     ·intro E θ a w hall he hc
      have hf := he.h0
      have e8 := hall 8 rfl
      have e9 := hall 9 rfl
      have e10 := hall 10 rfl
      have e11 := hall 11 rfl
      have e12 := hall 12 rfl
      have e13 := hall 13 rfl
      have e14 := hall 14 rfl
      have e15 := hall 15 rfl
      have e16 := hall 16 rfl
      have e17 := hall 17 rfl
      have e18 := hall 18 rfl
      have e19 := hall 19 rfl
      have e20 := hall 20 rfl
      have e21 := hall 21 rfl
      have e22 := hall 22 rfl
      have e23 := hall 23 rfl
      replace hf := hf.more he 33 rfl (onP e23)
      replace hf := hf.more he 32 rfl (onP e22)
      replace hf := hf.more he 31 rfl (onP e21)
      replace hf := hf.more he 30 rfl (onP e20)
      replace hf := hf.more he 29 rfl (onP e19)
      replace hf := hf.more he 28 rfl (onP e18)
      replace hf := hf.more he 27 rfl (onP e17)
      replace hf := hf.more he 26 rfl (onP e16)
      replace hf := hf.more he 25 rfl (onP e15)
      replace hf := hf.more he 24 rfl (onP e14)
      replace hf := hf.more he 23 rfl (onP e13)
      replace hf := hf.more he 22 rfl (onP e12)
      replace hf := hf.more he 21 rfl (onP e11)
      replace hf := hf.more he 20 rfl (onP e10)
      replace hf := hf.more he 19 rfl (onP e9)
      replace hf := hf.more he 18 rfl (onP e8)
      replace hf := hf.more he 9 rfl (onT)
      replace hf := hf.more he 8 rfl (onT)
      replace hf := hf.more he 7 rfl (onT)
      replace hf := hf.more he 5 rfl (onT)
      replace hf := hf.more he 4 rfl (onT)
      replace hf := hf.more he 3 rfl (onT)
      replace hf := hf.more he 2 rfl (onT)
      replace hf := hf.more he 1 rfl (onT)
      replace hf := hf.more he 0 rfl (onT)
      exact ⟨hf.kp rfl,hc⟩
     rintro a w ⟨hf,hc⟩
     refine xThenN ?_
     obtain rfl := sj hF
     exact ⟨(some ⟨g_1,0,none⟩),c_7,(some ⟨g,0,none⟩),c_6,hf.kp rfl,hc⟩
   rintro a w ⟨p_8,c_8,p_9,c_9,hf,hc⟩
   refine h18 _ _ ?_
   refine rCond (b := rg) hf rfl (fun hb => ?_) (fun hb => ?_)
   ·replace hF := condT hb hF
    clear hb
    refine rSeq fun K19 h19 => ?_
    have hj19 : ∀ (x_4 : Int) a w,Has 70 a [(3,pq b_1),(6,pq b_2),(7,pq b_3),(8,.slice p_3 out.length c_3),(9,pq b_4),(10,pq b_5),(12,i6 xv_1),(18,i6 ((l.length : Nat) : Int)),(19,i6 x)] → Ctx G (.box b_5 [i6 x_4,i6 x_2] 38::.box b_4 [i6 x] 3::.row p_3 c_3 (out.map enc_api_Span) 38 2::.box b_3 [.slice p_8 r_1.length c_8] 81::.box b_2 [.slice p_9 r.length c_9] 81::.row p_8 c_8 (r_1.map encA_85) 85 601::.row p_9 c_9 (r.map encA_85) 85 601::.box b_1 [i6 most] 3::Lb) w → shift_can_j19 N xv_1 x_4 = some oq → K19 a w := by
     repeat (clear hF)
     repeat (clear hc)
     repeat (clear hf)
     intro x_4 a w hf hc hF
     unfold shift_can_j19 at hF
     refine h19 _ _ ?_
     refine rReg (fun _ _ h => h) rfl ?_
     refine sp 1 hf rfl fun a hf => zP hf rfl (pFA fa_38_1 rfl) fun a hf => zW hf hc sz_3 u0 rfl fun w hc => cNil ?_
     refine h17 _ _ ?_
     exact ⟨(x_4,xv_1),_,(sj hF).symm,⟨p_9,c_9,p_8,c_8,rfl⟩,hc⟩
    refine rSeq fun K20 h20 => rReg (fun _ _ h => h) rfl ?_
    refine zP hf rfl (pFA fa_38_0 rfl) fun a hf => zL hf hc sc_3 m0 rfl fun a w hf hc => zP hf rfl (pFA fa_38_1 rfl) fun a hf => zL hf hc sc_3 m0 rfl fun a w hf hc => sp 1 hf rfl fun a hf => cNil ?_
    refine h20 _ _ ?_
    refine rCond (b := (decide (x_2 < x_1))) hf rfl (fun hb => ?_) (fun hb => ?_)
    ·replace hF := condT hb hF
     clear hb
     refine rReg (fun _ _ h => h) rfl ?_
     refine sp 1 hf rfl fun a hf => zP hf rfl (pFA fa_38_0 rfl) fun a hf => zW hf hc sz_3 u0 rfl fun w hc => cNil ?_
     exact hj19 xv_1 _ _  (hf.kp rfl) hc hF
    ·replace hF := condF hb hF
     clear hb
     refine rSkip ?_
     exact hj19 x_1 _ _  (hf.kp rfl) hc hF
   ·replace hF := condF hb hF
    clear hb
    refine rSkip ?_
    refine h17 _ _ ?_
    exact ⟨(x_1,x_2),_,(sj hF).symm,⟨p_9,c_9,p_8,c_8,rfl⟩,hc⟩
  ·rintro D_1 ⟨x_1,x_2⟩ _ a w hsF ⟨p_6,c_6,p_7,c_7,rfl⟩ hf hc
   replace hf : Has ⟨70,markL (D_1::Ds)⟩ a [(3,pq b_1),(6,pq b_2),(7,pq b_3),(8,.slice p_3 out.length c_3),(9,pq b_4),(10,pq b_5),(18,i6 ((l.length : Nat) : Int)),(19,i6 x)] := hf.kp rfl
   replace hc : Ctx G (.box b_5 [i6 x_1,i6 x_2] 38::.box b_4 [i6 x] 3::.row p_3 c_3 (out.map enc_api_Span) 38 2::.box b_3 [.slice p_7 r_1.length c_7] 81::.box b_2 [.slice p_6 r.length c_6] 81::.row p_7 c_7 (r_1.map encA_85) 85 601::.row p_6 c_6 (r.map encA_85) 85 601::.box b_1 [i6 most] 3::(raws (D_1::Ds) ++ Lf)) w := rawsIn (C := []) (L := [.box b_5 [i6 x_1,i6 x_2] 38,.box b_4 [i6 x] 3,.row p_3 c_3 (out.map enc_api_Span) 38 2,.box b_3 [.slice p_7 r_1.length c_7] 81,.box b_2 [.slice p_6 r.length c_6] 81,.row p_7 c_7 (r_1.map encA_85) 85 601,.row p_6 c_6 (r.map encA_85) 85 601,.box b_1 [i6 most] 3]) hc
   replace hF : (cond (decide (x_2 < x_1)) (some (.ret (([] : List api_Span),false))) (Option.bind (room ((out ++ [(⟨x_1,x_2⟩ : api_Span)])).length) fun un_1 => some (.cont ((out ++ [(⟨x_1,x_2⟩ : api_Span)]),W (x + 1))))) = some st6 := by rcases hsF with rfl | rfl <;> exact hF
   refine h13 _ _ ?_
   refine wp_seq_k fun K21 h21 => zS fun K h => zP hf rfl (pFA fa_38_0 rfl) fun a hf => zL hf hc sc_3 m0 rfl fun a w hf hc => zP hf rfl (pFA fa_38_1 rfl) fun a hf => zL hf hc sc_3 m0 rfl fun a w hf hc => sp 1 hf rfl fun a hf => zT h ?_
   refine zI hf rfl hF ?_ ?_ <;> clear hF <;> intro hF
   ·refine zS fun K h => sp 2 hf rfl fun a hf => zT h ?_
    refine wp_ret ?_
    refine xThenR ?_
    refine xBlkR ?_
    refine xThenR ?_
    refine xThenR ?_
    have he := sj hF
    rw [← he] at hfin6
    replace hF := ho6 _ hfin6
    refine xBlkR ?_
    refine xThenR ?_
    obtain rfl := hF
    replace hc := hc.nilRow 38 2
    replace hc := (((((((hc.drop k8).drop k7).drop k6).drop k5).drop k4).drop k3).drop k2).drop k1
    refine outM hf ?_
    refine outML [.row none 0 [] 38 2] (D_1::Ds) hc fun w hc => ?_
    replace hc : Ctx G (.row none 0 [] 38 2::Lf) w := hc
    exact outM2 Try.results52 hf hc (show look _ 4 = _ from rfl) (show look _ 5 = _ from rfl) ⟨none,0,rfl,hc⟩
   ·refine wp_skip ?_
    refine h21 _ _ ?_
    refine cReg ?_
    refine sp 1 hf rfl fun a hf => zN hf hc ag_38 m0 rfl fun a w hf hc => stBS (rows := ([(⟨x_1,x_2⟩ : api_Span)] : List api_Span).map enc_api_Span) (vs := [(0,.agg #[i6 x_1,i6 x_2])]) hf hc rfl rfl sl_51 rfl ⟨rfl,rfl,rfl,trivial⟩ rfl rfl fun b_6 a w hf hc => ?_
    obtain ⟨un_1,hun_1,hF⟩ := bnd_some hF
    refine stApm (xs := out) (ys := ([(⟨x_1,x_2⟩ : api_Span)] : List api_Span)) hf hc rfl rfl sl_51 rfl rfl rfl rfl rfl one_enc_api_Span (src_row hc m0) (fun _ _ => u3) (by simpa using room_spec hun_1) fun p_10 c_10 a w hf hc => sp 1 hf rfl fun a hf => cNil ?_
    replace hc := ((hc.drop k2).drop k1).drop k0
    refine h10 _ _ ?_
    refine cReg ?_
    refine sp 2 hf rfl fun a hf => cNil ?_
    exact hK6 ((out ++ [(⟨x_1,x_2⟩ : api_Span)]),W (x + 1)) _ _ (sj hF).symm ⟨p_10,c_10,p_6,c_6,p_7,c_7,(D_1::Ds),hf.kp rfl,hc⟩
  ·rintro D_1 ⟨x_1,x_2⟩ _ a w hsF ⟨p_6,c_6,p_7,c_7,rfl⟩ hf hc
   replace hf : Has ⟨70,markL (D_1::Ds)⟩ a [(3,pq b_1),(6,pq b_2),(7,pq b_3),(8,.slice p_3 out.length c_3),(9,pq b_4),(10,pq b_5),(18,i6 ((l.length : Nat) : Int)),(19,i6 x)] := hf.kp rfl
   replace hc : Ctx G (.box b_5 [i6 x_1,i6 x_2] 38::.box b_4 [i6 x] 3::.row p_3 c_3 (out.map enc_api_Span) 38 2::.box b_3 [.slice p_7 r_1.length c_7] 81::.box b_2 [.slice p_6 r.length c_6] 81::.row p_7 c_7 (r_1.map encA_85) 85 601::.row p_6 c_6 (r.map encA_85) 85 601::.box b_1 [i6 most] 3::(raws (D_1::Ds) ++ Lf)) w := rawsIn (C := []) (L := [.box b_5 [i6 x_1,i6 x_2] 38,.box b_4 [i6 x] 3,.row p_3 c_3 (out.map enc_api_Span) 38 2,.box b_3 [.slice p_7 r_1.length c_7] 81,.box b_2 [.slice p_6 r.length c_6] 81,.row p_7 c_7 (r_1.map encA_85) 85 601,.row p_6 c_6 (r.map encA_85) 85 601,.box b_1 [i6 most] 3]) hc
   replace hF : (none) = some st6 := by subst hsF; exact hF
   cases hF
 ·refine wp_exit ?_
  refine xThen ?_
  refine xThen ?_
  have he := sj hF
  rw [← he] at hfin6
  refine cHit ?_
  exact hr6 _ _ _ hfin6 ⟨p_3,c_3,p_4,c_4,p_5,c_5,Ds,hf.kp rfl,hc⟩

def shift_Can (N : Nat) (r : shift_Record) (most : Int) : Option ((List api_Span) × Int) :=
 Option.bind (shift_opened N r) (sumK (fun r_0 => cond (r_0 != 0)
 (some (([] : List api_Span),r_0))
 (cond (!(shift_in most 0 18000))
 (some (([] : List api_Span),4))
 (none)))
 (fun r_1 => cond (r_1.2 != 0)
 (some (([] : List api_Span),r_1.2))
 (cond (!(shift_in most 0 18000))
 (some (([] : List api_Span),4))
 (Option.bind (shift_can N r_1.1 most) fun r_2 =>
 cond (!r_2.2)
 (some (([] : List api_Span),5))
 (some (r_2.1,0))))))
theorem shift_Can_ok {N : Nat} {G : Pers} {Lf : List Ent} {w : World} (r : shift_Record) (most : Int) {r_Rating_p : Option Addr} {r_Rating_c : Nat} {r_Gaugings_p : Option Addr} {r_Gaugings_c : Nat} (h_r_Rating : Rd G 2 r_Rating_p r_Rating_c (r.Rating.map enc_shift_Mark)) (h_r_Gaugings : Rd G 4 r_Gaugings_p r_Gaugings_c (r.Gaugings.map enc_shift_Gauging)) (hc : Ctx G (Lf) w) {res : (List api_Span) × Int} (hF : shift_Can N r most = some res) : Calls Try.prog 26 #[.agg #[.slice r_Rating_p r.Rating.length r_Rating_c,.slice r_Gaugings_p r.Gaugings.length r_Gaugings_c],i6 most] w (fun e w => ∃ (p'1 : Option Addr) (c'1 : Nat),e = .returned (.tuple #[.slice p'1 res.1.length c'1,i6 res.2]) ∧ Ctx G (.row p'1 c'1 (res.1.map enc_api_Span) 38 2::Lf) w) := by
 unfold shift_Can at hF
 refine fnIn Try.func26 rfl Try.ntmps26 rfl fun a hf => zS fun K h => zB hf hc rfl fun b_1 a w hf hc => sp 2 hf rfl fun a hf => zT h ?_
 refine zS fun K h => zN hf hc ag_29 m0 rfl fun a w hf hc => ?_
 obtain ⟨r_0,hr_0,hF⟩ := bnd_some hF
 cases r_0 with
 | inl r_0 =>
  replace hF := sumKl hF
  refine zC hf en_18 rfl (shift_opened_ok r h_r_Rating h_r_Gaugings hc hr_0) ?_
  rintro _ w ⟨rfl,hc⟩
  refine ⟨_,rfl,fun a hf => ?_⟩
  refine sp 5 hf rfl fun a hf => zT h ?_
  refine wp_seq_k fun K3 h3 => wp_block ?_
  refine zS fun K h => sp 3 hf rfl fun a hf => zT h ?_
  refine zI hf rfl hF ?_ ?_ <;> clear hF <;> intro hF
  ·refine zS fun K h => sp 3 hf rfl fun a hf => zT h ?_
   refine wp_ret ?_
   refine xBlkR ?_
   refine xThenR ?_
   obtain rfl := sj hF
   replace hc := hc.nilRow 38 2
   replace hc := hc.drop k1
   exact zO2 Try.results26 hf rfl rfl ⟨none,0,rfl,hc⟩
  ·refine zS fun K h => sp 1 hf rfl fun a hf => zQ (v := .bool (shift_in most 0 18000)) hf hc en_36 rfl (fun w hc => shift_in_ok most 0 18000 hc rfl) fun a w hf hc => sp 2 hf rfl fun a hf => zT h ?_
   refine zI hf rfl hF ?_ ?_ <;> clear hF <;> intro hF
   ·refine zS fun K h => sp 2 hf rfl fun a hf => zT h ?_
    refine wp_ret ?_
    refine xBlkR ?_
    refine xThenR ?_
    obtain rfl := sj hF
    replace hc := hc.nilRow 38 2
    replace hc := hc.drop k1
    exact zO2 Try.results26 hf rfl rfl ⟨none,0,rfl,hc⟩
   ·refine wp_skip ?_
    refine h3 _ _ ?_
    refine wp_seq_k fun K8 h8 => noneO hF
 | inr r_1 =>
  replace hF := sumKr hF
  have hr_1 := hr_0
  refine zC hf en_18 rfl (shift_opened_ok r h_r_Rating h_r_Gaugings hc hr_1) ?_
  rintro _ w ⟨b_2,p_1,c_1,rfl,hc⟩
  refine ⟨_,rfl,fun a hf => ?_⟩
  refine sp 5 hf rfl fun a hf => zT h ?_
  refine wp_seq_k fun K9 h9 => wp_block ?_
  refine zS fun K h => sp 3 hf rfl fun a hf => zT h ?_
  refine zI hf rfl hF ?_ ?_ <;> clear hF <;> intro hF
  ·refine zS fun K h => sp 3 hf rfl fun a hf => zT h ?_
   refine wp_ret ?_
   refine xBlkR ?_
   refine xThenR ?_
   obtain rfl := sj hF
   replace hc := hc.nilRow 38 2
   replace hc := ((hc.drop k3).drop k2).drop k1
   exact zO2 Try.results26 hf rfl rfl ⟨none,0,rfl,hc⟩
  ·refine zS fun K h => sp 1 hf rfl fun a hf => zQ (v := .bool (shift_in most 0 18000)) hf hc en_36 rfl (fun w hc => shift_in_ok most 0 18000 hc rfl) fun a w hf hc => sp 2 hf rfl fun a hf => zT h ?_
   refine zI hf rfl hF ?_ ?_ <;> clear hF <;> intro hF
   ·refine zS fun K h => sp 2 hf rfl fun a hf => zT h ?_
    refine wp_ret ?_
    refine xBlkR ?_
    refine xThenR ?_
    obtain rfl := sj hF
    replace hc := hc.nilRow 38 2
    replace hc := ((hc.drop k3).drop k2).drop k1
    exact zO2 Try.results26 hf rfl rfl ⟨none,0,rfl,hc⟩
   ·refine wp_skip ?_
    refine h9 _ _ ?_
    refine zS fun K h => sp 2 hf rfl fun a hf => zP hf rfl (pFA fa_80_1 rfl) fun a hf => zL hf hc sc_51 m1 rfl fun a w hf hc => sp 1 hf rfl fun a hf => ?_
    obtain ⟨r_2,hr_2,hF⟩ := bnd_some hF
    obtain ⟨G1,hle1,hrd1,hc,hth1⟩ := lend hc k0
    refine zC hf en_52 rfl (shift_can_ok r_1.1 most hrd1 hc hr_2) ?_
    rintro _ w ⟨p_2,c_2,rfl,hc⟩
    refine ⟨_,rfl,fun a hf => ?_⟩
    replace hc := hth1 _ _ hc
    refine sp 5 hf rfl fun a hf => zT h ?_
    refine wp_seq_k fun K15 h15 => zS fun K h => sp 2 hf rfl fun a hf => zT h ?_
    refine zI hf rfl hF ?_ ?_ <;> clear hF <;> intro hF
    ·refine zS fun K h => sp 2 hf rfl fun a hf => zT h ?_
     refine wp_ret ?_
     refine xThenR ?_
     obtain rfl := sj hF
     replace hc := hc.nilRow 38 2
     replace hc := (((hc.drop k4).drop k3).drop k2).drop k1
     exact zO2 Try.results26 hf rfl rfl ⟨none,0,rfl,hc⟩
    ·refine wp_skip ?_
     refine h15 _ _ ?_
     refine zS fun K h => sp 3 hf rfl fun a hf => zT h ?_
     refine wp_ret ?_
     obtain rfl := sj hF
     replace hc := ((hc.drop k3).drop k2).drop k0
     exact zO2 Try.results26 hf rfl rfl ⟨p_2,c_2,rfl,hc⟩

def slices_Insert_Lapi_Span_api_Span (N : Nat) (s_ : List api_Span) (i_ : Int) (v : List api_Span) : Option ((List api_Span)) :=
 insO s_ i_ v
/-! ### Walks of the library -/
section
open Go.RowKit Go.Lib
theorem iX53 : (Try.prog.info? 38).map (fun i => (i.zero,i.size,i.bytes)) = some (some (Value.agg #[i6 0,i6 0]),2,16) := by kernel_rfl
theorem soX53 : ∀ w : World,(Go.sizeOf 38).run Try.prog w = .ok 2 w := fun w => by
 obtain ⟨i0,hi0,hz0,hz1,hz2⟩ := info_parts iX53
 simp [Go.sizeOf,typeInfo,hi0,hz1]
theorem szX53 : (Try.prog.info? 38).map (·.size) = some 2 := by kernel_rfl
set_option maxHeartbeats 4000000 in
set_option maxRecDepth 1000000 in
theorem ins_shift53 (b n c i vb m vc : Nat) (cs vs : List Value) (w : World) (hi : i < n) (hm : 0 < m) (hroom : n + m ≤ c) (hc63 : c ≤ 9223372036854775807) (hvb : vb ≠ b)
  (hcl : cs.length = n * 2) (hvl : vs.length = m * 2)
  (hcs : ∀ j v,cs[j]? = some v → w.cell? ⟨b,j,none⟩ = some v) (hsp : ∀ j,j < (n + m) * 2 → (w.cell? ⟨b,j,none⟩).isSome = true) (hfz : ∀ j,j < (n + m) * 2 → w.frozen? ⟨b,j,none⟩ = false)
  (hvs : ∀ j v,vs[j]? = some v → w.cell? ⟨vb,j,none⟩ = some v) (h1c : ∀ v ∈ cs,v.oneCell' = true) (h1v : ∀ v ∈ vs,v.oneCell' = true)
  (tA tB : TypeId) (kA kB : Nat) (hsa : w.shape? vb = some (tA,kA)) (hsb : w.shape? b = some (tB,kB)) (hkB : kB ≠ 0) (hfa : w.frozen? ⟨vb,0,none⟩ = false) (hfe : w.frozen? ⟨vb,kA,none⟩ = false) :
  Calls Try.prog 53 #[.slice (some ⟨b,0,none⟩) n c,i6 i,.slice (some ⟨vb,0,none⟩) m vc] w fun e w' =>
   e = .returned (.slice (some ⟨b,0,none⟩) (n + m) c) ∧ w' = (w.drew.setCells b ((i + m) * 2) (cs.drop (i * 2))).setCells b (i * 2) vs := by
 have hz1 : ¬ ((m : Int) = 0) := by omega
 have hz2 : ¬ ((i : Int) = (n : Int)) := by omega
 have hov : ∀ lb cb,(callFunc 70 #[.slice (some ⟨vb,0,none⟩) m vc,.slice (some ⟨b,(i + m) * 2,none⟩) lb cb]).run Try.prog w = .ok (.value (.bool false)) w := fun lb cb => by
  rw [run_callFunc_extern Try.func70 (by kernel_rfl) (by kernel_rfl) (by kernel_rfl) (e := Extern.SlicesOverlaps.overlaps #[51,51] #[4]) (by kernel_rfl),
   Lib.run_overlaps_apart w 51 4 38 Try.underlying51 2 soX53 ⟨vb,0,none⟩ ⟨b,(i + m) * 2,none⟩ m vc lb cb hvb tA tB kA kB hsa hsb hkB hfa hfe]
  rfl
 have hdl : (cs.drop (i * 2)).length = (n - i) * 2 := by rw [List.length_drop,hcl]; omega
 have hw1 : IntKind.i64.wrap ((i : Int) + (m : Int)) = (i : Int) + (m : Int) := by rw [IntKind.wrap_i64]; omega
 have hb1 : (0 : Int) ≤ (i : Int) + (m : Int) := by omega
 have hin : i ≤ n := by omega
 have htn : ((i : Int) + (m : Int)).toNat = i + m := by omega
 have hb2 : ¬ (c = i + m) := by omega
 have hb3 : (i : Int) ≤ (n : Int) + (m : Int) := by omega
 have hb4 : ¬ (c = i) := by omega
 have hmin1 : Nat.min (n + m - i) (n + m - (i + m)) = n - i := by simp only [Nat.min_def]; split <;> omega
 have hmin2 : Nat.min m (n + m - i) = m := by simp only [Nat.min_def]; split <;> omega
 have hcp1 : ∀ ty dc sc,(Builtin.copy_ #[51,51] ty #[.slice (some ⟨b,(i + m) * 2,none⟩) (n + m - (i + m)) dc,.slice (some ⟨b,i * 2,none⟩) (n + m - i) sc]).run Try.prog w.drew = .ok (goInt (Nat.min (n + m - i) (n + m - (i + m)))) (w.drew.setCells b ((i + m) * 2) (cs.drop (i * 2))) := fun ty dc sc =>
  Go.Nilo.run_copy_rows w.drew _ _ ty 38 b ((i + m) * 2) (n + m - (i + m)) dc ⟨b,i * 2,none⟩ (n + m - i) sc 2 (cs.drop (i * 2)) Try.underlying51 szX53 (by rw [hdl,hmin1])
   (fun j v hj => by rw [Addr.add_lit]; exact hcs (i * 2 + j) v (by rwa [List.getElem?_drop] at hj))
   (fun j hj => hsp _ (by omega)) (fun j hj => hfz _ (by omega)) (fun v hv => h1c v (List.mem_of_mem_drop hv))
 obtain ⟨W1,hW1⟩ : ∃ W1,W1 = w.drew.setCells b ((i + m) * 2) (cs.drop (i * 2)) := ⟨_,rfl⟩
 have hsp1 : ∀ k,k < (n + m) * 2 → (W1.cell? ⟨b,k,none⟩).isSome = true := fun k hk => by
  rw [hW1]
  exact Go.Proofs.isSome_setCells b (cs.drop (i * 2)) ((i + m) * 2) w.drew (fun j hj => hsp _ (by omega)) _ (hsp k hk)
 have hcp2 : ∀ (W : World),(∀ x,W.cell? x = W1.cell? x) → (∀ x,W.frozen? x = W1.frozen? x) → ∀ ty dc,(Builtin.copy_ #[51,51] ty #[.slice (some ⟨b,i * 2,none⟩) (n + m - i) dc,.slice (some ⟨vb,0,none⟩) m vc]).run Try.prog W = .ok (goInt (Nat.min m (n + m - i))) (W.setCells b (i * 2) vs) := fun W hWc hWf ty dc =>
  Go.Nilo.run_copy_rows W _ _ ty 38 b (i * 2) (n + m - i) dc ⟨vb,0,none⟩ m vc 2 vs Try.underlying51 szX53 (by rw [hvl,hmin2])
   (fun j v hj => by
    rw [Addr.add_lit,hWc,hW1,World.cell?_setCells_out b _ _ _ _ (fun h _ => absurd h hvb),Nat.zero_add]
    exact hvs j v hj)
   (fun j hj => by rw [hWc]; exact hsp1 _ (by omega)) (fun j hj => by rw [hWf,hW1,World.frozen?_setCells]; exact hfz _ (by omega)) h1v
 rw [← hW1] at hcp1
 clear hmin1 hmin2
 go_enter Try.func53,Try.ntmps53
 go_wp2_with (simp only [hov])
 go_region_law (refine Go.Proofs.step_copy_runI rfl _ _ 51 51 rfl _ _ (by simp [Act.eval,Act.put]) (by simp [Act.eval,Act.put]) (hcp1 _ _ _) ?_)
 go_wp2_with (at_builtin; refine Go.Proofs.wpList_copy_runI _ rfl _ _ 51 51 rfl _ _ rfl rfl (hcp2 _ (fun _ => rfl) (fun _ => rfl) _ _) ?_)
 go_ret
 first | exact ⟨rfl,rfl⟩ | exact ⟨rfl,by rw [hW1]⟩

set_option maxHeartbeats 4000000 in
set_option maxRecDepth 1000000 in
theorem ins_grow53 (b n c i vb m vc : Nat) (cs vs : List Value) (w : World) (hi : i < n) (hm : 0 < m) (hnc : n ≤ c) (hroom : c < n + m) (hbig : (n + m) * 16 ≤ 140737488355328)
  (hcl : cs.length = n * 2) (hvl : vs.length = m * 2)
  (hcs : ∀ j v,cs[j]? = some v → w.cell? ⟨b,j,none⟩ = some v)
  (hvs : ∀ j v,vs[j]? = some v → w.cell? ⟨vb,j,none⟩ = some v) (h1c : ∀ v ∈ cs,v.oneCell' = true) (h1v : ∀ v ∈ vs,v.oneCell' = true) (hbw : b < w.heap.size) (hvw : vb < w.heap.size) :
  Calls Try.prog 53 #[.slice (some ⟨b,0,none⟩) n c,i6 i,.slice (some ⟨vb,0,none⟩) m vc] w fun e w' =>
   e = .returned (.slice (some ⟨w.heap.size,0,none⟩) (n + m) (grownCap w (n + m) c 38)) ∧
   w' = (((w.alloc (.cells ((cs.take (i * 2)).toArray ++ Builtin.zeroCells (Value.agg #[i6 0,i6 0]).cells (n + m - i) ++ Builtin.zeroCells (Value.agg #[i6 0,i6 0]).cells (grownCap w (n + m) c 38 - (n + m))) 38)).drew.setCells w.heap.size (i * 2) vs).drew).setCells w.heap.size ((i + m) * 2) (cs.drop (i * 2)) := by
 obtain ⟨i0,hi0,hz0,hzs,hzb⟩ := info_parts iX53
 have hz1 : ¬ ((m : Int) = 0) := by omega
 have hz2 : ¬ ((i : Int) = (n : Int)) := by omega
 have hz3 : (c : Int) < (n : Int) + (m : Int) := by omega
 have hkk : (n : Int) + (m : Int) - (i : Int) = ((n + m - i : Nat) : Int) := by omega
 have hik : i + (n + m - i) = n + m := by omega
 have hold : (Builtin.firstCells i0.size i (.slice (some ⟨b,0,none⟩) i c)).run Try.prog w.drew = .ok (cs.take (i * 2)).toArray w.drew := by
  rw [hzs]
  exact run_firstCells_some w.drew 2 i ⟨b,0,none⟩ i c (cs.take (i * 2)) (by rw [List.length_take]; omega) (fun j v hj => by
   rw [Addr.add_lit]
   rw [List.getElem?_take] at hj
   split at hj
   ·rw [Nat.zero_add]; exact hcs j v hj
   ·cases hj)
 have hrz : ∀ ty,(Builtin.append_ #[51,3] ty #[.slice (some ⟨b,0,none⟩) i c,i6 ((n : Int) + (m : Int) - (i : Int))]).run Try.prog w =
   .ok (.slice (some ⟨w.heap.size,0,none⟩) (n + m) (grownCap w (n + m) c 38)) (w.drew.alloc (.cells ((cs.take (i * 2)).toArray ++ Builtin.zeroCells (Value.agg #[i6 0,i6 0]).cells (n + m - i) ++ Builtin.zeroCells (Value.agg #[i6 0,i6 0]).cells (grownCap w (n + m) c 38 - (n + m))) 38)) := fun ty => by
  have h := Lib.run_append_grow_zeros w 51 3 ty 38 i0 _ .i64 .i64 Try.underlying51 Try.underlying3 hi0 hz0 (some ⟨b,0,none⟩) i c (cs.take (i * 2)) hold (n + m - i) (by omega) (by omega) (by omega) (by omega) (by rw [hzb]; omega) (by rw [hzb,hik]; exact growslice_fits hroom hbig)
  rw [hik] at h
  rw [hkk]
  exact h
 obtain ⟨G,hG⟩ : ∃ G,G = grownCap w (n + m) c 38 := ⟨_,rfl⟩
 obtain ⟨ROW,hROW⟩ : ∃ ROW : Array Value,ROW = (cs.take (i * 2)).toArray ++ Builtin.zeroCells (Value.agg #[i6 0,i6 0]).cells (n + m - i) ++ Builtin.zeroCells (Value.agg #[i6 0,i6 0]).cells (G - (n + m)) := ⟨_,rfl⟩
 rw [← hG] at hrz ⊢
 rw [← hROW] at hrz ⊢
 have hRl : (n + m) * 2 ≤ ROW.size := by
  rw [hROW,Array.size_append,Array.size_append,size_zeroCells,size_zeroCells,List.size_toArray,List.length_take]
  have : (Value.agg #[i6 0,i6 0]).cells.size = 2 := by decide
  rw [this]
  omega
 obtain ⟨W1,hW1⟩ : ∃ W1,W1 = w.drew.alloc (.cells ROW 38) := ⟨_,rfl⟩
 rw [← hW1] at hrz
 have hN : ∀ j,j < (n + m) * 2 → (W1.cell? ⟨w.heap.size,j,none⟩).isSome = true := fun j hj => by
  rw [hW1,World.cell?_alloc_at (w := w.drew) ROW _ w.heap.size j rfl,Array.getElem?_eq_getElem (by omega)]; rfl
 have hNf : ∀ j,W1.frozen? ⟨w.heap.size,j,none⟩ = false := fun j => by rw [hW1]; exact World.frozen?_alloc_at (w := w.drew) ROW _ w.heap.size j rfl
 have hOb : ∀ j v,w.cell? ⟨b,j,none⟩ = some v → W1.cell? ⟨b,j,none⟩ = some v := fun j v h => by rw [hW1,World.cell?_alloc_past (w := w.drew) _ b j hbw]; exact h
 have hOv : ∀ j v,w.cell? ⟨vb,j,none⟩ = some v → W1.cell? ⟨vb,j,none⟩ = some v := fun j v h => by rw [hW1,World.cell?_alloc_past (w := w.drew) _ vb j hvw]; exact h
 have hmin1 : Nat.min m (n + m - i) = m := by simp only [Nat.min_def]; split <;> omega
 have hmin2 : Nat.min (n - i) (n + m - (i + m)) = n - i := by simp only [Nat.min_def]; split <;> omega
 have hcpA : ∀ (W : World),(∀ x,W.cell? x = W1.cell? x) → (∀ x,W.frozen? x = W1.frozen? x) → ∀ ty dc,(Builtin.copy_ #[51,51] ty #[.slice (some ⟨w.heap.size,i * 2,none⟩) (n + m - i) dc,.slice (some ⟨vb,0,none⟩) m vc]).run Try.prog W = .ok (goInt (Nat.min m (n + m - i))) (W.setCells w.heap.size (i * 2) vs) := fun W hWc hWf ty dc =>
  Go.Nilo.run_copy_rows W _ _ ty 38 w.heap.size (i * 2) (n + m - i) dc ⟨vb,0,none⟩ m vc 2 vs Try.underlying51 szX53 (by rw [hvl,hmin1])
   (fun j v hj => by rw [Addr.add_lit,hWc,Nat.zero_add]; exact hOv _ v (hvs j v hj))
   (fun j hj => by rw [hWc]; exact hN _ (by omega)) (fun j hj => by rw [hWf]; exact hNf _) h1v
 have hGn : n + m ≤ G := by rw [hG]; exact grownCap_ge w _ _ _
 have hG63 : G ≤ 9223372036854775807 := by
  have := grownCap_le_maxLen w (n + m) c 38 (by unfold maxLen; omega)
  rw [← hG] at this
  unfold maxLen at this
  omega
 have hGi : ¬ (G = i) := by omega
 have hGim : ¬ (G = i + m) := by omega
 have hci : ¬ (c = i) := by omega
 have hbN : b ≠ w.heap.size := by omega
 have hdl : (cs.drop (i * 2)).length = (n - i) * 2 := by rw [List.length_drop,hcl]; omega
 have hcpB : ∀ (W : World),(∀ x,W.cell? x = (W1.setCells w.heap.size (i * 2) vs).cell? x) → (∀ x,W.frozen? x = (W1.setCells w.heap.size (i * 2) vs).frozen? x) → ∀ ty dc sc,(Builtin.copy_ #[51,51] ty #[.slice (some ⟨w.heap.size,(i + m) * 2,none⟩) (n + m - (i + m)) dc,.slice (some ⟨b,i * 2,none⟩) (n - i) sc]).run Try.prog W = .ok (goInt (Nat.min (n - i) (n + m - (i + m)))) (W.setCells w.heap.size ((i + m) * 2) (cs.drop (i * 2))) := fun W hWc hWf ty dc sc =>
  Go.Nilo.run_copy_rows W _ _ ty 38 w.heap.size ((i + m) * 2) (n + m - (i + m)) dc ⟨b,i * 2,none⟩ (n - i) sc 2 (cs.drop (i * 2)) Try.underlying51 szX53 (by rw [hdl,hmin2])
   (fun j v hj => by
    rw [Addr.add_lit,hWc,World.cell?_setCells_out _ _ _ _ _ (fun h _ => absurd h hbN)]
    exact hOb _ v (hcs (i * 2 + j) v (by rwa [List.getElem?_drop] at hj)))
   (fun j hj => by rw [hWc]; exact Go.Proofs.isSome_setCells _ vs _ _ (fun t ht => hN _ (by omega)) _ (hN _ (by omega)))
   (fun j hj => by rw [hWf,World.frozen?_setCells]; exact hNf _) (fun v hv => h1c v (List.mem_of_mem_drop hv))
 subst hW1
 have hE1 : ∀ x,((w.alloc (.cells ROW 38)).drew).cell? x = (w.drew.alloc (.cells ROW 38)).cell? x := fun x => rfl
 have hE2 : ∀ x,((w.alloc (.cells ROW 38)).drew).frozen? x = (w.drew.alloc (.cells ROW 38)).frozen? x := fun x => rfl
 have hF1 : ∀ x,(((w.alloc (.cells ROW 38)).drew.setCells w.heap.size (i * 2) vs).drew).cell? x = ((w.drew.alloc (.cells ROW 38)).setCells w.heap.size (i * 2) vs).cell? x := fun x => rfl
 have hF2 : ∀ x,(((w.alloc (.cells ROW 38)).drew.setCells w.heap.size (i * 2) vs).drew).frozen? x = ((w.drew.alloc (.cells ROW 38)).setCells w.heap.size (i * 2) vs).frozen? x := fun x => rfl
 have hw1 : IntKind.i64.wrap ((i : Int) + (m : Int)) = (i : Int) + (m : Int) := by rw [IntKind.wrap_i64]; omega
 have hb1 : (0 : Int) ≤ (i : Int) + (m : Int) := by omega
 have hin : i ≤ n := by omega
 have htn : ((i : Int) + (m : Int)).toNat = i + m := by omega
 have hb3 : (i : Int) ≤ (n : Int) := by omega
 clear hkk hik hold hROW hG hRl hmin1 hmin2
 go_enter Try.func53,Try.ntmps53
 go_wp2_with (first
  | (at_builtin; refine Lib.wpList_append_run _ rfl _ _ _ _ rfl _ _ rfl rfl _ _ (hrz _) ?_)
  | (at_builtin; refine Go.Proofs.wpList_copy_runI _ rfl _ _ 51 51 rfl _ _ rfl rfl (hcpA _ hE1 hE2 _ _) ?_)
  | (at_builtin; refine Go.Proofs.wpList_copy_runI _ rfl _ _ 51 51 rfl _ _ rfl rfl (hcpB _ (fun _ => rfl) (fun _ => rfl) _ _ _) ?_))
 go_region_law (refine Go.Proofs.step_copy_runI rfl _ _ 51 51 rfl (.slice (some ⟨w.heap.size,(i + m) * 2,none⟩) (n + m - (i + m)) (G - (i + m))) (.slice (some ⟨b,i * 2,none⟩) (n - i) (c - i)) (by simp [Act.eval,Act.put]) (by simp [Act.eval,Act.put]) (hcpB _ hF1 hF2 3 (G - (i + m)) (c - i)) ?_)
 go_wp2
 go_ret
 exact ⟨rfl,rfl⟩

set_option maxHeartbeats 4000000 in
set_option maxRecDepth 1000000 in
theorem ins_end53 (p : Option Addr) (n cap : Nat) (q : Option Addr) (m vc : Nat) (w w' : World) (r : Value) (hm : 0 < m) (hn : n ≤ cap) (hc63 : cap ≤ 9223372036854775807)
  (hr : ∀ ty,(Builtin.append_ #[51,51] ty #[.slice p n cap,.slice q m vc]).run Try.prog w = .ok r w') :
  Calls Try.prog 53 #[.slice p n cap,i6 n,.slice q m vc] w fun e w2 => e = .returned r ∧ w2 = w' := by
 have hz1 : ¬ ((m : Int) = 0) := by omega
 go_enter Try.func53,Try.ntmps53
 go_wp2_with (at_builtin; refine Lib.wpList_append_run _ rfl _ _ _ _ rfl _ _ rfl rfl _ _ (hr _) ?_)
 all_goals (go_ret; exact ⟨rfl,rfl⟩)
end

theorem slices_Insert_Lapi_Span_api_Span_ok {N : Nat} {G : Pers} {Lf : List Ent} {w : World} (s_ : List api_Span) (i_ : Int) (v : List api_Span) {s__p : Option Addr} {s__c : Nat} {v_p : Option Addr} {v_c : Nat}  (hc : Ctx G (.row s__p s__c (s_.map enc_api_Span) 38 2::.row v_p v_c (v.map enc_api_Span) 38 2::Lf) w) {res : (List api_Span)} (hF : slices_Insert_Lapi_Span_api_Span N s_ i_ v = some res) : Calls Try.prog 53 #[.slice s__p s_.length s__c,i6 i_,.slice v_p v.length v_c] w (fun e w => ∃ (p'1 : Option Addr) (c'1 : Nat),e = .returned (.slice p'1 res.length c'1) ∧ Ctx G (.row p'1 c'1 (res.map enc_api_Span) 38 2::.row v_p v_c (v.map enc_api_Span) 38 2::Lf) w) := by
 unfold slices_Insert_Lapi_Span_api_Span at hF
 exact insert_ctx (ty0 := 0) sl_51 (by decide) one_enc_api_Span (fun p n cap q m vc w w' r h1 h2 h3 h4 => ins_end53 p n cap q m vc w w' r h1 h2 h3 h4) (fun _ _ _ _ => rfl) (fun b n c i vb m vc cs vs w h1 h2 h3 h4 h5 h6 h7 h8 h9 h10 h11 h12 h13 tA tB kA kB h14 h15 h16 h17 h18 => ins_shift53 b n c i vb m vc cs vs w h1 h2 h3 h4 h5 h6 h7 h8 h9 h10 h11 h12 h13 tA tB kA kB h14 h15 h16 h17 h18) (fun b n c i vb m vc cs vs w h1 h2 h3 h4 h5 h6 h7 h8 h9 h10 h11 h12 h13 => ins_grow53 b n c i vb m vc cs vs w h1 h2 h3 h4 h5 h6 h7 h8 h9 h10 h11 h12 h13) hc hF

def shift_Between_j16 (N : Nat) (x : Int) (ahead_1 : Int) (mp_1 : Int → Option Int) : Option (Step (Int × Int × (Int → Option Int)) (api_Span × Int)) :=
 some (.cont (ahead_1,W (x + 1),mp_1))
def shift_Between_b12 (N : Nat) (r : shift_Record) (day : Int) (ahead : Int) (x : Int) (mp : Int → Option Int) : Option (Step (Int × Int × (Int → Option Int)) (api_Span × Int)) :=
 cond (decide (x < ((r.Gaugings.length : Nat) : Int)))
 (Option.bind (getI r.Gaugings x) fun e_1 =>
 cond (decide (e_1.Day < day))
 (shift_Between_j16 N x (W (x + 1)) (setM mp e_1.Day x))
 (shift_Between_j16 N x ahead (setM mp e_1.Day x)))
 (some (.brk (ahead,x,mp)))
def shift_Between_j31 (N : Nat) (r : shift_Record) (most : Int) (at_ : Int) (ahead_2 : Int) (l : List api_Span) : Option (api_Span × Int) :=
 Option.bind (shift_can N l most) fun r_2 =>
 cond (!r_2.2)
 (some ((⟨0,0⟩ : api_Span),5))
 (Option.bind (getI r_2.1 ahead_2) fun e_2 =>
 Option.bind (shift_means N r.Rating (W (at_ - e_2.Hi))) fun r_3 =>
 Option.bind (getI r_2.1 ahead_2) fun e_3 =>
 Option.bind (shift_means N r.Rating (W (at_ - e_3.Lo))) fun r_4 =>
 Option.bind (nz r_3.D) fun un =>
 Option.bind (nz r_4.D) fun un_1 =>
 some ((⟨W (r_3.N.tdiv r_3.D),W ((W ((W (r_4.N + r_4.D)) - 1)).tdiv r_4.D)⟩ : api_Span),0))
def shift_Between_j42 (N : Nat) (x_1 : Int) (ahead_3 : Int) (mp_3 : Int → Option Int) : Option (Step (Int × Int × (Int → Option Int)) (api_Span × Int)) :=
 some (.cont (ahead_3,W (x_1 + 1),mp_3))
def shift_Between_b29 (N : Nat) (r : shift_Record) (day : Int) (ahead_2 : Int) (x_1 : Int) (mp_2 : Int → Option Int) : Option (Step (Int × Int × (Int → Option Int)) (api_Span × Int)) :=
 cond (decide (x_1 < ((r.Gaugings.length : Nat) : Int)))
 (Option.bind (getI r.Gaugings x_1) fun e_4 =>
 cond (decide (e_4.Day < day))
 (shift_Between_j42 N x_1 (W (x_1 + 1)) (setM mp_2 e_4.Day x_1))
 (shift_Between_j42 N x_1 ahead_2 (setM mp_2 e_4.Day x_1)))
 (some (.brk (ahead_2,x_1,mp_2)))
def shift_Between (N : Nat) (r : shift_Record) (most : Int) (day : Int) (at_ : Int) : Option (api_Span × Int) :=
 Option.bind (shift_opened N r) (sumK (fun r_0 => cond (r_0 != 0)
 (some ((⟨0,0⟩ : api_Span),r_0))
 (cond (((!(shift_in most 0 18000)) || (!(shift_in day 0 40000))) || (!(shift_stage at_)))
 (some ((⟨0,0⟩ : api_Span),4))
 (Option.bind (loopO (fun s12 => shift_Between_b12 N r day s12.1 s12.2.1 s12.2.2) N (0,0,(fun _ => none : Int → Option Int))) fun x12 =>
 exK x12 (fun s12 => none) some)))
 (fun r_1 => cond (r_1.2 != 0)
 (some ((⟨0,0⟩ : api_Span),r_1.2))
 (cond (((!(shift_in most 0 18000)) || (!(shift_in day 0 40000))) || (!(shift_stage at_)))
 (some ((⟨0,0⟩ : api_Span),4))
 (Option.bind (loopO (fun s29 => shift_Between_b29 N r day s29.1 s29.2.1 s29.2.2) N (0,0,(fun _ => none : Int → Option Int))) fun x29 =>
 exK x29 (fun s29 => cond (!((s29.2.2 day).isSome))
 (Option.bind (slices_Clone_Lapi_Span_api_Span N r_1.1) fun r_5 =>
 Option.bind (slices_Insert_Lapi_Span_api_Span N r_5 s29.1 ([(⟨(-300),300⟩ : api_Span)] : List api_Span)) fun r_6 =>
 shift_Between_j31 N r most at_ s29.1 r_6)
 (shift_Between_j31 N r most at_ s29.1 r_1.1)) some))))
theorem shift_Between_ok {N : Nat} {G : Pers} {Lf : List Ent} {w : World} (r : shift_Record) (most : Int) (day : Int) (at_ : Int) {r_Rating_p : Option Addr} {r_Rating_c : Nat} {r_Gaugings_p : Option Addr} {r_Gaugings_c : Nat} (h_r_Rating : Rd G 2 r_Rating_p r_Rating_c (r.Rating.map enc_shift_Mark)) (h_r_Gaugings : Rd G 4 r_Gaugings_p r_Gaugings_c (r.Gaugings.map enc_shift_Gauging)) (hc : Ctx G (Lf) w) {res : api_Span × Int} (hF : shift_Between N r most day at_ = some res) : Calls Try.prog 27 #[.agg #[.slice r_Rating_p r.Rating.length r_Rating_c,.slice r_Gaugings_p r.Gaugings.length r_Gaugings_c],i6 most,i6 day,i6 at_] w (fun e w => e = .returned (.tuple #[.agg #[i6 res.1.Lo,i6 res.1.Hi],i6 res.2]) ∧ Ctx G (Lf) w) := by
 unfold shift_Between at hF
 refine fnIn Try.func27 rfl Try.ntmps27 rfl fun a hf => zS fun K h => zB hf hc rfl fun b_1 a w hf hc => zA hf hc zr_38 rfl fun b_2 a w hf hc => sp 1 hf rfl fun a hf => zT h ?_
 refine zS fun K h => zN hf hc ag_29 m1 rfl fun a w hf hc => ?_
 obtain ⟨r_0,hr_0,hF⟩ := bnd_some hF
 cases r_0 with
 | inl r_0 =>
  replace hF := sumKl hF
  refine zC hf en_18 rfl (shift_opened_ok r h_r_Rating h_r_Gaugings hc hr_0) ?_
  rintro _ w ⟨rfl,hc⟩
  refine ⟨_,rfl,fun a hf => ?_⟩
  refine sp 5 hf rfl fun a hf => zT h ?_
  refine wp_seq_k fun K3 h3 => wp_block ?_
  refine zS fun K h => sp 3 hf rfl fun a hf => zT h ?_
  refine zI hf rfl hF ?_ ?_ <;> clear hF <;> intro hF
  ·refine zS fun K h => zP hf rfl (pBuildS (cells := [i6 0,i6 0]) bt_38 rfl rfl) fun a hf => sp 1 hf rfl fun a hf => zW hf hc sz_38 u0 rfl fun w hc => sp 1 hf rfl fun a hf => zT h ?_
   refine wp_ret ?_
   refine xBlkR ?_
   refine xThenR ?_
   obtain rfl := sj hF
   replace hc := hc.drop k1
   exact fnOut2 (by simp) rfl Try.results27 hf hc (rv_cellN (vs := [i6 0,i6 0]) ag_38 rfl rfl (cells_box (n := 2) m0 rfl)) (show look _ 9 = _ from rfl) ⟨rfl,(hc.drop k0)⟩
  ·refine zS fun K h => sp 1 hf rfl fun a hf => zQ (v := .bool (shift_in most 0 18000)) hf hc en_36 rfl (fun w hc => shift_in_ok most 0 18000 hc rfl) fun a w hf hc => sp 2 hf rfl fun a hf => stCc 4 (fun a => Has 130 a [(1,i6 most),(2,i6 day),(3,i6 at_),(4,pq b_1),(8,pq b_2),(10,.pointer none),(34,i6 most),(35,.bool (shift_in most 0 18000)),(36,.bool (!(shift_in most 0 18000))),(37,.bool (!(shift_in most 0 18000))),(41,.bool ((!(shift_in most 0 18000)) || (!(shift_in day 0 40000))))]) hc ?_ ?_
   ·cases hb : (!(shift_in most 0 18000))
    ·rw [hb] at hf
     refine sp 1 hf rfl fun a hf => zQ (v := .bool (shift_in day 0 40000)) hf hc en_36 rfl (fun w hc => shift_in_ok day 0 40000 hc rfl) fun a w hf hc => sp 2 hf rfl fun a hf => cNil ⟨hf.kp rfl,hc⟩
    ·rw [hb] at hf
     refine stS hf rfl rfl rfl fun a hf => stS hf rfl rfl rfl fun a hf => stS hf rfl rfl rfl fun a hf => sp 1 hf rfl fun a hf => cNil ⟨hf.kp rfl,hc⟩
   intro a w ⟨hf,hc⟩
   refine sp 1 hf rfl fun a hf => stCc 4 (fun a => Has 130 a [(1,i6 most),(2,i6 day),(3,i6 at_),(4,pq b_1),(8,pq b_2),(10,.pointer none),(34,i6 most),(35,.bool (shift_in most 0 18000)),(36,.bool (!(shift_in most 0 18000))),(37,.bool (!(shift_in most 0 18000))),(41,.bool ((!(shift_in most 0 18000)) || (!(shift_in day 0 40000)))),(42,.bool ((!(shift_in most 0 18000)) || (!(shift_in day 0 40000)))),(46,.bool (((!(shift_in most 0 18000)) || (!(shift_in day 0 40000))) || (!(shift_stage at_))))]) hc ?_ ?_
   ·cases hb : ((!(shift_in most 0 18000)) || (!(shift_in day 0 40000)))
    ·rw [hb] at hf
     refine sp 1 hf rfl fun a hf => zQ (v := .bool (shift_stage at_)) hf hc en_35 rfl (fun w hc => shift_stage_ok at_ hc rfl) fun a w hf hc => sp 2 hf rfl fun a hf => cNil ⟨hf.kp rfl,hc⟩
    ·rw [hb] at hf
     refine stS hf rfl rfl rfl fun a hf => stS hf rfl rfl rfl fun a hf => stS hf rfl rfl rfl fun a hf => sp 1 hf rfl fun a hf => cNil ⟨hf.kp rfl,hc⟩
   intro a w ⟨hf,hc⟩
   refine sp 1 hf rfl fun a hf => zT h ?_
   refine zI hf rfl hF ?_ ?_ <;> clear hF <;> intro hF
   ·refine zS fun K h => zP hf rfl (pBuildS (cells := [i6 0,i6 0]) bt_38 rfl rfl) fun a hf => zW hf hc sz_38 u0 rfl fun w hc => sp 1 hf rfl fun a hf => zT h ?_
    refine wp_ret ?_
    refine xBlkR ?_
    refine xThenR ?_
    obtain rfl := sj hF
    replace hc := hc.drop k1
    exact fnOut2 (by simp) rfl Try.results27 hf hc (rv_cellN (vs := [i6 0,i6 0]) ag_38 rfl rfl (cells_box (n := 2) m0 rfl)) (show look _ 9 = _ from rfl) ⟨rfl,(hc.drop k0)⟩
   ·refine wp_skip ?_
    refine h3 _ _ ?_
    refine zS fun K h => stMM hf hc rfl rfl fun mb a w hf hc => ?_
    replace hc : Ctx _ (.im mb (fun j => ((fun _ => none : Int → Option Int) j).map (Value.int .i64)) none::_) w := hc
    refine sp 1 hf rfl fun a hf => zT h ?_
    refine zS fun K h => sp 1 hf rfl fun a hf => zT h ?_
    refine wp_seq_k fun K10 h10 => zS fun K h => zP hf rfl (pFA fa_29_1 rfl) fun a hf => zL hf hc sc_27 m2 rfl fun a w hf hc => zP hf rfl (pLenS Try.underlying27 rfl) fun a hf => sp 1 hf rfl fun a hf => zT h ?_
    refine wp_block ?_
    obtain ⟨x12,hx12,hF⟩ := bnd_some hF
    let S12 : (Int × Int × (Int → Option Int)) → Act → World → Prop := (fun (zz : Int × Int × (Int → Option Int)) a w => Has 130 a [(1,i6 most),(2,i6 day),(3,i6 at_),(4,pq b_1),(8,pq b_2),(10,.pointer none),(12,.map (some mb)),(13,i6 zz.1),(50,.slice r_Gaugings_p r.Gaugings.length r_Gaugings_c),(51,i6 ((r.Gaugings.length : Nat) : Int)),(52,i6 zz.2.1)] ∧ Ctx G (.im mb (fun j => (zz.2.2 j).map (Value.int .i64)) none::.box b_2 [i6 0,i6 0] 38::.box b_1 [.slice r_Rating_p r.Rating.length r_Rating_c,.slice r_Gaugings_p r.Gaugings.length r_Gaugings_c] 29::Lf) w)
    have hr12 : ∀ (zz : Int × Int × (Int → Option Int)) a w,x12 = .go zz → S12 zz a w → K10 a w := by
     rintro ⟨ahead,x,mp⟩ a w rfl ⟨hf,hc⟩
     replace hF := exK_go hF
     refine h10 _ _ ?_
     refine wp_seq_k fun K13 h13 => noneO hF
    have ho12 : ∀ r,x12 = .out r → r = res := by
     rintro r rfl
     exact sj hF
    refine cLoop N (loopW (S := S12) (x := x12) ?_ N (0,0,(fun _ => none : Int → Option Int)) _ _ ⟨hf.kp rfl,hc⟩ hx12)
    clear hF hf hc
    rintro ⟨ahead,x,mp⟩ st12 a w KB12 ⟨hf,hc⟩ hF hfin12 hK12
    unfold shift_Between_b12 at hF
    refine zS fun K h => sp 1 hf rfl fun a hf => zT h ?_
    refine wp_seq_k fun K15 h15 => zI hf rfl hF ?_ ?_ <;> clear hF <;> intro hF
    ·refine wp_skip ?_
     refine h15 _ _ ?_
     refine wp_seq_k fun K16 h16 => ?_
     have hj16 : ∀ (ahead_1 : Int) (mp_1 : Int → Option Int) a w,Has 130 a [(1,i6 most),(2,i6 day),(3,i6 at_),(4,pq b_1),(8,pq b_2),(10,.pointer none),(12,.map (some mb)),(13,i6 ahead_1),(50,.slice r_Gaugings_p r.Gaugings.length r_Gaugings_c),(51,i6 ((r.Gaugings.length : Nat) : Int)),(52,i6 x)] → Ctx G (.im mb (fun j => (mp_1 j).map (Value.int .i64)) none::.box b_2 [i6 0,i6 0] 38::.box b_1 [.slice r_Rating_p r.Rating.length r_Rating_c,.slice r_Gaugings_p r.Gaugings.length r_Gaugings_c] 29::Lf) w → shift_Between_j16 N x ahead_1 mp_1 = some st12 → K16 a w := by
      repeat (clear hF)
      repeat (clear hc)
      repeat (clear hf)
      intro ahead_1 mp_1 a w hf hc hF
      unfold shift_Between_j16 at hF
      refine h16 _ _ ?_
      refine cReg ?_
      refine sp 2 hf rfl fun a hf => cNil ?_
      exact hK12 (ahead_1,W (x + 1),mp_1) _ _ (sj hF).symm ⟨hf.kp rfl,hc⟩
     refine wp_block ?_
     refine zS fun K h => sp 1 hf rfl fun a hf => ?_
     obtain ⟨e_1,he_1,hF⟩ := bnd_some hF
     obtain ⟨b_3,o,qa,qp⟩ := h_r_Gaugings.atm he_1
     refine zP hf rfl (pIA Try.underlying27 sz_50 rfl rfl qa) fun a hf => zE hf hc rfl (eLdN (vs := [i6 e_1.Day,i6 e_1.Stage,i6 e_1.Flow.Lo,i6 e_1.Flow.Hi]) ag_50 rfl rfl (cells_pc qp (n := 4) (o' := 0) rfl)) fun a w hf hc => zA hf hc zr_50 rfl fun b_4 a w hf hc => sp 1 hf rfl fun a hf => zW hf hc sz_50 u0 rfl fun w hc => zT h ?_
     refine zS fun K h => sp 1 hf rfl fun a hf => zP hf rfl (pFA fa_50_0 rfl) fun a hf => zL hf hc sc_3 m0 rfl fun a w hf hc => sp 1 hf rfl fun a hf => stMU (enc := (Value.int .i64)) (m := mp) (v := x) hf hc rfl Try.underlying125 Try.underlying3 rfl rfl rfl u1 fun w hc => zT h ?_
     refine zS fun K h => zP hf rfl (pFA fa_50_0 rfl) fun a hf => zL hf hc sc_3 m0 rfl fun a w hf hc => sp 2 hf rfl fun a hf => zT h ?_
     refine zI hf rfl hF ?_ ?_ <;> clear hF <;> intro hF
     ·refine cReg ?_
      refine sp 3 hf rfl fun a hf => cNil ?_
      replace hc := hc.drop k0
      exact hj16 (W (x + 1)) (setM mp e_1.Day x) _ _  (hf.kp rfl) hc hF
     ·refine wp_skip ?_
      replace hc := hc.drop k0
      exact hj16 ahead (setM mp e_1.Day x) _ _  (hf.kp rfl) hc hF
    ·refine wp_exit ?_
     refine xThen ?_
     refine xThen ?_
     have he := sj hF
     rw [← he] at hfin12
     refine cHit ?_
     exact hr12 _ _ _ hfin12 ⟨hf.kp rfl,hc⟩
 | inr r_1 =>
  replace hF := sumKr hF
  have hr_1 := hr_0
  refine zC hf en_18 rfl (shift_opened_ok r h_r_Rating h_r_Gaugings hc hr_1) ?_
  rintro _ w ⟨b_5,p_1,c_1,rfl,hc⟩
  refine ⟨_,rfl,fun a hf => ?_⟩
  refine sp 5 hf rfl fun a hf => zT h ?_
  refine wp_seq_k fun K20 h20 => wp_block ?_
  refine zS fun K h => sp 3 hf rfl fun a hf => zT h ?_
  refine zI hf rfl hF ?_ ?_ <;> clear hF <;> intro hF
  ·refine zS fun K h => zP hf rfl (pBuildS (cells := [i6 0,i6 0]) bt_38 rfl rfl) fun a hf => sp 1 hf rfl fun a hf => zW hf hc sz_38 u2 rfl fun w hc => sp 1 hf rfl fun a hf => zT h ?_
   refine wp_ret ?_
   refine xBlkR ?_
   refine xThenR ?_
   obtain rfl := sj hF
   replace hc := ((hc.drop k3).drop k1).drop k0
   exact fnOut2 (by simp) rfl Try.results27 hf hc (rv_cellN (vs := [i6 0,i6 0]) ag_38 rfl rfl (cells_box (n := 2) m0 rfl)) (show look _ 9 = _ from rfl) ⟨rfl,(hc.drop k0)⟩
  ·refine zS fun K h => sp 1 hf rfl fun a hf => zQ (v := .bool (shift_in most 0 18000)) hf hc en_36 rfl (fun w hc => shift_in_ok most 0 18000 hc rfl) fun a w hf hc => sp 2 hf rfl fun a hf => stCc 4 (fun a => Has 130 a [(1,i6 most),(2,i6 day),(3,i6 at_),(4,pq b_1),(8,pq b_2),(10,pq b_5),(34,i6 most),(35,.bool (shift_in most 0 18000)),(36,.bool (!(shift_in most 0 18000))),(37,.bool (!(shift_in most 0 18000))),(41,.bool ((!(shift_in most 0 18000)) || (!(shift_in day 0 40000))))]) hc ?_ ?_
   ·cases hb : (!(shift_in most 0 18000))
    ·rw [hb] at hf
     refine sp 1 hf rfl fun a hf => zQ (v := .bool (shift_in day 0 40000)) hf hc en_36 rfl (fun w hc => shift_in_ok day 0 40000 hc rfl) fun a w hf hc => sp 2 hf rfl fun a hf => cNil ⟨hf.kp rfl,hc⟩
    ·rw [hb] at hf
     refine stS hf rfl rfl rfl fun a hf => stS hf rfl rfl rfl fun a hf => stS hf rfl rfl rfl fun a hf => sp 1 hf rfl fun a hf => cNil ⟨hf.kp rfl,hc⟩
   intro a w ⟨hf,hc⟩
   refine sp 1 hf rfl fun a hf => stCc 4 (fun a => Has 130 a [(1,i6 most),(2,i6 day),(3,i6 at_),(4,pq b_1),(8,pq b_2),(10,pq b_5),(34,i6 most),(35,.bool (shift_in most 0 18000)),(36,.bool (!(shift_in most 0 18000))),(37,.bool (!(shift_in most 0 18000))),(41,.bool ((!(shift_in most 0 18000)) || (!(shift_in day 0 40000)))),(42,.bool ((!(shift_in most 0 18000)) || (!(shift_in day 0 40000)))),(46,.bool (((!(shift_in most 0 18000)) || (!(shift_in day 0 40000))) || (!(shift_stage at_))))]) hc ?_ ?_
   ·cases hb : ((!(shift_in most 0 18000)) || (!(shift_in day 0 40000)))
    ·rw [hb] at hf
     refine sp 1 hf rfl fun a hf => zQ (v := .bool (shift_stage at_)) hf hc en_35 rfl (fun w hc => shift_stage_ok at_ hc rfl) fun a w hf hc => sp 2 hf rfl fun a hf => cNil ⟨hf.kp rfl,hc⟩
    ·rw [hb] at hf
     refine stS hf rfl rfl rfl fun a hf => stS hf rfl rfl rfl fun a hf => stS hf rfl rfl rfl fun a hf => sp 1 hf rfl fun a hf => cNil ⟨hf.kp rfl,hc⟩
   intro a w ⟨hf,hc⟩
   refine sp 1 hf rfl fun a hf => zT h ?_
   refine zI hf rfl hF ?_ ?_ <;> clear hF <;> intro hF
   ·refine zS fun K h => zP hf rfl (pBuildS (cells := [i6 0,i6 0]) bt_38 rfl rfl) fun a hf => zW hf hc sz_38 u2 rfl fun w hc => sp 1 hf rfl fun a hf => zT h ?_
    refine wp_ret ?_
    refine xBlkR ?_
    refine xThenR ?_
    obtain rfl := sj hF
    replace hc := ((hc.drop k3).drop k1).drop k0
    exact fnOut2 (by simp) rfl Try.results27 hf hc (rv_cellN (vs := [i6 0,i6 0]) ag_38 rfl rfl (cells_box (n := 2) m0 rfl)) (show look _ 9 = _ from rfl) ⟨rfl,(hc.drop k0)⟩
   ·refine wp_skip ?_
    refine h20 _ _ ?_
    refine zS fun K h => stMM hf hc rfl rfl fun mb_1 a w hf hc => ?_
    replace hc : Ctx _ (.im mb_1 (fun j => ((fun _ => none : Int → Option Int) j).map (Value.int .i64)) none::_) w := hc
    refine sp 1 hf rfl fun a hf => zT h ?_
    refine zS fun K h => sp 1 hf rfl fun a hf => zT h ?_
    refine wp_seq_k fun K27 h27 => zS fun K h => zP hf rfl (pFA fa_29_1 rfl) fun a hf => zL hf hc sc_27 m4 rfl fun a w hf hc => zP hf rfl (pLenS Try.underlying27 rfl) fun a hf => sp 1 hf rfl fun a hf => zT h ?_
    refine wp_block ?_
    obtain ⟨x29,hx29,hF⟩ := bnd_some hF
    let S29 : (Int × Int × (Int → Option Int)) → Act → World → Prop := (fun (zz : Int × Int × (Int → Option Int)) a w => Has 130 a [(1,i6 most),(2,i6 day),(3,i6 at_),(4,pq b_1),(8,pq b_2),(10,pq b_5),(12,.map (some mb_1)),(13,i6 zz.1),(50,.slice r_Gaugings_p r.Gaugings.length r_Gaugings_c),(51,i6 ((r.Gaugings.length : Nat) : Int)),(52,i6 zz.2.1)] ∧ Ctx G (.im mb_1 (fun j => (zz.2.2 j).map (Value.int .i64)) none::.row p_1 c_1 (r_1.1.map enc_api_Span) 38 2::.box b_5 [.slice r_Rating_p r.Rating.length r_Rating_c,.slice r_Gaugings_p r.Gaugings.length r_Gaugings_c,.slice p_1 r_1.1.length c_1] 80::.box b_2 [i6 0,i6 0] 38::.box b_1 [.slice r_Rating_p r.Rating.length r_Rating_c,.slice r_Gaugings_p r.Gaugings.length r_Gaugings_c] 29::Lf) w)
    have hr29 : ∀ (zz : Int × Int × (Int → Option Int)) a w,x29 = .go zz → S29 zz a w → K27 a w := by
     rintro ⟨ahead_2,x_1,mp_2⟩ a w rfl ⟨hf,hc⟩
     replace hF := exK_go hF
     refine h27 _ _ ?_
     refine zS fun K h => sp 2 hf rfl fun a hf => zP hf rfl (pFA fa_80_1 rfl) fun a hf => zL hf hc sc_51 m2 rfl fun a w hf hc => sp 1 hf rfl fun a hf => zT h ?_
     refine wp_seq_k fun K31 h31 => ?_
     have hj31 : ∀ (l : List api_Span) (p_2 : Option Addr) (c_2 : Nat) a w,Has 130 a [(1,i6 most),(3,i6 at_),(4,pq b_1),(8,pq b_2),(13,i6 ahead_2),(16,.slice p_2 l.length c_2)] → Ctx G (.row p_2 c_2 (l.map enc_api_Span) 38 2::.im mb_1 (fun j => (mp_2 j).map (Value.int .i64)) none::.box b_2 [i6 0,i6 0] 38::.box b_1 [.slice r_Rating_p r.Rating.length r_Rating_c,.slice r_Gaugings_p r.Gaugings.length r_Gaugings_c] 29::Lf) w → shift_Between_j31 N r most at_ ahead_2 l = some res → K31 a w := by
      repeat (clear hF)
      repeat (clear hc)
      repeat (clear hf)
      intro l p_2 c_2 a w hf hc hF
      unfold shift_Between_j31 at hF
      refine h31 _ _ ?_
      refine zS fun K h => sp 2 hf rfl fun a hf => ?_
      obtain ⟨r_2,hr_2,hF⟩ := bnd_some hF
      obtain ⟨G1,hle1,hrd1,hc,hth1⟩ := lend hc k0
      refine zC hf en_52 rfl (shift_can_ok l most hrd1 hc hr_2) ?_
      rintro _ w ⟨p_3,c_3,rfl,hc⟩
      refine ⟨_,rfl,fun a hf => ?_⟩
      replace hc := hth1 _ _ hc
      refine sp 5 hf rfl fun a hf => zT h ?_
      refine wp_seq_k fun K33 h33 => zS fun K h => sp 2 hf rfl fun a hf => zT h ?_
      refine zI hf rfl hF ?_ ?_ <;> clear hF <;> intro hF
      ·refine zS fun K h => zP hf rfl (pBuildS (cells := [i6 0,i6 0]) bt_38 rfl rfl) fun a hf => zW hf hc sz_38 u3 rfl fun w hc => sp 1 hf rfl fun a hf => zT h ?_
       refine wp_ret ?_
       refine xThenR ?_
       obtain rfl := sj hF
       replace hc := (((hc.drop k4).drop k2).drop k1).drop k0
       exact fnOut2 (by simp) rfl Try.results27 hf hc (rv_cellN (vs := [i6 0,i6 0]) ag_38 rfl rfl (cells_box (n := 2) m0 rfl)) (show look _ 9 = _ from rfl) ⟨rfl,(hc.drop k0)⟩
      ·refine wp_skip ?_
       refine h33 _ _ ?_
       refine wp_seq_k fun K36 h36 => ?_
       obtain ⟨e_2,he_2,hF⟩ := bnd_some hF
       obtain ⟨g,rfl,qa_1,qr⟩ := row_atm hc m1 he_2
       obtain ⟨r_3,hr_3,hF⟩ := bnd_some hF
       obtain ⟨e_3,he_3,hF⟩ := bnd_some hF
       obtain ⟨qa_2,qr_1⟩ := row_atk hc m1 he_3
       obtain ⟨r_4,hr_4,hF⟩ := bnd_some hF
       replace hc := hc.nilRow 0 0
       replace hc := hc.nilRow 0 0
       refine regionE (fun θ => [⟨none,none,3,i6 at_⟩,⟨none,none,4,pq b_1⟩,⟨none,none,8,pq b_2⟩,⟨none,none,13,i6 ahead_2⟩,⟨none,none,19,.slice (some ⟨g,0,none⟩) r_2.1.length c_3⟩,⟨some 0,none,95,pq b_1⟩,⟨some 1,none,96,.slice r_Rating_p r.Rating.length r_Rating_c⟩,⟨some 2,none,97,i6 at_⟩,⟨some 3,none,98,.slice (some ⟨g,0,none⟩) r_2.1.length c_3⟩,⟨some 4,none,99,i6 ahead_2⟩,⟨some 5,none,100,.pointer (some ⟨g,ahead_2.toNat * 2,none⟩)⟩,⟨some 6,none,101,.pointer (some ⟨g,ahead_2.toNat * 2 + 1,none⟩)⟩,⟨some 7,none,102,i6 e_2.Hi⟩,⟨some 8,none,103,i6 (W (at_ - e_2.Hi))⟩,⟨some 9,none,104,.agg #[i6 r_3.N,i6 r_3.D]⟩,⟨some 10,none,105,pq b_1⟩,⟨some 11,none,106,.slice r_Rating_p r.Rating.length r_Rating_c⟩,⟨some 12,none,107,i6 at_⟩,⟨some 13,none,108,.slice (some ⟨g,0,none⟩) r_2.1.length c_3⟩,⟨some 14,none,109,i6 ahead_2⟩,⟨some 15,none,110,.pointer (some ⟨g,ahead_2.toNat * 2,none⟩)⟩,⟨some 16,none,111,.pointer (some ⟨g,ahead_2.toNat * 2 + 0,none⟩)⟩,⟨some 17,none,112,i6 e_3.Lo⟩,⟨some 18,none,113,i6 (W (at_ - e_3.Lo))⟩,⟨some 19,none,114,.agg #[i6 r_4.N,i6 r_4.D]⟩,⟨some 20,none,21,.pointer (some ⟨(θ 160).b,0,none⟩)⟩,⟨some 21,none,22,.pointer (some ⟨(θ 168).b,0,none⟩)⟩]) (fun E θ => (bif E 23 then .box (θ 168).b [i6 r_4.N,i6 r_4.D] 45 else bif E 21 then .box (θ 168).b [i6 0,i6 0] 45 else .row none 0 [] 0 0)::(bif E 22 then .box (θ 160).b [i6 r_3.N,i6 r_3.D] 45 else bif E 20 then .box (θ 160).b [i6 0,i6 0] 45 else .row none 0 [] 0 0)::.row p_2 c_2 (l.map enc_api_Span) 38 2::.row (some ⟨g,0,none⟩) c_3 (r_2.1.map enc_api_Span) 38 2::.im mb_1 (fun j => (mp_2 j).map (Value.int .i64)) none::.box b_2 [i6 0,i6 0] 38::.box b_1 [.slice r_Rating_p r.Rating.length r_Rating_c,.slice r_Gaugings_p r.Gaugings.length r_Gaugings_c] 29::Lf) [(22,20),(23,21)] (fun a w => ∃ (b_8 : Nat) (b_9 : Nat),Has 130 a [(8,pq b_2),(21,pq b_8),(22,pq b_9)] ∧ Ctx G (.box b_9 [i6 r_4.N,i6 r_4.D] 45::.box b_8 [i6 r_3.N,i6 r_3.D] 45::.row p_2 c_2 (l.map enc_api_Span) 38 2::.row (some ⟨g,0,none⟩) c_3 (r_2.1.map enc_api_Span) 38 2::.im mb_1 (fun j => (mp_2 j).map (Value.int .i64)) none::.box b_2 [i6 0,i6 0] 38::.box b_1 [.slice r_Rating_p r.Rating.length r_Rating_c,.slice r_Gaugings_p r.Gaugings.length r_Gaugings_c] 29::Lf) w) follows_mx (by kernel_rfl) (by kernel_rfl) (HasE.of hf ⟨rfl,rfl,rfl,rfl,rfl,trivial,trivial,trivial,trivial,trivial,trivial,trivial,trivial,trivial,trivial,trivial,trivial,trivial,trivial,trivial,trivial,trivial,trivial,trivial,trivial,trivial,trivial,trivial⟩) hc ⟨?_,?_,?_,?_,?_,?_,?_,?_,?_,?_,?_,?_,?_,?_,?_,?_,?_,?_,?_,?_,?_,?_,?_,?_,trivial⟩ ?_ ?_
       ·intro E θ a w hD hi hp he hc
        have hf := he.h0.mT he 1 rfl
        refine zP hf rfl (pFA fa_29_0 rfl) fun a hf => zD θ he hi hf 5 rfl rfl rfl hc
       ·intro E θ a w hD hi hp he hc
        have e0 := hp.o 0 rfl
        have hf := he.h0.mP he 5 rfl e0
        refine zL hf hc sc_25 m6 rfl fun a w hf hc => zD θ he hi hf 6 rfl rfl rfl hc
       ·intro E θ a w hD hi hp he hc
        have hf := he.h0.mT he 0 rfl
        refine sp 1 hf rfl fun a hf => zD θ he hi hf 7 rfl rfl rfl hc
       ·intro E θ a w hD hi hp he hc
        have hf := he.h0.mT he 4 rfl
        refine sp 1 hf rfl fun a hf => zD θ he hi hf 8 rfl rfl rfl hc
       ·intro E θ a w hD hi hp he hc
        have hf := he.h0.mT he 3 rfl
        refine sp 1 hf rfl fun a hf => zD θ he hi hf 9 rfl rfl rfl hc
       ·intro E θ a w hD hi hp he hc
        have e3 := hp.o 3 rfl
        have e4 := hp.o 4 rfl
        have hf := (he.h0.mP he 8 rfl e3).mP he 9 rfl e4
        refine zP hf rfl (pIA Try.underlying51 sz_38 rfl rfl qa_1) fun a hf => zD θ he hi hf 10 rfl rfl rfl hc
       ·intro E θ a w hD hi hp he hc
        have e5 := hp.o 5 rfl
        have hf := he.h0.mP he 10 rfl e5
        refine zP hf rfl (pFA fa_38_1 rfl) fun a hf => zD θ he hi hf 11 rfl rfl rfl hc
       ·intro E θ a w hD hi hp he hc
        have e6 := hp.o 6 rfl
        have hf := he.h0.mP he 11 rfl e6
        refine zE hf hc rfl (eLd1 sc_3 rfl (cell_row (sz := 2) (i := ahead_2.toNat) (j := 1) m3 qr rfl)) fun a w hf hc => zD θ he hi hf 12 rfl rfl rfl hc
       ·intro E θ a w hD hi hp he hc
        have e2 := hp.o 2 rfl
        have e7 := hp.o 7 rfl
        have hf := (he.h0.mP he 7 rfl e2).mP he 12 rfl e7
        refine sp 1 hf rfl fun a hf => zD θ he hi hf 13 rfl rfl rfl hc
       ·intro E θ a w hD hi hp he hc
        have e1 := hp.o 1 rfl
        have e8 := hp.o 8 rfl
        have hf := (he.h0.mP he 6 rfl e1).mP he 13 rfl e8
        refine zQ (v := .agg #[i6 r_3.N,i6 r_3.D]) hf hc en_17 rfl (fun w hc => shift_means_ok r.Rating (W (at_ - e_2.Hi)) h_r_Rating hc hr_3) fun a w hf hc => zD θ he hi hf 14 rfl rfl rfl hc
       ·intro E θ a w hD hi hp he hc
        have hf := he.h0.mT he 1 rfl
        refine zP hf rfl (pFA fa_29_0 rfl) fun a hf => zD θ he hi hf 15 rfl rfl rfl hc
       ·intro E θ a w hD hi hp he hc
        have e10 := hp.o 10 rfl
        have hf := he.h0.mP he 15 rfl e10
        refine zL hf hc sc_25 m6 rfl fun a w hf hc => zD θ he hi hf 16 rfl rfl rfl hc
       ·intro E θ a w hD hi hp he hc
        have hf := he.h0.mT he 0 rfl
        refine sp 1 hf rfl fun a hf => zD θ he hi hf 17 rfl rfl rfl hc
       ·intro E θ a w hD hi hp he hc
        have hf := he.h0.mT he 4 rfl
        refine sp 1 hf rfl fun a hf => zD θ he hi hf 18 rfl rfl rfl hc
       ·intro E θ a w hD hi hp he hc
        have hf := he.h0.mT he 3 rfl
        refine sp 1 hf rfl fun a hf => zD θ he hi hf 19 rfl rfl rfl hc
       ·intro E θ a w hD hi hp he hc
        have e13 := hp.o 13 rfl
        have e14 := hp.o 14 rfl
        have hf := (he.h0.mP he 18 rfl e13).mP he 19 rfl e14
        refine zP hf rfl (pIA Try.underlying51 sz_38 rfl rfl qa_2) fun a hf => zD θ he hi hf 20 rfl rfl rfl hc
       ·intro E θ a w hD hi hp he hc
        have e15 := hp.o 15 rfl
        have hf := he.h0.mP he 20 rfl e15
        refine zP hf rfl (pFA fa_38_0 rfl) fun a hf => zD θ he hi hf 21 rfl rfl rfl hc
       ·intro E θ a w hD hi hp he hc
        have e16 := hp.o 16 rfl
        have hf := he.h0.mP he 21 rfl e16
        refine zE hf hc rfl (eLd1 sc_3 rfl (cell_row (sz := 2) (i := ahead_2.toNat) (j := 0) m3 qr_1 rfl)) fun a w hf hc => zD θ he hi hf 22 rfl rfl rfl hc
       ·intro E θ a w hD hi hp he hc
        have e12 := hp.o 12 rfl
        have e17 := hp.o 17 rfl
        have hf := (he.h0.mP he 17 rfl e12).mP he 22 rfl e17
        refine sp 1 hf rfl fun a hf => zD θ he hi hf 23 rfl rfl rfl hc
       ·intro E θ a w hD hi hp he hc
        have e11 := hp.o 11 rfl
        have e18 := hp.o 18 rfl
        have hf := (he.h0.mP he 16 rfl e11).mP he 23 rfl e18
        refine zQ (v := .agg #[i6 r_4.N,i6 r_4.D]) hf hc en_17 rfl (fun w hc => shift_means_ok r.Rating (W (at_ - e_3.Lo)) h_r_Rating hc hr_4) fun a w hf hc => zD θ he hi hf 24 rfl rfl rfl hc
       ·intro E θ a w hD hi hp he hc
        have e22 := hD.f 0 rfl hi
        try dsimp only at hc
        rw [hi,e22] at hc
        have hf := he.h0
        refine zA hf hc zr_45 rfl fun b_6 a w hf hc => cNil ?_
        refine xThenN ?_
        intro ds u hau
        replace hc := ((hc.drop k2).pick k0).pick k1
        refine ⟨(setT θ 160 ⟨b_6,none,0,(fun _ => (none,0))⟩),he.put hi hau hf rfl [] trivial ⟨qq,qq,qq,qq,qq,qq,qq,qq,qq,qq,qq,qq,qq,qq,qq,qq,qq,qq,qq,qq,qq,qq,qq,qq,qq,qq,qq,trivial⟩,?_⟩
        try dsimp only
        rw [updE_self E 20,updE_fls 20 e22 rfl]
        exact hc
       ·intro E θ a w hD hi hp he hc
        have e23 := hD.f 1 rfl hi
        try dsimp only at hc
        rw [hi,e23] at hc
        have hf := he.h0
        refine zA hf hc zr_45 rfl fun b_7 a w hf hc => cNil ?_
        refine xThenN ?_
        intro ds u hau
        replace hc := hc.drop k1
        refine ⟨(setT θ 168 ⟨b_7,none,0,(fun _ => (none,0))⟩),he.put hi hau hf rfl [] trivial ⟨qq,qq,qq,qq,qq,qq,qq,qq,qq,qq,qq,qq,qq,qq,qq,qq,qq,qq,qq,qq,qq,qq,qq,qq,qq,qq,qq,trivial⟩,?_⟩
        try dsimp only
        rw [updE_self E 21,updE_fls 21 e23 rfl]
        exact hc
       ·intro E θ a w hD hi hp he hc
        have e9 := hp.o 9 rfl
        have e20 := hp.o 20 rfl
        try dsimp only at hc
        rw [e20,hi] at hc
        have hf := (he.h0.mP he 14 rfl e9).mP he 25 rfl e20
        refine zW hf hc sz_45 u1 rfl fun w hc => zG θ he hi hf rfl ?_
        try dsimp only
        rw [updE_tru 22 e20,updE_self E 22]
        exact hc
       ·intro E θ a w hD hi hp he hc
        have e19 := hp.o 19 rfl
        have e21 := hp.o 21 rfl
        try dsimp only at hc
        rw [e21,hi] at hc
        have hf := (he.h0.mP he 24 rfl e19).mP he 26 rfl e21
        refine zW hf hc sz_45 u0 rfl fun w hc => zG θ he hi hf rfl ?_
        try dsimp only
        rw [updE_tru 23 e21,updE_self E 23]
        exact hc
       ·intro E θ a w hall he hc
        have hf := he.h0
        have e20 := hall 20 rfl
        have e21 := hall 21 rfl
        have e22 := hall 22 rfl
        have e23 := hall 23 rfl
        replace hf := hf.more he 26 rfl (onP e21)
        replace hf := hf.more he 25 rfl (onP e20)
        replace hf := hf.more he 2 rfl (onT)
        try dsimp only at hc
        rw [e20,e21,e22,e23] at hc
        exact ⟨(θ 160).b,(θ 168).b,hf.kp rfl,hc⟩
       rintro a w ⟨b_8,b_9,hf,hc⟩
       refine h36 _ _ ?_
       refine wp_seq_k fun K37 h37 => ?_
       obtain ⟨un,hun,hF⟩ := bnd_some hF
       obtain ⟨un_1,hun_1,hF⟩ := bnd_some hF
       refine regionE (fun θ => [⟨none,none,8,pq b_2⟩,⟨none,none,21,pq b_8⟩,⟨none,none,22,pq b_9⟩,⟨some 0,none,115,pq b_8⟩,⟨some 1,none,116,i6 r_3.N⟩,⟨some 2,none,117,.pointer (some ⟨b_8,1,none⟩)⟩,⟨some 3,none,118,i6 r_3.D⟩,⟨some 4,none,119,i6 (W (r_3.N.tdiv r_3.D))⟩,⟨some 5,none,120,pq b_9⟩,⟨some 6,none,121,i6 r_4.N⟩,⟨some 7,none,122,.pointer (some ⟨b_9,1,none⟩)⟩,⟨some 8,none,123,i6 r_4.D⟩,⟨some 9,none,124,i6 (W (r_4.N + r_4.D))⟩,⟨some 10,none,125,i6 (W ((W (r_4.N + r_4.D)) - 1))⟩,⟨some 11,none,126,.pointer (some ⟨b_9,1,none⟩)⟩,⟨some 12,none,127,i6 r_4.D⟩,⟨some 13,none,128,i6 (W ((W ((W (r_4.N + r_4.D)) - 1)).tdiv r_4.D))⟩,⟨some 14,none,129,.agg #[i6 (W (r_3.N.tdiv r_3.D)),i6 (W ((W ((W (r_4.N + r_4.D)) - 1)).tdiv r_4.D))]⟩,⟨some 16,none,9,i6 0⟩]) (fun E θ => .box b_9 [i6 r_4.N,i6 r_4.D] 45::.box b_8 [i6 r_3.N,i6 r_3.D] 45::.row p_2 c_2 (l.map enc_api_Span) 38 2::.row (some ⟨g,0,none⟩) c_3 (r_2.1.map enc_api_Span) 38 2::.im mb_1 (fun j => (mp_2 j).map (Value.int .i64)) none::(bif E 15 then .box b_2 [i6 (W (r_3.N.tdiv r_3.D)),i6 (W ((W ((W (r_4.N + r_4.D)) - 1)).tdiv r_4.D))] 38 else .box b_2 [i6 0,i6 0] 38)::.box b_1 [.slice r_Rating_p r.Rating.length r_Rating_c,.slice r_Gaugings_p r.Gaugings.length r_Gaugings_c] 29::Lf) [] (fun a w => Has 130 a [(8,pq b_2),(9,i6 0)] ∧ Ctx G (.box b_9 [i6 r_4.N,i6 r_4.D] 45::.box b_8 [i6 r_3.N,i6 r_3.D] 45::.row p_2 c_2 (l.map enc_api_Span) 38 2::.row (some ⟨g,0,none⟩) c_3 (r_2.1.map enc_api_Span) 38 2::.im mb_1 (fun j => (mp_2 j).map (Value.int .i64)) none::.box b_2 [i6 (W (r_3.N.tdiv r_3.D)),i6 (W ((W ((W (r_4.N + r_4.D)) - 1)).tdiv r_4.D))] 38::.box b_1 [.slice r_Rating_p r.Rating.length r_Rating_c,.slice r_Gaugings_p r.Gaugings.length r_Gaugings_c] 29::Lf) w) follows_mx (by kernel_rfl) (by kernel_rfl) (HasE.of hf ⟨rfl,rfl,rfl,trivial,trivial,trivial,trivial,trivial,trivial,trivial,trivial,trivial,trivial,trivial,trivial,trivial,trivial,trivial,trivial,trivial⟩) hc ⟨?_,?_,?_,?_,?_,?_,?_,?_,?_,?_,?_,?_,?_,?_,?_,?_,?_,trivial⟩ ?_ ?_
       ·intro E θ a w hD hi hp he hc
        have hf := he.h0.mT he 1 rfl
        refine zP hf rfl (pFA fa_45_0 rfl) fun a hf => zD θ he hi hf 3 rfl rfl rfl hc
       ·intro E θ a w hD hi hp he hc
        have e0 := hp.o 0 rfl
        have hf := he.h0.mP he 3 rfl e0
        refine zL hf hc sc_3 m1 rfl fun a w hf hc => zD θ he hi hf 4 rfl rfl rfl hc
       ·intro E θ a w hD hi hp he hc
        have hf := he.h0.mT he 1 rfl
        refine zP hf rfl (pFA fa_45_1 rfl) fun a hf => zD θ he hi hf 5 rfl rfl rfl hc
       ·intro E θ a w hD hi hp he hc
        have e2 := hp.o 2 rfl
        have hf := he.h0.mP he 5 rfl e2
        refine zL hf hc sc_3 m1 rfl fun a w hf hc => zD θ he hi hf 6 rfl rfl rfl hc
       ·intro E θ a w hD hi hp he hc
        have e1 := hp.o 1 rfl
        have e3 := hp.o 3 rfl
        have hf := (he.h0.mP he 4 rfl e1).mP he 6 rfl e3
        refine zP hf rfl (pQuo rfl rfl (nz_spec hun)) fun a hf => zD θ he hi hf 7 rfl rfl rfl hc
       ·intro E θ a w hD hi hp he hc
        have hf := he.h0.mT he 2 rfl
        refine zP hf rfl (pFA fa_45_0 rfl) fun a hf => zD θ he hi hf 8 rfl rfl rfl hc
       ·intro E θ a w hD hi hp he hc
        have e5 := hp.o 5 rfl
        have hf := he.h0.mP he 8 rfl e5
        refine zL hf hc sc_3 m0 rfl fun a w hf hc => zD θ he hi hf 9 rfl rfl rfl hc
       ·intro E θ a w hD hi hp he hc
        have hf := he.h0.mT he 2 rfl
        refine zP hf rfl (pFA fa_45_1 rfl) fun a hf => zD θ he hi hf 10 rfl rfl rfl hc
       ·intro E θ a w hD hi hp he hc
        have e7 := hp.o 7 rfl
        have hf := he.h0.mP he 10 rfl e7
        refine zL hf hc sc_3 m0 rfl fun a w hf hc => zD θ he hi hf 11 rfl rfl rfl hc
       ·intro E θ a w hD hi hp he hc
        have e6 := hp.o 6 rfl
        have e8 := hp.o 8 rfl
        have hf := (he.h0.mP he 9 rfl e6).mP he 11 rfl e8
        refine sp 1 hf rfl fun a hf => zD θ he hi hf 12 rfl rfl rfl hc
       ·intro E θ a w hD hi hp he hc
        have e9 := hp.o 9 rfl
        have hf := he.h0.mP he 12 rfl e9
        refine sp 1 hf rfl fun a hf => zD θ he hi hf 13 rfl rfl rfl hc
       ·intro E θ a w hD hi hp he hc
        have hf := he.h0.mT he 2 rfl
        refine zP hf rfl (pFA fa_45_1 rfl) fun a hf => zD θ he hi hf 14 rfl rfl rfl hc
       ·intro E θ a w hD hi hp he hc
        have e11 := hp.o 11 rfl
        have hf := he.h0.mP he 14 rfl e11
        refine zL hf hc sc_3 m0 rfl fun a w hf hc => zD θ he hi hf 15 rfl rfl rfl hc
       ·intro E θ a w hD hi hp he hc
        have e10 := hp.o 10 rfl
        have e12 := hp.o 12 rfl
        have hf := (he.h0.mP he 13 rfl e10).mP he 15 rfl e12
        refine zP hf rfl (pQuo rfl rfl (nz_spec hun_1)) fun a hf => zD θ he hi hf 16 rfl rfl rfl hc
       ·intro E θ a w hD hi hp he hc
        have e4 := hp.o 4 rfl
        have e13 := hp.o 13 rfl
        have hf := (he.h0.mP he 7 rfl e4).mP he 16 rfl e13
        refine zP hf rfl (pBuildS (cells := [i6 (W (r_3.N.tdiv r_3.D)),i6 (W ((W ((W (r_4.N + r_4.D)) - 1)).tdiv r_4.D))]) bt_38 rfl rfl) fun a hf => zD θ he hi hf 17 rfl rfl rfl hc
       ·intro E θ a w hD hi hp he hc
        have e14 := hp.o 14 rfl
        try dsimp only at hc
        rw [hi] at hc
        have hf := (he.h0.mT he 0 rfl).mP he 17 rfl e14
        refine zW hf hc sz_38 u5 rfl fun w hc => zG θ he hi hf rfl ?_
        try dsimp only
        rw [updE_self E 15]
        exact hc
       ·intro E θ a w hD hi hp he hc
        have hf := he.h0
        refine sp 1 hf rfl fun a hf => zD θ he hi hf 18 rfl rfl rfl hc
       ·intro E θ a w hall he hc
        have hf := he.h0
        have e15 := hall 15 rfl
        have e16 := hall 16 rfl
        replace hf := hf.more he 18 rfl (onP e16)
        replace hf := hf.more he 0 rfl (onT)
        try dsimp only at hc
        rw [e15] at hc
        exact ⟨hf.kp rfl,hc⟩
       rintro a w ⟨hf,hc⟩
       refine h37 _ _ ?_
       refine wp_ret ?_
       obtain rfl := sj hF
       replace hc := (((((hc.drop k6).drop k4).drop k3).drop k2).drop k1).drop k0
       exact fnOut2 (by simp) rfl Try.results27 hf hc (rv_cellN (vs := [i6 (W (r_3.N.tdiv r_3.D)),i6 (W ((W ((W (r_4.N + r_4.D)) - 1)).tdiv r_4.D))]) ag_38 rfl rfl (cells_box (n := 2) m0 rfl)) (show look _ 9 = _ from rfl) ⟨rfl,(hc.drop k0)⟩
     refine zS fun K h => sp 2 hf rfl fun a hf => zE hf hc rfl (eLkOk (enc := (Value.int .i64)) (z0 := 0) (m := mp_2) m0 Try.underlying125 Try.underlying3 zr_3 rfl rfl) fun a w hf hc => sp 5 hf rfl fun a hf => zT h ?_
     refine zS fun K h => sp 2 hf rfl fun a hf => zT h ?_
     refine zI hf rfl hF ?_ ?_ <;> clear hF <;> intro hF
     ·refine cReg ?_
      refine sp 1 hf rfl fun a hf => ?_
      obtain ⟨r_5,hr_5,hF⟩ := bnd_some hF
      obtain ⟨G1,hle1,hrd1,hc,hth1⟩ := lend hc k1
      refine zC hf en_43 rfl (slices_Clone_Lapi_Span_api_Span_ok r_1.1 hrd1 hc hr_5) ?_
      rintro _ w ⟨p_4,c_4,rfl,hc⟩
      refine ⟨_,rfl,fun a hf => ?_⟩
      replace hc := hth1 _ _ hc
      refine sp 1 hf rfl fun a hf => zP hf rfl (pBuildS (cells := [i6 (-300),i6 300]) bt_38 rfl rfl) fun a hf => stBS (rows := ([(⟨(-300),300⟩ : api_Span)] : List api_Span).map enc_api_Span) (vs := [(0,.agg #[i6 (-300),i6 300])]) hf hc rfl rfl sl_51 rfl ⟨rfl,rfl,rfl,trivial⟩ rfl rfl fun b_10 a w hf hc => ?_
      obtain ⟨r_6,hr_6,hF⟩ := bnd_some hF
      refine zC hf en_53 rfl (slices_Insert_Lapi_Span_api_Span_ok r_5 ahead_2 ([(⟨(-300),300⟩ : api_Span)] : List api_Span) ((hc.pick k0).pick k2) hr_6) ?_
      rintro _ w ⟨p_5,c_5,rfl,hc⟩
      refine ⟨_,rfl,fun a hf => ?_⟩
      refine sp 1 hf rfl fun a hf => cNil ?_
      replace hc := ((hc.drop k4).drop k2).drop k1
      exact hj31 r_6 p_5 c_5 _ _  (hf.kp rfl) hc hF
     ·refine wp_skip ?_
      replace hc := ((hc.drop k2).pick k0).pick k1
      exact hj31 r_1.1 p_1 c_1 _ _  (hf.kp rfl) hc hF
    have ho29 : ∀ r,x29 = .out r → r = res := by
     rintro r rfl
     exact sj hF
    refine cLoop N (loopW (S := S29) (x := x29) ?_ N (0,0,(fun _ => none : Int → Option Int)) _ _ ⟨hf.kp rfl,hc⟩ hx29)
    clear hF hf hc
    rintro ⟨ahead_2,x_1,mp_2⟩ st29 a w KB29 ⟨hf,hc⟩ hF hfin29 hK29
    unfold shift_Between_b29 at hF
    refine zS fun K h => sp 1 hf rfl fun a hf => zT h ?_
    refine wp_seq_k fun K41 h41 => zI hf rfl hF ?_ ?_ <;> clear hF <;> intro hF
    ·refine wp_skip ?_
     refine h41 _ _ ?_
     refine wp_seq_k fun K42 h42 => ?_
     have hj42 : ∀ (ahead_3 : Int) (mp_3 : Int → Option Int) a w,Has 130 a [(1,i6 most),(2,i6 day),(3,i6 at_),(4,pq b_1),(8,pq b_2),(10,pq b_5),(12,.map (some mb_1)),(13,i6 ahead_3),(50,.slice r_Gaugings_p r.Gaugings.length r_Gaugings_c),(51,i6 ((r.Gaugings.length : Nat) : Int)),(52,i6 x_1)] → Ctx G (.im mb_1 (fun j => (mp_3 j).map (Value.int .i64)) none::.row p_1 c_1 (r_1.1.map enc_api_Span) 38 2::.box b_5 [.slice r_Rating_p r.Rating.length r_Rating_c,.slice r_Gaugings_p r.Gaugings.length r_Gaugings_c,.slice p_1 r_1.1.length c_1] 80::.box b_2 [i6 0,i6 0] 38::.box b_1 [.slice r_Rating_p r.Rating.length r_Rating_c,.slice r_Gaugings_p r.Gaugings.length r_Gaugings_c] 29::Lf) w → shift_Between_j42 N x_1 ahead_3 mp_3 = some st29 → K42 a w := by
      repeat (clear hF)
      repeat (clear hc)
      repeat (clear hf)
      intro ahead_3 mp_3 a w hf hc hF
      unfold shift_Between_j42 at hF
      refine h42 _ _ ?_
      refine cReg ?_
      refine sp 2 hf rfl fun a hf => cNil ?_
      exact hK29 (ahead_3,W (x_1 + 1),mp_3) _ _ (sj hF).symm ⟨hf.kp rfl,hc⟩
     refine wp_block ?_
     refine zS fun K h => sp 1 hf rfl fun a hf => ?_
     obtain ⟨e_4,he_4,hF⟩ := bnd_some hF
     obtain ⟨b_11,o_1,qa_3,qp_1⟩ := h_r_Gaugings.atm he_4
     refine zP hf rfl (pIA Try.underlying27 sz_50 rfl rfl qa_3) fun a hf => zE hf hc rfl (eLdN (vs := [i6 e_4.Day,i6 e_4.Stage,i6 e_4.Flow.Lo,i6 e_4.Flow.Hi]) ag_50 rfl rfl (cells_pc qp_1 (n := 4) (o' := 0) rfl)) fun a w hf hc => zA hf hc zr_50 rfl fun b_12 a w hf hc => sp 1 hf rfl fun a hf => zW hf hc sz_50 u0 rfl fun w hc => zT h ?_
     refine zS fun K h => sp 1 hf rfl fun a hf => zP hf rfl (pFA fa_50_0 rfl) fun a hf => zL hf hc sc_3 m0 rfl fun a w hf hc => sp 1 hf rfl fun a hf => stMU (enc := (Value.int .i64)) (m := mp_2) (v := x_1) hf hc rfl Try.underlying125 Try.underlying3 rfl rfl rfl u1 fun w hc => zT h ?_
     refine zS fun K h => zP hf rfl (pFA fa_50_0 rfl) fun a hf => zL hf hc sc_3 m0 rfl fun a w hf hc => sp 2 hf rfl fun a hf => zT h ?_
     refine zI hf rfl hF ?_ ?_ <;> clear hF <;> intro hF
     ·refine cReg ?_
      refine sp 3 hf rfl fun a hf => cNil ?_
      replace hc := hc.drop k0
      exact hj42 (W (x_1 + 1)) (setM mp_2 e_4.Day x_1) _ _  (hf.kp rfl) hc hF
     ·refine wp_skip ?_
      replace hc := hc.drop k0
      exact hj42 ahead_2 (setM mp_2 e_4.Day x_1) _ _  (hf.kp rfl) hc hF
    ·refine wp_exit ?_
     refine xThen ?_
     refine xThen ?_
     have he := sj hF
     rw [← he] at hfin29
     refine cHit ?_
     exact hr29 _ _ _ hfin29 ⟨hf.kp rfl,hc⟩

def kit_Same_api_Span_b7 (N : Nat) (a_ : List api_Span) (b_ : List api_Span) (i_1 : Int) : Option (Step (Int) (Bool)) :=
 cond (decide (i_1 < ((a_.length : Nat) : Int)))
 (Option.bind (getI a_ i_1) fun e_1 =>
 Option.bind (getI b_ i_1) fun e_2 =>
 cond (!(e_1.Lo == e_2.Lo && e_1.Hi == e_2.Hi))
 (some (.ret false))
 (some (.cont (W (i_1 + 1)))))
 (some (.brk i_1))
def kit_Same_api_Span (N : Nat) (a_ : List api_Span) (b_ : List api_Span) : Option (Bool) :=
 cond (((a_.length : Nat) : Int) != ((b_.length : Nat) : Int))
 (some false)
 (Option.bind (loopO (fun s7 => kit_Same_api_Span_b7 N a_ b_ s7) N 0) fun x7 =>
 exK x7 (fun s7 => some true) some)
theorem kit_Same_api_Span_ok {N : Nat} {G : Pers} {Lf : List Ent} {w : World} (a_ : List api_Span) (b_ : List api_Span) {a__p : Option Addr} {a__c : Nat} {b__p : Option Addr} {b__c : Nat} (h_a_ : Rd G 2 a__p a__c (a_.map enc_api_Span)) (h_b_ : Rd G 2 b__p b__c (b_.map enc_api_Span)) (hc : Ctx G (Lf) w) {res : Bool} (hF : kit_Same_api_Span N a_ b_ = some res) : Calls Try.prog 28 #[.slice a__p a_.length a__c,.slice b__p b_.length b__c] w (fun e w => e = .returned (.bool res) ∧ Ctx G (Lf) w) := by
 unfold kit_Same_api_Span at hF
 refine fnIn Try.func28 rfl Try.ntmps28 rfl fun a hf => zS fun K h => sp 1 hf rfl fun a hf => zT h ?_
 refine wp_seq_k fun K2 h2 => zS fun K h => sp 1 hf rfl fun a hf => zP hf rfl (pLenS Try.underlying51 rfl) fun a hf => sp 1 hf rfl fun a hf => zP hf rfl (pLenS Try.underlying51 rfl) fun a hf => sp 1 hf rfl fun a hf => zT h ?_
 refine zI hf rfl hF ?_ ?_ <;> clear hF <;> intro hF
 ·refine zS fun K h => sp 1 hf rfl fun a hf => zT h ?_
  refine wp_ret ?_
  refine xThenR ?_
  obtain rfl := sj hF
  exact zO1 Try.results28 hf rfl ⟨rfl,hc⟩
 ·refine wp_skip ?_
  refine h2 _ _ ?_
  refine wp_seq_k fun K5 h5 => zS fun K h => sp 1 hf rfl fun a hf => zT h ?_
  refine wp_block ?_
  obtain ⟨x7,hx7,hF⟩ := bnd_some hF
  let S7 : Int → Act → World → Prop := (fun (zz : Int) a w => Has 26 a [(0,.slice a__p a_.length a__c),(1,.slice b__p b_.length b__c),(5,i6 zz)] ∧ Ctx G (Lf) w)
  have hr7 : ∀ (zz : Int) a w,x7 = .go zz → S7 zz a w → K5 a w := by
   rintro i_1 a w rfl ⟨hf,hc⟩
   replace hF := exK_go hF
   refine h5 _ _ ?_
   refine zS fun K h => sp 1 hf rfl fun a hf => zT h ?_
   refine wp_ret ?_
   obtain rfl := sj hF
   exact zO1 Try.results28 hf rfl ⟨rfl,hc⟩
  have ho7 : ∀ r,x7 = .out r → r = res := by
   rintro r rfl
   exact sj hF
  refine cLoop N (loopW (S := S7) (x := x7) ?_ N 0 _ _ ⟨hf.kp rfl,hc⟩ hx7)
  clear hF hf hc
  rintro i_1 st7 a w KB7 ⟨hf,hc⟩ hF hfin7 hK7
  unfold kit_Same_api_Span_b7 at hF
  refine wp_seq_k fun K9 h9 => zS fun K h => sp 2 hf rfl fun a hf => zP hf rfl (pLenS Try.underlying51 rfl) fun a hf => sp 1 hf rfl fun a hf => zT h ?_
  refine zI hf rfl hF ?_ ?_ <;> clear hF <;> intro hF
  ·refine wp_skip ?_
   refine h9 _ _ ?_
   refine wp_seq_k fun K11 h11 => wp_block ?_
   refine wp_seq_k fun K12 h12 => ?_
   obtain ⟨e_1,he_1,hF⟩ := bnd_some hF
   obtain ⟨b_1,o,qa,qp⟩ := h_a_.atm he_1
   obtain ⟨e_2,he_2,hF⟩ := bnd_some hF
   obtain ⟨b_2,o_1,qa_1,qp_1⟩ := h_b_.atm he_2
   refine cQ hc follows_mx (by kernel_rfl) ?_
   refine qE hf rfl rfl rfl (Pu.ev (pM rfl)) fun a hf => qE hf rfl rfl rfl (Pu.ev (pM rfl)) fun a hf => qE hf rfl rfl rfl (Pu.ev (pIA Try.underlying51 sz_38 rfl rfl qa)) fun a hf => qE hf rfl rfl rfl (eLdN (vs := [i6 e_1.Lo,i6 e_1.Hi]) ag_38 rfl rfl (cells_pc qp (n := 2) (o' := 0) rfl)) fun a hf => qE hf rfl rfl rfl (Pu.ev (pM rfl)) fun a hf => qE hf rfl rfl rfl (Pu.ev (pM rfl)) fun a hf => qE hf rfl rfl rfl (Pu.ev (pIA Try.underlying51 sz_38 rfl rfl qa_1)) fun a hf => qE hf rfl rfl rfl (eLdN (vs := [i6 e_2.Lo,i6 e_2.Hi]) ag_38 rfl rfl (cells_pc qp_1 (n := 2) (o' := 0) rfl)) fun a hf => qE hf rfl rfl rfl (Pu.ev (pNeA ge_38 rfl rfl (eqs_38 _ _ _ _))) fun a hf => ?_
   intro w hc
   refine h12 _ _ ?_
   refine zI hf rfl hF ?_ ?_ <;> clear hF <;> intro hF
   ·refine zS fun K h => sp 1 hf rfl fun a hf => zT h ?_
    refine wp_ret ?_
    refine xBlkR ?_
    refine xThenR ?_
    refine xThenR ?_
    have he := sj hF
    rw [← he] at hfin7
    replace hF := ho7 _ hfin7
    refine xBlkR ?_
    refine xThenR ?_
    obtain rfl := hF
    exact zO1 Try.results28 hf rfl ⟨rfl,hc⟩
   ·refine wp_skip ?_
    refine h11 _ _ ?_
    refine cReg ?_
    refine sp 3 hf rfl fun a hf => cNil ?_
    exact hK7 (W (i_1 + 1)) _ _ (sj hF).symm ⟨hf.kp rfl,hc⟩
  ·refine wp_exit ?_
   refine xThen ?_
   refine xThen ?_
   have he := sj hF
   rw [← he] at hfin7
   refine cHit ?_
   exact hr7 _ _ _ hfin7 ⟨hf.kp rfl,hc⟩

def kit_Same_int_b7 (N : Nat) (a_ : List Int) (b_ : List Int) (i_1 : Int) : Option (Step (Int) (Bool)) :=
 cond (decide (i_1 < ((a_.length : Nat) : Int)))
 (Option.bind (getI a_ i_1) fun e_1 =>
 Option.bind (getI b_ i_1) fun e_2 =>
 cond (e_1 != e_2)
 (some (.ret false))
 (some (.cont (W (i_1 + 1)))))
 (some (.brk i_1))
def kit_Same_int (N : Nat) (a_ : List Int) (b_ : List Int) : Option (Bool) :=
 cond (((a_.length : Nat) : Int) != ((b_.length : Nat) : Int))
 (some false)
 (Option.bind (loopO (fun s7 => kit_Same_int_b7 N a_ b_ s7) N 0) fun x7 =>
 exK x7 (fun s7 => some true) some)
theorem kit_Same_int_ok {N : Nat} {G : Pers} {Lf : List Ent} {w : World} (a_ : List Int) (b_ : List Int) {a__p : Option Addr} {a__c : Nat} {b__p : Option Addr} {b__c : Nat} (h_a_ : Rd G 1 a__p a__c (a_.map encI_i64)) (h_b_ : Rd G 1 b__p b__c (b_.map encI_i64)) (hc : Ctx G (Lf) w) {res : Bool} (hF : kit_Same_int N a_ b_ = some res) : Calls Try.prog 29 #[.slice a__p a_.length a__c,.slice b__p b_.length b__c] w (fun e w => e = .returned (.bool res) ∧ Ctx G (Lf) w) := by
 unfold kit_Same_int at hF
 refine fnIn Try.func29 rfl Try.ntmps29 rfl fun a hf => zS fun K h => sp 1 hf rfl fun a hf => zT h ?_
 refine wp_seq_k fun K2 h2 => zS fun K h => sp 1 hf rfl fun a hf => zP hf rfl (pLenS Try.underlying30 rfl) fun a hf => sp 1 hf rfl fun a hf => zP hf rfl (pLenS Try.underlying30 rfl) fun a hf => sp 1 hf rfl fun a hf => zT h ?_
 refine zI hf rfl hF ?_ ?_ <;> clear hF <;> intro hF
 ·refine zS fun K h => sp 1 hf rfl fun a hf => zT h ?_
  refine wp_ret ?_
  refine xThenR ?_
  obtain rfl := sj hF
  exact zO1 Try.results29 hf rfl ⟨rfl,hc⟩
 ·refine wp_skip ?_
  refine h2 _ _ ?_
  refine wp_seq_k fun K5 h5 => zS fun K h => sp 1 hf rfl fun a hf => zT h ?_
  refine wp_block ?_
  obtain ⟨x7,hx7,hF⟩ := bnd_some hF
  let S7 : Int → Act → World → Prop := (fun (zz : Int) a w => Has 26 a [(0,.slice a__p a_.length a__c),(1,.slice b__p b_.length b__c),(5,i6 zz)] ∧ Ctx G (Lf) w)
  have hr7 : ∀ (zz : Int) a w,x7 = .go zz → S7 zz a w → K5 a w := by
   rintro i_1 a w rfl ⟨hf,hc⟩
   replace hF := exK_go hF
   refine h5 _ _ ?_
   refine zS fun K h => sp 1 hf rfl fun a hf => zT h ?_
   refine wp_ret ?_
   obtain rfl := sj hF
   exact zO1 Try.results29 hf rfl ⟨rfl,hc⟩
  have ho7 : ∀ r,x7 = .out r → r = res := by
   rintro r rfl
   exact sj hF
  refine cLoop N (loopW (S := S7) (x := x7) ?_ N 0 _ _ ⟨hf.kp rfl,hc⟩ hx7)
  clear hF hf hc
  rintro i_1 st7 a w KB7 ⟨hf,hc⟩ hF hfin7 hK7
  unfold kit_Same_int_b7 at hF
  refine wp_seq_k fun K9 h9 => zS fun K h => sp 2 hf rfl fun a hf => zP hf rfl (pLenS Try.underlying30 rfl) fun a hf => sp 1 hf rfl fun a hf => zT h ?_
  refine zI hf rfl hF ?_ ?_ <;> clear hF <;> intro hF
  ·refine wp_skip ?_
   refine h9 _ _ ?_
   refine wp_seq_k fun K11 h11 => wp_block ?_
   refine wp_seq_k fun K12 h12 => ?_
   obtain ⟨e_1,he_1,hF⟩ := bnd_some hF
   obtain ⟨b_1,o,qa,qp⟩ := h_a_.atm he_1
   obtain ⟨e_2,he_2,hF⟩ := bnd_some hF
   obtain ⟨b_2,o_1,qa_1,qp_1⟩ := h_b_.atm he_2
   refine cQ hc follows_mx (by kernel_rfl) ?_
   refine qE hf rfl rfl rfl (Pu.ev (pM rfl)) fun a hf => qE hf rfl rfl rfl (Pu.ev (pM rfl)) fun a hf => qE hf rfl rfl rfl (Pu.ev (pIA Try.underlying30 sz_3 rfl rfl qa)) fun a hf => qE hf rfl rfl rfl (eLd1 sc_3 rfl (cell_pc (j := 0) qp rfl)) fun a hf => qE hf rfl rfl rfl (Pu.ev (pM rfl)) fun a hf => qE hf rfl rfl rfl (Pu.ev (pM rfl)) fun a hf => qE hf rfl rfl rfl (Pu.ev (pIA Try.underlying30 sz_3 rfl rfl qa_1)) fun a hf => qE hf rfl rfl rfl (eLd1 sc_3 rfl (cell_pc (j := 0) qp_1 rfl)) fun a hf => qE hf rfl rfl rfl (Pu.ev (pNe rfl rfl)) fun a hf => ?_
   intro w hc
   refine h12 _ _ ?_
   refine zI hf rfl hF ?_ ?_ <;> clear hF <;> intro hF
   ·refine zS fun K h => sp 1 hf rfl fun a hf => zT h ?_
    refine wp_ret ?_
    refine xBlkR ?_
    refine xThenR ?_
    refine xThenR ?_
    have he := sj hF
    rw [← he] at hfin7
    replace hF := ho7 _ hfin7
    refine xBlkR ?_
    refine xThenR ?_
    obtain rfl := hF
    exact zO1 Try.results29 hf rfl ⟨rfl,hc⟩
   ·refine wp_skip ?_
    refine h11 _ _ ?_
    refine cReg ?_
    refine sp 3 hf rfl fun a hf => cNil ?_
    exact hK7 (W (i_1 + 1)) _ _ (sj hF).symm ⟨hf.kp rfl,hc⟩
  ·refine wp_exit ?_
   refine xThen ?_
   refine xThen ?_
   have he := sj hF
   rw [← he] at hfin7
   refine cHit ?_
   exact hr7 _ _ _ hfin7 ⟨hf.kp rfl,hc⟩

def law05_awake (N : Nat)  : Option (Bool) :=
 Option.bind (law05_Three N) fun r =>
 Option.bind (shift_Means N r.Rating 13 8) fun r_1 =>
 Option.bind (shift_Means N r.Rating 25 6) fun r_2 =>
 Option.bind (shift_Rising N r.Rating 10 0 4 25) fun r_3 =>
 Option.bind (shift_Rising N r.Rating 10 0 (-50) 25) fun r_4 =>
 cond ((((((((r_1.2 != 0) || (r_2.2 != 0)) || (r_3.2 != 0)) || (r_4.2 != 0)) || (!(r_1.1.N == 50 && r_1.1.D == 1))) || (!(r_2.1.N == 370 && r_2.1.D == 1))) || (!(r_3.1.N == 110 && r_3.1.D == 1))) || (!(r_4.1.N == 0 && r_4.1.D == 1)))
 (some false)
 (Option.bind (shift_Passes N r) fun r_5 =>
 Option.bind (shift_Least N r) fun r_6 =>
 Option.bind (shift_Proves N r ([(⟨0,false⟩ : shift_Turn),(⟨1,true⟩ : shift_Turn),(⟨2,false⟩ : shift_Turn)] : List shift_Turn)) fun r_7 =>
 Option.bind (shift_Can N r 6) fun r_8 =>
 Option.bind (shift_Between N r 6 3 13) fun r_9 =>
 Option.bind (cond (((((r_5.2 == 0) && (r_6.2.2 == 0)) && (r_7.2 == 0)) && (r_8.2 == 0)) && (r_9.2 == 0)) (kit_Same_api_Span N r_5.1 ([(⟨2,4⟩ : api_Span),(⟨0,0⟩ : api_Span),(⟨3,8⟩ : api_Span)] : List api_Span)) (some false)) fun r_10 =>
 Option.bind (cond ((((((r_5.2 == 0) && (r_6.2.2 == 0)) && (r_7.2 == 0)) && (r_8.2 == 0)) && (r_9.2 == 0)) && r_10) (kit_Same_int N r_6.1 ([2,0,3] : List Int)) (some false)) fun r_11 =>
 Option.bind (cond (((((((((r_5.2 == 0) && (r_6.2.2 == 0)) && (r_7.2 == 0)) && (r_8.2 == 0)) && (r_9.2 == 0)) && r_10) && r_11) && (r_6.2.1 == 5)) && (r_7.1 == 5)) (kit_Same_api_Span N r_8.1 ([(⟨2,3⟩ : api_Span),(⟨0,0⟩ : api_Span),(⟨3,4⟩ : api_Span)] : List api_Span)) (some false)) fun r_12 =>
 Option.bind (cond ((((((((((r_5.2 == 0) && (r_6.2.2 == 0)) && (r_7.2 == 0)) && (r_8.2 == 0)) && (r_9.2 == 0)) && r_10) && r_11) && (r_6.2.1 == 5)) && (r_7.1 == 5)) && r_12) (law05_span N 100 190) (some (⟨0,0⟩ : api_Span))) fun r_13 =>
 some (((((((((((r_5.2 == 0) && (r_6.2.2 == 0)) && (r_7.2 == 0)) && (r_8.2 == 0)) && (r_9.2 == 0)) && r_10) && r_11) && (r_6.2.1 == 5)) && (r_7.1 == 5)) && r_12) && (r_9.1.Lo == r_13.Lo && r_9.1.Hi == r_13.Hi)))
theorem law05_awake_ok {N : Nat} {G : Pers} {Lf : List Ent} {w : World}    (hc : Ctx G (Lf) w) {res : Bool} (hF : law05_awake N = some res) : Calls Try.prog 14 #[] w (fun e w => e = .returned (.bool res) ∧ Ctx G (Lf) w) := by
 unfold law05_awake at hF
 refine fnIn Try.func14 rfl Try.ntmps14 rfl fun a hf => zS fun K h => sp 1 hf rfl fun a hf => zT h ?_
 refine zS fun K h => ?_
 obtain ⟨r,hr,hF⟩ := bnd_some hF
 refine zC hf en_23 rfl (law05_Three_ok hc hr) ?_
 rintro _ w ⟨p_1,c_1,p_2,c_2,rfl,hc⟩
 refine ⟨_,rfl,fun a hf => ?_⟩
 refine zA hf hc zr_29 rfl fun b_1 a w hf hc => zW hf hc sz_29 u0 rfl fun w hc => zT h ?_
 refine zS fun K h => zP hf rfl (pFA fa_29_0 rfl) fun a hf => zL hf hc sc_25 m0 rfl fun a w hf hc => ?_
 obtain ⟨r_1,hr_1,hF⟩ := bnd_some hF
 refine zQ (v := .tuple #[.agg #[i6 r_1.1.N,i6 r_1.1.D],i6 r_1.2]) hf hc en_10 rfl (fun w hc => by obtain ⟨G1,hle1,hrd1,hc,hth1⟩ := lend hc k1; exact (shift_Means_ok r.Rating 13 8 hrd1 hc hr_1).mono fun e w h => ⟨h.1,((hth1 _ _ h.2).unpick k1)⟩) fun a w hf hc => sp 3 hf rfl fun a hf => zA hf hc zr_45 rfl fun b_2 a w hf hc => zW hf hc sz_45 u0 rfl fun w hc => sp 1 hf rfl fun a hf => zT h ?_
 refine zS fun K h => zP hf rfl (pFA fa_29_0 rfl) fun a hf => zL hf hc sc_25 m1 rfl fun a w hf hc => ?_
 obtain ⟨r_2,hr_2,hF⟩ := bnd_some hF
 refine zQ (v := .tuple #[.agg #[i6 r_2.1.N,i6 r_2.1.D],i6 r_2.2]) hf hc en_10 rfl (fun w hc => by obtain ⟨G1,hle1,hrd1,hc,hth1⟩ := lend hc k2; exact (shift_Means_ok r.Rating 25 6 hrd1 hc hr_2).mono fun e w h => ⟨h.1,((hth1 _ _ h.2).unpick k2)⟩) fun a w hf hc => sp 3 hf rfl fun a hf => zA hf hc zr_45 rfl fun b_3 a w hf hc => zW hf hc sz_45 u0 rfl fun w hc => sp 1 hf rfl fun a hf => zT h ?_
 refine zS fun K h => zP hf rfl (pFA fa_29_0 rfl) fun a hf => zL hf hc sc_25 m2 rfl fun a w hf hc => ?_
 obtain ⟨r_3,hr_3,hF⟩ := bnd_some hF
 refine zQ (v := .tuple #[.agg #[i6 r_3.1.N,i6 r_3.1.D],i6 r_3.2]) hf hc en_24 rfl (fun w hc => by obtain ⟨G1,hle1,hrd1,hc,hth1⟩ := lend hc k3; exact (shift_Rising_ok r.Rating 10 0 4 25 hrd1 hc hr_3).mono fun e w h => ⟨h.1,((hth1 _ _ h.2).unpick k3)⟩) fun a w hf hc => sp 3 hf rfl fun a hf => zA hf hc zr_45 rfl fun b_4 a w hf hc => zW hf hc sz_45 u0 rfl fun w hc => sp 1 hf rfl fun a hf => zT h ?_
 refine zS fun K h => zP hf rfl (pFA fa_29_0 rfl) fun a hf => zL hf hc sc_25 m3 rfl fun a w hf hc => ?_
 obtain ⟨r_4,hr_4,hF⟩ := bnd_some hF
 refine zQ (v := .tuple #[.agg #[i6 r_4.1.N,i6 r_4.1.D],i6 r_4.2]) hf hc en_24 rfl (fun w hc => by obtain ⟨G1,hle1,hrd1,hc,hth1⟩ := lend hc k4; exact (shift_Rising_ok r.Rating 10 0 (-50) 25 hrd1 hc hr_4).mono fun e w h => ⟨h.1,((hth1 _ _ h.2).unpick k4)⟩) fun a w hf hc => sp 3 hf rfl fun a hf => zA hf hc zr_45 rfl fun b_5 a w hf hc => zW hf hc sz_45 u0 rfl fun w hc => sp 1 hf rfl fun a hf => zT h ?_
 refine wp_seq_k fun K7 h7 => zS fun K h => sp 3 hf rfl fun a hf => stCc 3 (fun a => Has 158 a [(1,pq b_1),(2,pq b_2),(3,i6 r_1.2),(4,pq b_3),(5,i6 r_2.2),(6,pq b_4),(7,i6 r_3.2),(8,pq b_5),(9,i6 r_4.2),(42,i6 r_1.2),(43,.bool (r_1.2 != 0)),(44,.bool (r_1.2 != 0)),(47,.bool ((r_1.2 != 0) || (r_2.2 != 0)))]) hc ?_ ?_
 ·cases hb : (r_1.2 != 0)
  ·rw [hb] at hf
   refine sp 3 hf rfl fun a hf => cNil ⟨hf.kp rfl,hc⟩
  ·rw [hb] at hf
   refine stS hf rfl rfl rfl fun a hf => stS hf rfl rfl rfl fun a hf => sp 1 hf rfl fun a hf => cNil ⟨hf.kp rfl,hc⟩
 intro a w ⟨hf,hc⟩
 refine sp 1 hf rfl fun a hf => stCc 3 (fun a => Has 158 a [(1,pq b_1),(2,pq b_2),(3,i6 r_1.2),(4,pq b_3),(5,i6 r_2.2),(6,pq b_4),(7,i6 r_3.2),(8,pq b_5),(9,i6 r_4.2),(42,i6 r_1.2),(43,.bool (r_1.2 != 0)),(44,.bool (r_1.2 != 0)),(47,.bool ((r_1.2 != 0) || (r_2.2 != 0))),(48,.bool ((r_1.2 != 0) || (r_2.2 != 0))),(51,.bool (((r_1.2 != 0) || (r_2.2 != 0)) || (r_3.2 != 0)))]) hc ?_ ?_
 ·cases hb : ((r_1.2 != 0) || (r_2.2 != 0))
  ·rw [hb] at hf
   refine sp 3 hf rfl fun a hf => cNil ⟨hf.kp rfl,hc⟩
  ·rw [hb] at hf
   refine stS hf rfl rfl rfl fun a hf => stS hf rfl rfl rfl fun a hf => sp 1 hf rfl fun a hf => cNil ⟨hf.kp rfl,hc⟩
 intro a w ⟨hf,hc⟩
 refine sp 1 hf rfl fun a hf => stCc 3 (fun a => Has 158 a [(1,pq b_1),(2,pq b_2),(3,i6 r_1.2),(4,pq b_3),(5,i6 r_2.2),(6,pq b_4),(7,i6 r_3.2),(8,pq b_5),(9,i6 r_4.2),(42,i6 r_1.2),(43,.bool (r_1.2 != 0)),(44,.bool (r_1.2 != 0)),(47,.bool ((r_1.2 != 0) || (r_2.2 != 0))),(48,.bool ((r_1.2 != 0) || (r_2.2 != 0))),(51,.bool (((r_1.2 != 0) || (r_2.2 != 0)) || (r_3.2 != 0))),(52,.bool (((r_1.2 != 0) || (r_2.2 != 0)) || (r_3.2 != 0))),(55,.bool ((((r_1.2 != 0) || (r_2.2 != 0)) || (r_3.2 != 0)) || (r_4.2 != 0)))]) hc ?_ ?_
 ·cases hb : (((r_1.2 != 0) || (r_2.2 != 0)) || (r_3.2 != 0))
  ·rw [hb] at hf
   refine sp 3 hf rfl fun a hf => cNil ⟨hf.kp rfl,hc⟩
  ·rw [hb] at hf
   refine stS hf rfl rfl rfl fun a hf => stS hf rfl rfl rfl fun a hf => sp 1 hf rfl fun a hf => cNil ⟨hf.kp rfl,hc⟩
 intro a w ⟨hf,hc⟩
 refine sp 1 hf rfl fun a hf => stCc 4 (fun a => Has 158 a [(1,pq b_1),(2,pq b_2),(3,i6 r_1.2),(4,pq b_3),(5,i6 r_2.2),(6,pq b_4),(7,i6 r_3.2),(8,pq b_5),(9,i6 r_4.2),(42,i6 r_1.2),(43,.bool (r_1.2 != 0)),(44,.bool (r_1.2 != 0)),(47,.bool ((r_1.2 != 0) || (r_2.2 != 0))),(48,.bool ((r_1.2 != 0) || (r_2.2 != 0))),(51,.bool (((r_1.2 != 0) || (r_2.2 != 0)) || (r_3.2 != 0))),(52,.bool (((r_1.2 != 0) || (r_2.2 != 0)) || (r_3.2 != 0))),(55,.bool ((((r_1.2 != 0) || (r_2.2 != 0)) || (r_3.2 != 0)) || (r_4.2 != 0))),(56,.bool ((((r_1.2 != 0) || (r_2.2 != 0)) || (r_3.2 != 0)) || (r_4.2 != 0))),(60,.bool (((((r_1.2 != 0) || (r_2.2 != 0)) || (r_3.2 != 0)) || (r_4.2 != 0)) || (!(r_1.1.N == 50 && r_1.1.D == 1))))]) hc ?_ ?_
 ·cases hb : ((((r_1.2 != 0) || (r_2.2 != 0)) || (r_3.2 != 0)) || (r_4.2 != 0))
  ·rw [hb] at hf
   refine zN hf hc ag_45 m3 rfl fun a w hf hc => zP hf rfl (pBuildS (cells := [i6 50,i6 1]) bt_45 rfl rfl) fun a hf => zP hf rfl (pNeA ge_45 rfl rfl (eqs_45 _ _ _ _)) fun a hf => sp 1 hf rfl fun a hf => cNil ⟨hf.kp rfl,hc⟩
  ·rw [hb] at hf
   refine stS hf rfl rfl rfl fun a hf => stS hf rfl rfl rfl fun a hf => stS hf rfl rfl rfl fun a hf => sp 1 hf rfl fun a hf => cNil ⟨hf.kp rfl,hc⟩
 intro a w ⟨hf,hc⟩
 refine sp 1 hf rfl fun a hf => stCc 4 (fun a => Has 158 a [(1,pq b_1),(2,pq b_2),(3,i6 r_1.2),(4,pq b_3),(5,i6 r_2.2),(6,pq b_4),(7,i6 r_3.2),(8,pq b_5),(9,i6 r_4.2),(42,i6 r_1.2),(43,.bool (r_1.2 != 0)),(44,.bool (r_1.2 != 0)),(47,.bool ((r_1.2 != 0) || (r_2.2 != 0))),(48,.bool ((r_1.2 != 0) || (r_2.2 != 0))),(51,.bool (((r_1.2 != 0) || (r_2.2 != 0)) || (r_3.2 != 0))),(52,.bool (((r_1.2 != 0) || (r_2.2 != 0)) || (r_3.2 != 0))),(55,.bool ((((r_1.2 != 0) || (r_2.2 != 0)) || (r_3.2 != 0)) || (r_4.2 != 0))),(56,.bool ((((r_1.2 != 0) || (r_2.2 != 0)) || (r_3.2 != 0)) || (r_4.2 != 0))),(60,.bool (((((r_1.2 != 0) || (r_2.2 != 0)) || (r_3.2 != 0)) || (r_4.2 != 0)) || (!(r_1.1.N == 50 && r_1.1.D == 1)))),(61,.bool (((((r_1.2 != 0) || (r_2.2 != 0)) || (r_3.2 != 0)) || (r_4.2 != 0)) || (!(r_1.1.N == 50 && r_1.1.D == 1)))),(65,.bool ((((((r_1.2 != 0) || (r_2.2 != 0)) || (r_3.2 != 0)) || (r_4.2 != 0)) || (!(r_1.1.N == 50 && r_1.1.D == 1))) || (!(r_2.1.N == 370 && r_2.1.D == 1))))]) hc ?_ ?_
 ·cases hb : (((((r_1.2 != 0) || (r_2.2 != 0)) || (r_3.2 != 0)) || (r_4.2 != 0)) || (!(r_1.1.N == 50 && r_1.1.D == 1)))
  ·rw [hb] at hf
   refine zN hf hc ag_45 m2 rfl fun a w hf hc => zP hf rfl (pBuildS (cells := [i6 370,i6 1]) bt_45 rfl rfl) fun a hf => zP hf rfl (pNeA ge_45 rfl rfl (eqs_45 _ _ _ _)) fun a hf => sp 1 hf rfl fun a hf => cNil ⟨hf.kp rfl,hc⟩
  ·rw [hb] at hf
   refine stS hf rfl rfl rfl fun a hf => stS hf rfl rfl rfl fun a hf => stS hf rfl rfl rfl fun a hf => sp 1 hf rfl fun a hf => cNil ⟨hf.kp rfl,hc⟩
 intro a w ⟨hf,hc⟩
 refine sp 1 hf rfl fun a hf => stCc 4 (fun a => Has 158 a [(1,pq b_1),(2,pq b_2),(3,i6 r_1.2),(4,pq b_3),(5,i6 r_2.2),(6,pq b_4),(7,i6 r_3.2),(8,pq b_5),(9,i6 r_4.2),(42,i6 r_1.2),(43,.bool (r_1.2 != 0)),(44,.bool (r_1.2 != 0)),(47,.bool ((r_1.2 != 0) || (r_2.2 != 0))),(48,.bool ((r_1.2 != 0) || (r_2.2 != 0))),(51,.bool (((r_1.2 != 0) || (r_2.2 != 0)) || (r_3.2 != 0))),(52,.bool (((r_1.2 != 0) || (r_2.2 != 0)) || (r_3.2 != 0))),(55,.bool ((((r_1.2 != 0) || (r_2.2 != 0)) || (r_3.2 != 0)) || (r_4.2 != 0))),(56,.bool ((((r_1.2 != 0) || (r_2.2 != 0)) || (r_3.2 != 0)) || (r_4.2 != 0))),(60,.bool (((((r_1.2 != 0) || (r_2.2 != 0)) || (r_3.2 != 0)) || (r_4.2 != 0)) || (!(r_1.1.N == 50 && r_1.1.D == 1)))),(61,.bool (((((r_1.2 != 0) || (r_2.2 != 0)) || (r_3.2 != 0)) || (r_4.2 != 0)) || (!(r_1.1.N == 50 && r_1.1.D == 1)))),(65,.bool ((((((r_1.2 != 0) || (r_2.2 != 0)) || (r_3.2 != 0)) || (r_4.2 != 0)) || (!(r_1.1.N == 50 && r_1.1.D == 1))) || (!(r_2.1.N == 370 && r_2.1.D == 1)))),(66,.bool ((((((r_1.2 != 0) || (r_2.2 != 0)) || (r_3.2 != 0)) || (r_4.2 != 0)) || (!(r_1.1.N == 50 && r_1.1.D == 1))) || (!(r_2.1.N == 370 && r_2.1.D == 1)))),(70,.bool (((((((r_1.2 != 0) || (r_2.2 != 0)) || (r_3.2 != 0)) || (r_4.2 != 0)) || (!(r_1.1.N == 50 && r_1.1.D == 1))) || (!(r_2.1.N == 370 && r_2.1.D == 1))) || (!(r_3.1.N == 110 && r_3.1.D == 1))))]) hc ?_ ?_
 ·cases hb : ((((((r_1.2 != 0) || (r_2.2 != 0)) || (r_3.2 != 0)) || (r_4.2 != 0)) || (!(r_1.1.N == 50 && r_1.1.D == 1))) || (!(r_2.1.N == 370 && r_2.1.D == 1)))
  ·rw [hb] at hf
   refine zN hf hc ag_45 m1 rfl fun a w hf hc => zP hf rfl (pBuildS (cells := [i6 110,i6 1]) bt_45 rfl rfl) fun a hf => zP hf rfl (pNeA ge_45 rfl rfl (eqs_45 _ _ _ _)) fun a hf => sp 1 hf rfl fun a hf => cNil ⟨hf.kp rfl,hc⟩
  ·rw [hb] at hf
   refine stS hf rfl rfl rfl fun a hf => stS hf rfl rfl rfl fun a hf => stS hf rfl rfl rfl fun a hf => sp 1 hf rfl fun a hf => cNil ⟨hf.kp rfl,hc⟩
 intro a w ⟨hf,hc⟩
 refine sp 1 hf rfl fun a hf => stCc 4 (fun a => Has 158 a [(1,pq b_1),(2,pq b_2),(3,i6 r_1.2),(4,pq b_3),(5,i6 r_2.2),(6,pq b_4),(7,i6 r_3.2),(8,pq b_5),(9,i6 r_4.2),(42,i6 r_1.2),(43,.bool (r_1.2 != 0)),(44,.bool (r_1.2 != 0)),(47,.bool ((r_1.2 != 0) || (r_2.2 != 0))),(48,.bool ((r_1.2 != 0) || (r_2.2 != 0))),(51,.bool (((r_1.2 != 0) || (r_2.2 != 0)) || (r_3.2 != 0))),(52,.bool (((r_1.2 != 0) || (r_2.2 != 0)) || (r_3.2 != 0))),(55,.bool ((((r_1.2 != 0) || (r_2.2 != 0)) || (r_3.2 != 0)) || (r_4.2 != 0))),(56,.bool ((((r_1.2 != 0) || (r_2.2 != 0)) || (r_3.2 != 0)) || (r_4.2 != 0))),(60,.bool (((((r_1.2 != 0) || (r_2.2 != 0)) || (r_3.2 != 0)) || (r_4.2 != 0)) || (!(r_1.1.N == 50 && r_1.1.D == 1)))),(61,.bool (((((r_1.2 != 0) || (r_2.2 != 0)) || (r_3.2 != 0)) || (r_4.2 != 0)) || (!(r_1.1.N == 50 && r_1.1.D == 1)))),(65,.bool ((((((r_1.2 != 0) || (r_2.2 != 0)) || (r_3.2 != 0)) || (r_4.2 != 0)) || (!(r_1.1.N == 50 && r_1.1.D == 1))) || (!(r_2.1.N == 370 && r_2.1.D == 1)))),(66,.bool ((((((r_1.2 != 0) || (r_2.2 != 0)) || (r_3.2 != 0)) || (r_4.2 != 0)) || (!(r_1.1.N == 50 && r_1.1.D == 1))) || (!(r_2.1.N == 370 && r_2.1.D == 1)))),(70,.bool (((((((r_1.2 != 0) || (r_2.2 != 0)) || (r_3.2 != 0)) || (r_4.2 != 0)) || (!(r_1.1.N == 50 && r_1.1.D == 1))) || (!(r_2.1.N == 370 && r_2.1.D == 1))) || (!(r_3.1.N == 110 && r_3.1.D == 1)))),(71,.bool (((((((r_1.2 != 0) || (r_2.2 != 0)) || (r_3.2 != 0)) || (r_4.2 != 0)) || (!(r_1.1.N == 50 && r_1.1.D == 1))) || (!(r_2.1.N == 370 && r_2.1.D == 1))) || (!(r_3.1.N == 110 && r_3.1.D == 1)))),(75,.bool ((((((((r_1.2 != 0) || (r_2.2 != 0)) || (r_3.2 != 0)) || (r_4.2 != 0)) || (!(r_1.1.N == 50 && r_1.1.D == 1))) || (!(r_2.1.N == 370 && r_2.1.D == 1))) || (!(r_3.1.N == 110 && r_3.1.D == 1))) || (!(r_4.1.N == 0 && r_4.1.D == 1))))]) hc ?_ ?_
 ·cases hb : (((((((r_1.2 != 0) || (r_2.2 != 0)) || (r_3.2 != 0)) || (r_4.2 != 0)) || (!(r_1.1.N == 50 && r_1.1.D == 1))) || (!(r_2.1.N == 370 && r_2.1.D == 1))) || (!(r_3.1.N == 110 && r_3.1.D == 1)))
  ·rw [hb] at hf
   refine zN hf hc ag_45 m0 rfl fun a w hf hc => zP hf rfl (pBuildS (cells := [i6 0,i6 1]) bt_45 rfl rfl) fun a hf => zP hf rfl (pNeA ge_45 rfl rfl (eqs_45 _ _ _ _)) fun a hf => sp 1 hf rfl fun a hf => cNil ⟨hf.kp rfl,hc⟩
  ·rw [hb] at hf
   refine stS hf rfl rfl rfl fun a hf => stS hf rfl rfl rfl fun a hf => stS hf rfl rfl rfl fun a hf => sp 1 hf rfl fun a hf => cNil ⟨hf.kp rfl,hc⟩
 intro a w ⟨hf,hc⟩
 refine zT h ?_
 refine zI hf rfl hF ?_ ?_ <;> clear hF <;> intro hF
 ·refine zS fun K h => sp 1 hf rfl fun a hf => zT h ?_
  refine wp_ret ?_
  refine xThenR ?_
  obtain rfl := sj hF
  replace hc := ((((((hc.drop k6).drop k5).drop k4).drop k3).drop k2).drop k1).drop k0
  exact zO1 Try.results14 hf rfl ⟨rfl,hc⟩
 ·refine wp_skip ?_
  refine h7 _ _ ?_
  refine zS fun K h => zN hf hc ag_29 m4 rfl fun a w hf hc => ?_
  obtain ⟨r_5,hr_5,hF⟩ := bnd_some hF
  obtain ⟨G1,hle1,hrd1,hc,hth1⟩ := lend hc k5
  obtain ⟨G2,hle2,hrd2,hc,hth2⟩ := lend hc k5
  refine zC hf en_12 rfl (shift_Passes_ok r (hrd1.mono hle2) hrd2 hc hr_5) ?_
  rintro _ w ⟨p_3,c_3,rfl,hc⟩
  refine ⟨_,rfl,fun a hf => ?_⟩
  replace hc := hth2 _ _ hc
  replace hc := hth1 _ _ hc
  refine sp 5 hf rfl fun a hf => zT h ?_
  refine wp_seq_k fun K11 h11 => cReg ?_
  refine zN hf hc ag_29 m7 rfl fun a w hf hc => ?_
  obtain ⟨r_6,hr_6,hF⟩ := bnd_some hF
  obtain ⟨G1,hle1,hrd1,hc,hth1⟩ := lend hc k0
  obtain ⟨G2,hle2,hrd2,hc,hth2⟩ := lend hc k0
  refine zC hf en_13 rfl (shift_Least_ok r (hrd1.mono hle2) hrd2 hc hr_6) ?_
  rintro _ w ⟨p_4,c_4,rfl,hc⟩
  refine ⟨_,rfl,fun a hf => ?_⟩
  replace hc := hth2 _ _ hc
  replace hc := hth1 _ _ hc
  refine sp 7 hf rfl fun a hf => cNil ?_
  replace hc := (((hc.drop k7).drop k6).drop k5).drop k4
  refine h11 _ _ ?_
  refine zS fun K h => zN hf hc ag_29 m4 rfl fun a w hf hc => zP hf rfl (pBuildS (cells := [i6 0,.bool false]) bt_94 rfl rfl) fun a hf => zP hf rfl (pBuildS (cells := [i6 1,.bool true]) bt_94 rfl rfl) fun a hf => zP hf rfl (pBuildS (cells := [i6 2,.bool false]) bt_94 rfl rfl) fun a hf => stBS (rows := ([(⟨0,false⟩ : shift_Turn),(⟨1,true⟩ : shift_Turn),(⟨2,false⟩ : shift_Turn)] : List shift_Turn).map enc_shift_Turn) (vs := [(0,.agg #[i6 0,.bool false]),(1,.agg #[i6 1,.bool true]),(2,.agg #[i6 2,.bool false])]) hf hc rfl rfl sl_95 rfl ⟨rfl,rfl,rfl,rfl,rfl,rfl,rfl,rfl,rfl,trivial⟩ rfl rfl fun b_6 a w hf hc => ?_
  obtain ⟨r_7,hr_7,hF⟩ := bnd_some hF
  refine zQ (v := .tuple #[i6 r_7.1,i6 r_7.2]) hf hc en_25 rfl (fun w hc => by obtain ⟨G1,hle1,hrd1,hc,hth1⟩ := lend hc k1; obtain ⟨G2,hle2,hrd2,hc,hth2⟩ := lend hc k1; obtain ⟨G3,hle3,hrd3,hc,hth3⟩ := lend hc k0; exact (shift_Proves_ok r ([(⟨0,false⟩ : shift_Turn),(⟨1,true⟩ : shift_Turn),(⟨2,false⟩ : shift_Turn)] : List shift_Turn) ((hrd1.mono hle2).mono hle3) (hrd2.mono hle3) hrd3 hc hr_7).mono fun e w h => ⟨h.1,((hth1 _ _ ((hth2 _ _ ((hth3 _ _ h.2).unpick k0)).unpick k1)).unpick k1)⟩) fun a w hf hc => sp 5 hf rfl fun a hf => zT h ?_
  refine zS fun K h => zN hf hc ag_29 m5 rfl fun a w hf hc => ?_
  obtain ⟨r_8,hr_8,hF⟩ := bnd_some hF
  obtain ⟨G1,hle1,hrd1,hc,hth1⟩ := lend hc k1
  obtain ⟨G2,hle2,hrd2,hc,hth2⟩ := lend hc k1
  refine zC hf en_26 rfl (shift_Can_ok r 6 (hrd1.mono hle2) hrd2 hc hr_8) ?_
  rintro _ w ⟨p_5,c_5,rfl,hc⟩
  refine ⟨_,rfl,fun a hf => ?_⟩
  replace hc := hth2 _ _ hc
  replace hc := hth1 _ _ hc
  refine sp 5 hf rfl fun a hf => zT h ?_
  refine zS fun K h => zN hf hc ag_29 m6 rfl fun a w hf hc => ?_
  obtain ⟨r_9,hr_9,hF⟩ := bnd_some hF
  refine zQ (v := .tuple #[.agg #[i6 r_9.1.Lo,i6 r_9.1.Hi],i6 r_9.2]) hf hc en_27 rfl (fun w hc => by obtain ⟨G1,hle1,hrd1,hc,hth1⟩ := lend hc k0; obtain ⟨G2,hle2,hrd2,hc,hth2⟩ := lend hc k0; exact (shift_Between_ok r 6 3 13 (hrd1.mono hle2) hrd2 hc hr_9).mono fun e w h => ⟨h.1,((hth1 _ _ ((hth2 _ _ h.2).unpick k0)).unpick k0)⟩) fun a w hf hc => sp 3 hf rfl fun a hf => zA hf hc zr_38 rfl fun b_7 a w hf hc => zW hf hc sz_38 u0 rfl fun w hc => sp 1 hf rfl fun a hf => zT h ?_
  refine wp_seq_k fun K15 h15 => ?_
  obtain ⟨r_10,hr_10,hF⟩ := bnd_some hF
  obtain ⟨r_11,hr_11,hF⟩ := bnd_some hF
  obtain ⟨r_12,hr_12,hF⟩ := bnd_some hF
  obtain ⟨r_13,hr_13,hF⟩ := bnd_some hF
  replace hc := hc.nilRow 0 0
  replace hc := hc.nilRow 0 0
  replace hc := hc.nilRow 0 0
  refine regionE (fun θ => (⟨none,none,3,i6 r_5.2⟩::⟨none,none,5,i6 r_6.2.2⟩::⟨none,none,7,i6 r_7.2⟩::⟨none,none,9,i6 r_8.2⟩::⟨none,none,10,.slice p_3 r_5.1.length c_3⟩::⟨none,none,11,.slice p_4 r_6.1.length c_4⟩::⟨none,none,12,i6 r_6.2.1⟩::⟨none,none,13,i6 r_7.1⟩::⟨none,none,14,.slice p_5 r_8.1.length c_5⟩::⟨none,none,15,pq b_7⟩::⟨none,none,16,i6 r_9.2⟩::⟨some 0,none,106,i6 r_5.2⟩::⟨some 1,none,107,.bool (r_5.2 == 0)⟩::⟨some 2,none,108,.bool (r_5.2 == 0)⟩::⟨some 3,none,109,(bif (r_5.2 == 0) then i6 r_6.2.2 else undef)⟩::⟨some 4,none,110,(bif (r_5.2 == 0) then .bool (r_6.2.2 == 0) else undef)⟩::⟨some 5,none,111,.bool ((r_5.2 == 0) && (r_6.2.2 == 0))⟩::⟨some 6,none,112,.bool ((r_5.2 == 0) && (r_6.2.2 == 0))⟩::⟨some 7,none,113,(bif ((r_5.2 == 0) && (r_6.2.2 == 0)) then i6 r_7.2 else undef)⟩::⟨some 8,none,114,(bif ((r_5.2 == 0) && (r_6.2.2 == 0)) then .bool (r_7.2 == 0) else undef)⟩::⟨some 9,none,115,.bool (((r_5.2 == 0) && (r_6.2.2 == 0)) && (r_7.2 == 0))⟩::⟨some 10,none,116,.bool (((r_5.2 == 0) && (r_6.2.2 == 0)) && (r_7.2 == 0))⟩::⟨some 11,none,117,(bif (((r_5.2 == 0) && (r_6.2.2 == 0)) && (r_7.2 == 0)) then i6 r_8.2 else undef)⟩::⟨some 12,none,118,(bif (((r_5.2 == 0) && (r_6.2.2 == 0)) && (r_7.2 == 0)) then .bool (r_8.2 == 0) else undef)⟩::⟨some 13,none,119,.bool ((((r_5.2 == 0) && (r_6.2.2 == 0)) && (r_7.2 == 0)) && (r_8.2 == 0))⟩::⟨some 14,none,120,.bool ((((r_5.2 == 0) && (r_6.2.2 == 0)) && (r_7.2 == 0)) && (r_8.2 == 0))⟩::⟨some 15,none,121,(bif ((((r_5.2 == 0) && (r_6.2.2 == 0)) && (r_7.2 == 0)) && (r_8.2 == 0)) then i6 r_9.2 else undef)⟩::⟨some 16,none,122,(bif ((((r_5.2 == 0) && (r_6.2.2 == 0)) && (r_7.2 == 0)) && (r_8.2 == 0)) then .bool (r_9.2 == 0) else undef)⟩::⟨some 17,none,123,.bool (((((r_5.2 == 0) && (r_6.2.2 == 0)) && (r_7.2 == 0)) && (r_8.2 == 0)) && (r_9.2 == 0))⟩::⟨some 18,none,124,.bool (((((r_5.2 == 0) && (r_6.2.2 == 0)) && (r_7.2 == 0)) && (r_8.2 == 0)) && (r_9.2 == 0))⟩::⟨some 19,none,125,(bif (((((r_5.2 == 0) && (r_6.2.2 == 0)) && (r_7.2 == 0)) && (r_8.2 == 0)) && (r_9.2 == 0)) then .slice p_3 r_5.1.length c_3 else undef)⟩::⟨some 20,none,126,(bif (((((r_5.2 == 0) && (r_6.2.2 == 0)) && (r_7.2 == 0)) && (r_8.2 == 0)) && (r_9.2 == 0)) then .agg #[i6 2,i6 4] else undef)⟩::⟨some 21,none,127,(bif (((((r_5.2 == 0) && (r_6.2.2 == 0)) && (r_7.2 == 0)) && (r_8.2 == 0)) && (r_9.2 == 0)) then .agg #[i6 0,i6 0] else undef)⟩::⟨some 22,none,128,(bif (((((r_5.2 == 0) && (r_6.2.2 == 0)) && (r_7.2 == 0)) && (r_8.2 == 0)) && (r_9.2 == 0)) then .agg #[i6 3,i6 8] else undef)⟩::⟨some 23,none,129,(bif (((((r_5.2 == 0) && (r_6.2.2 == 0)) && (r_7.2 == 0)) && (r_8.2 == 0)) && (r_9.2 == 0)) then .slice (some ⟨(θ 184).b,0,none⟩) 3 3 else undef)⟩::⟨some 24,none,130,(bif (((((r_5.2 == 0) && (r_6.2.2 == 0)) && (r_7.2 == 0)) && (r_8.2 == 0)) && (r_9.2 == 0)) then .bool r_10 else undef)⟩::⟨some 25,none,131,.bool ((((((r_5.2 == 0) && (r_6.2.2 == 0)) && (r_7.2 == 0)) && (r_8.2 == 0)) && (r_9.2 == 0)) && r_10)⟩::⟨some 26,none,132,.bool ((((((r_5.2 == 0) && (r_6.2.2 == 0)) && (r_7.2 == 0)) && (r_8.2 == 0)) && (r_9.2 == 0)) && r_10)⟩::⟨some 27,none,133,(bif ((((((r_5.2 == 0) && (r_6.2.2 == 0)) && (r_7.2 == 0)) && (r_8.2 == 0)) && (r_9.2 == 0)) && r_10) then .slice p_4 r_6.1.length c_4 else undef)⟩::⟨some 28,none,134,(bif ((((((r_5.2 == 0) && (r_6.2.2 == 0)) && (r_7.2 == 0)) && (r_8.2 == 0)) && (r_9.2 == 0)) && r_10) then .slice (some ⟨(θ 224).b,0,none⟩) 3 3 else undef)⟩::⟨some 29,none,135,(bif ((((((r_5.2 == 0) && (r_6.2.2 == 0)) && (r_7.2 == 0)) && (r_8.2 == 0)) && (r_9.2 == 0)) && r_10) then .bool r_11 else undef)⟩::⟨some 30,none,136,.bool (((((((r_5.2 == 0) && (r_6.2.2 == 0)) && (r_7.2 == 0)) && (r_8.2 == 0)) && (r_9.2 == 0)) && r_10) && r_11)⟩::⟨some 31,none,137,.bool (((((((r_5.2 == 0) && (r_6.2.2 == 0)) && (r_7.2 == 0)) && (r_8.2 == 0)) && (r_9.2 == 0)) && r_10) && r_11)⟩::⟨some 32,none,138,(bif (((((((r_5.2 == 0) && (r_6.2.2 == 0)) && (r_7.2 == 0)) && (r_8.2 == 0)) && (r_9.2 == 0)) && r_10) && r_11) then i6 r_6.2.1 else undef)⟩::⟨some 33,none,139,(bif (((((((r_5.2 == 0) && (r_6.2.2 == 0)) && (r_7.2 == 0)) && (r_8.2 == 0)) && (r_9.2 == 0)) && r_10) && r_11) then .bool (r_6.2.1 == 5) else undef)⟩::⟨some 34,none,140,.bool ((((((((r_5.2 == 0) && (r_6.2.2 == 0)) && (r_7.2 == 0)) && (r_8.2 == 0)) && (r_9.2 == 0)) && r_10) && r_11) && (r_6.2.1 == 5))⟩::⟨some 35,none,141,.bool ((((((((r_5.2 == 0) && (r_6.2.2 == 0)) && (r_7.2 == 0)) && (r_8.2 == 0)) && (r_9.2 == 0)) && r_10) && r_11) && (r_6.2.1 == 5))⟩::⟨some 36,none,142,(bif ((((((((r_5.2 == 0) && (r_6.2.2 == 0)) && (r_7.2 == 0)) && (r_8.2 == 0)) && (r_9.2 == 0)) && r_10) && r_11) && (r_6.2.1 == 5)) then i6 r_7.1 else undef)⟩::⟨some 37,none,143,(bif ((((((((r_5.2 == 0) && (r_6.2.2 == 0)) && (r_7.2 == 0)) && (r_8.2 == 0)) && (r_9.2 == 0)) && r_10) && r_11) && (r_6.2.1 == 5)) then .bool (r_7.1 == 5) else undef)⟩::⟨some 38,none,144,.bool (((((((((r_5.2 == 0) && (r_6.2.2 == 0)) && (r_7.2 == 0)) && (r_8.2 == 0)) && (r_9.2 == 0)) && r_10) && r_11) && (r_6.2.1 == 5)) && (r_7.1 == 5))⟩::⟨some 39,none,145,.bool (((((((((r_5.2 == 0) && (r_6.2.2 == 0)) && (r_7.2 == 0)) && (r_8.2 == 0)) && (r_9.2 == 0)) && r_10) && r_11) && (r_6.2.1 == 5)) && (r_7.1 == 5))⟩::⟨some 40,none,146,(bif (((((((((r_5.2 == 0) && (r_6.2.2 == 0)) && (r_7.2 == 0)) && (r_8.2 == 0)) && (r_9.2 == 0)) && r_10) && r_11) && (r_6.2.1 == 5)) && (r_7.1 == 5)) then .slice p_5 r_8.1.length c_5 else undef)⟩::⟨some 41,none,147,(bif (((((((((r_5.2 == 0) && (r_6.2.2 == 0)) && (r_7.2 == 0)) && (r_8.2 == 0)) && (r_9.2 == 0)) && r_10) && r_11) && (r_6.2.1 == 5)) && (r_7.1 == 5)) then .agg #[i6 2,i6 3] else undef)⟩::⟨some 42,none,148,(bif (((((((((r_5.2 == 0) && (r_6.2.2 == 0)) && (r_7.2 == 0)) && (r_8.2 == 0)) && (r_9.2 == 0)) && r_10) && r_11) && (r_6.2.1 == 5)) && (r_7.1 == 5)) then .agg #[i6 0,i6 0] else undef)⟩::⟨some 43,none,149,(bif (((((((((r_5.2 == 0) && (r_6.2.2 == 0)) && (r_7.2 == 0)) && (r_8.2 == 0)) && (r_9.2 == 0)) && r_10) && r_11) && (r_6.2.1 == 5)) && (r_7.1 == 5)) then .agg #[i6 3,i6 4] else undef)⟩::⟨some 44,none,150,(bif (((((((((r_5.2 == 0) && (r_6.2.2 == 0)) && (r_7.2 == 0)) && (r_8.2 == 0)) && (r_9.2 == 0)) && r_10) && r_11) && (r_6.2.1 == 5)) && (r_7.1 == 5)) then .slice (some ⟨(θ 352).b,0,none⟩) 3 3 else undef)⟩::⟨some 45,none,151,(bif (((((((((r_5.2 == 0) && (r_6.2.2 == 0)) && (r_7.2 == 0)) && (r_8.2 == 0)) && (r_9.2 == 0)) && r_10) && r_11) && (r_6.2.1 == 5)) && (r_7.1 == 5)) then .bool r_12 else undef)⟩::⟨some 46,none,152,.bool ((((((((((r_5.2 == 0) && (r_6.2.2 == 0)) && (r_7.2 == 0)) && (r_8.2 == 0)) && (r_9.2 == 0)) && r_10) && r_11) && (r_6.2.1 == 5)) && (r_7.1 == 5)) && r_12)⟩::⟨some 47,none,153,.bool ((((((((((r_5.2 == 0) && (r_6.2.2 == 0)) && (r_7.2 == 0)) && (r_8.2 == 0)) && (r_9.2 == 0)) && r_10) && r_11) && (r_6.2.1 == 5)) && (r_7.1 == 5)) && r_12)⟩::⟨some 48,none,154,(bif ((((((((((r_5.2 == 0) && (r_6.2.2 == 0)) && (r_7.2 == 0)) && (r_8.2 == 0)) && (r_9.2 == 0)) && r_10) && r_11) && (r_6.2.1 == 5)) && (r_7.1 == 5)) && r_12) then .agg #[i6 r_9.1.Lo,i6 r_9.1.Hi] else undef)⟩::⟨some 49,none,155,(bif ((((((((((r_5.2 == 0) && (r_6.2.2 == 0)) && (r_7.2 == 0)) && (r_8.2 == 0)) && (r_9.2 == 0)) && r_10) && r_11) && (r_6.2.1 == 5)) && (r_7.1 == 5)) && r_12) then .agg #[i6 r_13.Lo,i6 r_13.Hi] else undef)⟩::⟨some 50,none,156,(bif ((((((((((r_5.2 == 0) && (r_6.2.2 == 0)) && (r_7.2 == 0)) && (r_8.2 == 0)) && (r_9.2 == 0)) && r_10) && r_11) && (r_6.2.1 == 5)) && (r_7.1 == 5)) && r_12) then .bool (r_9.1.Lo == r_13.Lo && r_9.1.Hi == r_13.Hi) else undef)⟩::⟨some 51,none,157,.bool (((((((((((r_5.2 == 0) && (r_6.2.2 == 0)) && (r_7.2 == 0)) && (r_8.2 == 0)) && (r_9.2 == 0)) && r_10) && r_11) && (r_6.2.1 == 5)) && (r_7.1 == 5)) && r_12) && (r_9.1.Lo == r_13.Lo && r_9.1.Hi == r_13.Hi))⟩::⟨some 52,none,0,.bool (((((((((((r_5.2 == 0) && (r_6.2.2 == 0)) && (r_7.2 == 0)) && (r_8.2 == 0)) && (r_9.2 == 0)) && r_10) && r_11) && (r_6.2.1 == 5)) && (r_7.1 == 5)) && r_12) && (r_9.1.Lo == r_13.Lo && r_9.1.Hi == r_13.Hi))⟩::[])) (fun E θ => (bif E 44 then (gE (((((((((r_5.2 == 0) && (r_6.2.2 == 0)) && (r_7.2 == 0)) && (r_8.2 == 0)) && (r_9.2 == 0)) && r_10) && r_11) && (r_6.2.1 == 5)) && (r_7.1 == 5)) (.row (some ⟨(θ 352).b,0,none⟩) 3 (([(⟨2,3⟩ : api_Span),(⟨0,0⟩ : api_Span),(⟨3,4⟩ : api_Span)] : List api_Span).map enc_api_Span) 38 2)) else .row none 0 [] 0 0)::(bif E 28 then (gE ((((((r_5.2 == 0) && (r_6.2.2 == 0)) && (r_7.2 == 0)) && (r_8.2 == 0)) && (r_9.2 == 0)) && r_10) (.row (some ⟨(θ 224).b,0,none⟩) 3 (([2,0,3] : List Int).map encI_i64) 3 1)) else .row none 0 [] 0 0)::(bif E 23 then (gE (((((r_5.2 == 0) && (r_6.2.2 == 0)) && (r_7.2 == 0)) && (r_8.2 == 0)) && (r_9.2 == 0)) (.row (some ⟨(θ 184).b,0,none⟩) 3 (([(⟨2,4⟩ : api_Span),(⟨0,0⟩ : api_Span),(⟨3,8⟩ : api_Span)] : List api_Span).map enc_api_Span) 38 2)) else .row none 0 [] 0 0)::.box b_7 [i6 r_9.1.Lo,i6 r_9.1.Hi] 38::.row p_1 c_1 (r.Rating.map enc_shift_Mark) 61 2::.row p_2 c_2 (r.Gaugings.map enc_shift_Gauging) 50 4::.row p_5 c_5 (r_8.1.map enc_api_Span) 38 2::.row (some ⟨b_6,0,none⟩) 3 (([(⟨0,false⟩ : shift_Turn),(⟨1,true⟩ : shift_Turn),(⟨2,false⟩ : shift_Turn)] : List shift_Turn).map enc_shift_Turn) 94 2::.row p_4 c_4 (r_6.1.map encI_i64) 3 1::.row p_3 c_3 (r_5.1.map enc_api_Span) 38 2::.box b_1 [.slice p_1 r.Rating.length c_1,.slice p_2 r.Gaugings.length c_2] 29::Lf) [] (fun a w => Has 158 a [(0,.bool (((((((((((r_5.2 == 0) && (r_6.2.2 == 0)) && (r_7.2 == 0)) && (r_8.2 == 0)) && (r_9.2 == 0)) && r_10) && r_11) && (r_6.2.1 == 5)) && (r_7.1 == 5)) && r_12) && (r_9.1.Lo == r_13.Lo && r_9.1.Hi == r_13.Hi)))] ∧ Ctx G (.box b_7 [i6 r_9.1.Lo,i6 r_9.1.Hi] 38::.row p_1 c_1 (r.Rating.map enc_shift_Mark) 61 2::.row p_2 c_2 (r.Gaugings.map enc_shift_Gauging) 50 4::.row p_5 c_5 (r_8.1.map enc_api_Span) 38 2::.row (some ⟨b_6,0,none⟩) 3 (([(⟨0,false⟩ : shift_Turn),(⟨1,true⟩ : shift_Turn),(⟨2,false⟩ : shift_Turn)] : List shift_Turn).map enc_shift_Turn) 94 2::.row p_4 c_4 (r_6.1.map encI_i64) 3 1::.row p_3 c_3 (r_5.1.map enc_api_Span) 38 2::.box b_1 [.slice p_1 r.Rating.length c_1,.slice p_2 r.Gaugings.length c_2] 29::Lf) w) follows_mx (by kernel_rfl) (by kernel_rfl) (HasE.of hf ⟨rfl,rfl,rfl,rfl,rfl,rfl,rfl,rfl,rfl,rfl,rfl,trivial,trivial,trivial,trivial,trivial,trivial,trivial,trivial,trivial,trivial,trivial,trivial,trivial,trivial,trivial,trivial,trivial,trivial,trivial,trivial,trivial,trivial,trivial,trivial,trivial,trivial,trivial,trivial,trivial,trivial,trivial,trivial,trivial,trivial,trivial,trivial,trivial,trivial,trivial,trivial,trivial,trivial,trivial,trivial,trivial,trivial,trivial,trivial,trivial,trivial,trivial,trivial,trivial,trivial⟩) hc ⟨?_,?_,?_,?_,?_,?_,?_,?_,?_,?_,?_,?_,?_,?_,?_,?_,?_,?_,?_,?_,?_,?_,?_,?_,?_,?_,?_,?_,?_,?_,?_,?_,?_,?_,?_,?_,?_,?_,?_,?_,?_,?_,?_,?_,?_,?_,?_,?_,?_,?_,?_,?_,?_,trivial⟩ ?_ ?_
  ·intro E θ a w hD hi hp he hc
   have hf := he.h0.mT he 0 rfl
   refine sp 1 hf rfl fun a hf => zD θ he hi hf 11 rfl rfl rfl hc
  ·intro E θ a w hD hi hp he hc
   have e0 := hp.o 0 rfl
   have hf := he.h0.mP he 11 rfl e0
   refine sp 1 hf rfl fun a hf => zD θ he hi hf 12 rfl rfl rfl hc
  ·intro E θ a w hD hi hp he hc
   have e1 := hp.o 1 rfl
   have hf := he.h0.mP he 12 rfl e1
   refine sp 1 hf rfl fun a hf => zD θ he hi hf 13 rfl rfl rfl hc
  ·intro E θ a w hD hi hp he hc
   have e2 := hp.o 2 rfl
   rcases boolEq (r_5.2 == 0) with hb | hb
   ·have hf := (he.h0.mT he 1 rfl).mP he 13 rfl e2
    replace hf := castB hb hf
    refine sp 1 hf rfl fun a hf => ?_
    replace hf := castI (u := undef) hb hf
    exact zD θ he hi hf 14 rfl rfl rfl hc
   ·have hf := (he.h0.mT he 1 rfl).mP he 13 rfl e2
    replace hf := castB hb hf
    refine stS hf rfl rfl rfl fun a hf => ?_
    replace hf := castJ (u := i6 r_6.2.2) hb hf
    exact zD θ he hi hf 14 rfl rfl rfl hc
  ·intro E θ a w hD hi hp he hc
   have e2 := hp.o 2 rfl
   have e3 := hp.o 3 rfl
   rcases boolEq (r_5.2 == 0) with hb | hb
   ·have hf := he.h0.mP he 13 rfl e2
    replace hf := castB hb hf
    replace hf := hf.more he 14 rfl (onP e3)
    replace hf := castCT hb hf
    refine sp 1 hf rfl fun a hf => ?_
    replace hf := castI (u := undef) hb hf
    exact zD θ he hi hf 15 rfl rfl rfl hc
   ·have hf := he.h0.mP he 13 rfl e2
    replace hf := castB hb hf
    replace hf := hf.more he 14 rfl (onP e3)
    replace hf := castCF hb hf
    refine stS hf rfl rfl rfl fun a hf => ?_
    replace hf := castJ (u := .bool (r_6.2.2 == 0)) hb hf
    exact zD θ he hi hf 15 rfl rfl rfl hc
  ·intro E θ a w hD hi hp he hc
   have e2 := hp.o 2 rfl
   have e4 := hp.o 4 rfl
   rcases boolEq (r_5.2 == 0) with hb | hb
   ·have hf := he.h0.mP he 13 rfl e2
    replace hf := castB hb hf
    replace hf := hf.more he 15 rfl (onP e4)
    replace hf := castCT hb hf
    refine sp 1 hf rfl fun a hf => ?_
    replace hf := castV (v' := .bool ((r_5.2 == 0) && (r_6.2.2 == 0))) (congrArg Value.bool (andT hb)) hf
    exact zD θ he hi hf 16 rfl rfl rfl hc
   ·have hf := he.h0.mP he 13 rfl e2
    replace hf := castB hb hf
    replace hf := hf.more he 15 rfl (onP e4)
    replace hf := castCF hb hf
    refine sp 1 hf rfl fun a hf => ?_
    replace hf := castV (v' := .bool ((r_5.2 == 0) && (r_6.2.2 == 0))) (congrArg Value.bool (andF hb)) hf
    exact zD θ he hi hf 16 rfl rfl rfl hc
  ·intro E θ a w hD hi hp he hc
   have e5 := hp.o 5 rfl
   have hf := he.h0.mP he 16 rfl e5
   refine sp 1 hf rfl fun a hf => zD θ he hi hf 17 rfl rfl rfl hc
  ·intro E θ a w hD hi hp he hc
   have e6 := hp.o 6 rfl
   rcases boolEq ((r_5.2 == 0) && (r_6.2.2 == 0)) with hb | hb
   ·have hf := (he.h0.mT he 2 rfl).mP he 17 rfl e6
    replace hf := castB hb hf
    refine sp 1 hf rfl fun a hf => ?_
    replace hf := castI (u := undef) hb hf
    exact zD θ he hi hf 18 rfl rfl rfl hc
   ·have hf := (he.h0.mT he 2 rfl).mP he 17 rfl e6
    replace hf := castB hb hf
    refine stS hf rfl rfl rfl fun a hf => ?_
    replace hf := castJ (u := i6 r_7.2) hb hf
    exact zD θ he hi hf 18 rfl rfl rfl hc
  ·intro E θ a w hD hi hp he hc
   have e6 := hp.o 6 rfl
   have e7 := hp.o 7 rfl
   rcases boolEq ((r_5.2 == 0) && (r_6.2.2 == 0)) with hb | hb
   ·have hf := he.h0.mP he 17 rfl e6
    replace hf := castB hb hf
    replace hf := hf.more he 18 rfl (onP e7)
    replace hf := castCT hb hf
    refine sp 1 hf rfl fun a hf => ?_
    replace hf := castI (u := undef) hb hf
    exact zD θ he hi hf 19 rfl rfl rfl hc
   ·have hf := he.h0.mP he 17 rfl e6
    replace hf := castB hb hf
    replace hf := hf.more he 18 rfl (onP e7)
    replace hf := castCF hb hf
    refine stS hf rfl rfl rfl fun a hf => ?_
    replace hf := castJ (u := .bool (r_7.2 == 0)) hb hf
    exact zD θ he hi hf 19 rfl rfl rfl hc
  ·intro E θ a w hD hi hp he hc
   have e6 := hp.o 6 rfl
   have e8 := hp.o 8 rfl
   rcases boolEq ((r_5.2 == 0) && (r_6.2.2 == 0)) with hb | hb
   ·have hf := he.h0.mP he 17 rfl e6
    replace hf := castB hb hf
    replace hf := hf.more he 19 rfl (onP e8)
    replace hf := castCT hb hf
    refine sp 1 hf rfl fun a hf => ?_
    replace hf := castV (v' := .bool (((r_5.2 == 0) && (r_6.2.2 == 0)) && (r_7.2 == 0))) (congrArg Value.bool (andT hb)) hf
    exact zD θ he hi hf 20 rfl rfl rfl hc
   ·have hf := he.h0.mP he 17 rfl e6
    replace hf := castB hb hf
    replace hf := hf.more he 19 rfl (onP e8)
    replace hf := castCF hb hf
    refine sp 1 hf rfl fun a hf => ?_
    replace hf := castV (v' := .bool (((r_5.2 == 0) && (r_6.2.2 == 0)) && (r_7.2 == 0))) (congrArg Value.bool (andF hb)) hf
    exact zD θ he hi hf 20 rfl rfl rfl hc
  ·intro E θ a w hD hi hp he hc
   have e9 := hp.o 9 rfl
   have hf := he.h0.mP he 20 rfl e9
   refine sp 1 hf rfl fun a hf => zD θ he hi hf 21 rfl rfl rfl hc
  ·intro E θ a w hD hi hp he hc
   have e10 := hp.o 10 rfl
   rcases boolEq (((r_5.2 == 0) && (r_6.2.2 == 0)) && (r_7.2 == 0)) with hb | hb
   ·have hf := (he.h0.mT he 3 rfl).mP he 21 rfl e10
    replace hf := castB hb hf
    refine sp 1 hf rfl fun a hf => ?_
    replace hf := castI (u := undef) hb hf
    exact zD θ he hi hf 22 rfl rfl rfl hc
   ·have hf := (he.h0.mT he 3 rfl).mP he 21 rfl e10
    replace hf := castB hb hf
    refine stS hf rfl rfl rfl fun a hf => ?_
    replace hf := castJ (u := i6 r_8.2) hb hf
    exact zD θ he hi hf 22 rfl rfl rfl hc
  ·intro E θ a w hD hi hp he hc
   have e10 := hp.o 10 rfl
   have e11 := hp.o 11 rfl
   rcases boolEq (((r_5.2 == 0) && (r_6.2.2 == 0)) && (r_7.2 == 0)) with hb | hb
   ·have hf := he.h0.mP he 21 rfl e10
    replace hf := castB hb hf
    replace hf := hf.more he 22 rfl (onP e11)
    replace hf := castCT hb hf
    refine sp 1 hf rfl fun a hf => ?_
    replace hf := castI (u := undef) hb hf
    exact zD θ he hi hf 23 rfl rfl rfl hc
   ·have hf := he.h0.mP he 21 rfl e10
    replace hf := castB hb hf
    replace hf := hf.more he 22 rfl (onP e11)
    replace hf := castCF hb hf
    refine stS hf rfl rfl rfl fun a hf => ?_
    replace hf := castJ (u := .bool (r_8.2 == 0)) hb hf
    exact zD θ he hi hf 23 rfl rfl rfl hc
  ·intro E θ a w hD hi hp he hc
   have e10 := hp.o 10 rfl
   have e12 := hp.o 12 rfl
   rcases boolEq (((r_5.2 == 0) && (r_6.2.2 == 0)) && (r_7.2 == 0)) with hb | hb
   ·have hf := he.h0.mP he 21 rfl e10
    replace hf := castB hb hf
    replace hf := hf.more he 23 rfl (onP e12)
    replace hf := castCT hb hf
    refine sp 1 hf rfl fun a hf => ?_
    replace hf := castV (v' := .bool ((((r_5.2 == 0) && (r_6.2.2 == 0)) && (r_7.2 == 0)) && (r_8.2 == 0))) (congrArg Value.bool (andT hb)) hf
    exact zD θ he hi hf 24 rfl rfl rfl hc
   ·have hf := he.h0.mP he 21 rfl e10
    replace hf := castB hb hf
    replace hf := hf.more he 23 rfl (onP e12)
    replace hf := castCF hb hf
    refine sp 1 hf rfl fun a hf => ?_
    replace hf := castV (v' := .bool ((((r_5.2 == 0) && (r_6.2.2 == 0)) && (r_7.2 == 0)) && (r_8.2 == 0))) (congrArg Value.bool (andF hb)) hf
    exact zD θ he hi hf 24 rfl rfl rfl hc
  ·intro E θ a w hD hi hp he hc
   have e13 := hp.o 13 rfl
   have hf := he.h0.mP he 24 rfl e13
   refine sp 1 hf rfl fun a hf => zD θ he hi hf 25 rfl rfl rfl hc
  ·intro E θ a w hD hi hp he hc
   have e14 := hp.o 14 rfl
   rcases boolEq ((((r_5.2 == 0) && (r_6.2.2 == 0)) && (r_7.2 == 0)) && (r_8.2 == 0)) with hb | hb
   ·have hf := (he.h0.mT he 10 rfl).mP he 25 rfl e14
    replace hf := castB hb hf
    refine sp 1 hf rfl fun a hf => ?_
    replace hf := castI (u := undef) hb hf
    exact zD θ he hi hf 26 rfl rfl rfl hc
   ·have hf := (he.h0.mT he 10 rfl).mP he 25 rfl e14
    replace hf := castB hb hf
    refine stS hf rfl rfl rfl fun a hf => ?_
    replace hf := castJ (u := i6 r_9.2) hb hf
    exact zD θ he hi hf 26 rfl rfl rfl hc
  ·intro E θ a w hD hi hp he hc
   have e14 := hp.o 14 rfl
   have e15 := hp.o 15 rfl
   rcases boolEq ((((r_5.2 == 0) && (r_6.2.2 == 0)) && (r_7.2 == 0)) && (r_8.2 == 0)) with hb | hb
   ·have hf := he.h0.mP he 25 rfl e14
    replace hf := castB hb hf
    replace hf := hf.more he 26 rfl (onP e15)
    replace hf := castCT hb hf
    refine sp 1 hf rfl fun a hf => ?_
    replace hf := castI (u := undef) hb hf
    exact zD θ he hi hf 27 rfl rfl rfl hc
   ·have hf := he.h0.mP he 25 rfl e14
    replace hf := castB hb hf
    replace hf := hf.more he 26 rfl (onP e15)
    replace hf := castCF hb hf
    refine stS hf rfl rfl rfl fun a hf => ?_
    replace hf := castJ (u := .bool (r_9.2 == 0)) hb hf
    exact zD θ he hi hf 27 rfl rfl rfl hc
  ·intro E θ a w hD hi hp he hc
   have e14 := hp.o 14 rfl
   have e16 := hp.o 16 rfl
   rcases boolEq ((((r_5.2 == 0) && (r_6.2.2 == 0)) && (r_7.2 == 0)) && (r_8.2 == 0)) with hb | hb
   ·have hf := he.h0.mP he 25 rfl e14
    replace hf := castB hb hf
    replace hf := hf.more he 27 rfl (onP e16)
    replace hf := castCT hb hf
    refine sp 1 hf rfl fun a hf => ?_
    replace hf := castV (v' := .bool (((((r_5.2 == 0) && (r_6.2.2 == 0)) && (r_7.2 == 0)) && (r_8.2 == 0)) && (r_9.2 == 0))) (congrArg Value.bool (andT hb)) hf
    exact zD θ he hi hf 28 rfl rfl rfl hc
   ·have hf := he.h0.mP he 25 rfl e14
    replace hf := castB hb hf
    replace hf := hf.more he 27 rfl (onP e16)
    replace hf := castCF hb hf
    refine sp 1 hf rfl fun a hf => ?_
    replace hf := castV (v' := .bool (((((r_5.2 == 0) && (r_6.2.2 == 0)) && (r_7.2 == 0)) && (r_8.2 == 0)) && (r_9.2 == 0))) (congrArg Value.bool (andF hb)) hf
    exact zD θ he hi hf 28 rfl rfl rfl hc
  ·intro E θ a w hD hi hp he hc
   have e17 := hp.o 17 rfl
   have hf := he.h0.mP he 28 rfl e17
   refine sp 1 hf rfl fun a hf => zD θ he hi hf 29 rfl rfl rfl hc
  ·intro E θ a w hD hi hp he hc
   have e18 := hp.o 18 rfl
   rcases boolEq (((((r_5.2 == 0) && (r_6.2.2 == 0)) && (r_7.2 == 0)) && (r_8.2 == 0)) && (r_9.2 == 0)) with hb | hb
   ·have hf := (he.h0.mT he 4 rfl).mP he 29 rfl e18
    replace hf := castB hb hf
    refine sp 1 hf rfl fun a hf => ?_
    replace hf := castI (u := undef) hb hf
    exact zD θ he hi hf 30 rfl rfl rfl hc
   ·have hf := (he.h0.mT he 4 rfl).mP he 29 rfl e18
    replace hf := castB hb hf
    refine stS hf rfl rfl rfl fun a hf => ?_
    replace hf := castJ (u := .slice p_3 r_5.1.length c_3) hb hf
    exact zD θ he hi hf 30 rfl rfl rfl hc
  ·intro E θ a w hD hi hp he hc
   have e18 := hp.o 18 rfl
   rcases boolEq (((((r_5.2 == 0) && (r_6.2.2 == 0)) && (r_7.2 == 0)) && (r_8.2 == 0)) && (r_9.2 == 0)) with hb | hb
   ·have hf := he.h0.mP he 29 rfl e18
    replace hf := castB hb hf
    refine zP hf rfl (pBuildS (cells := [i6 2,i6 4]) bt_38 rfl rfl) fun a hf => ?_
    replace hf := castI (u := undef) hb hf
    exact zD θ he hi hf 31 rfl rfl rfl hc
   ·have hf := he.h0.mP he 29 rfl e18
    replace hf := castB hb hf
    refine stS hf rfl rfl rfl fun a hf => ?_
    replace hf := castJ (u := .agg #[i6 2,i6 4]) hb hf
    exact zD θ he hi hf 31 rfl rfl rfl hc
  ·intro E θ a w hD hi hp he hc
   have e18 := hp.o 18 rfl
   rcases boolEq (((((r_5.2 == 0) && (r_6.2.2 == 0)) && (r_7.2 == 0)) && (r_8.2 == 0)) && (r_9.2 == 0)) with hb | hb
   ·have hf := he.h0.mP he 29 rfl e18
    replace hf := castB hb hf
    refine zP hf rfl (pBuildS (cells := [i6 0,i6 0]) bt_38 rfl rfl) fun a hf => ?_
    replace hf := castI (u := undef) hb hf
    exact zD θ he hi hf 32 rfl rfl rfl hc
   ·have hf := he.h0.mP he 29 rfl e18
    replace hf := castB hb hf
    refine stS hf rfl rfl rfl fun a hf => ?_
    replace hf := castJ (u := .agg #[i6 0,i6 0]) hb hf
    exact zD θ he hi hf 32 rfl rfl rfl hc
  ·intro E θ a w hD hi hp he hc
   have e18 := hp.o 18 rfl
   rcases boolEq (((((r_5.2 == 0) && (r_6.2.2 == 0)) && (r_7.2 == 0)) && (r_8.2 == 0)) && (r_9.2 == 0)) with hb | hb
   ·have hf := he.h0.mP he 29 rfl e18
    replace hf := castB hb hf
    refine zP hf rfl (pBuildS (cells := [i6 3,i6 8]) bt_38 rfl rfl) fun a hf => ?_
    replace hf := castI (u := undef) hb hf
    exact zD θ he hi hf 33 rfl rfl rfl hc
   ·have hf := he.h0.mP he 29 rfl e18
    replace hf := castB hb hf
    refine stS hf rfl rfl rfl fun a hf => ?_
    replace hf := castJ (u := .agg #[i6 3,i6 8]) hb hf
    exact zD θ he hi hf 33 rfl rfl rfl hc
  ·intro E θ a w hD hi hp he hc
   have e18 := hp.o 18 rfl
   have e20 := hp.o 20 rfl
   have e21 := hp.o 21 rfl
   have e22 := hp.o 22 rfl
   try dsimp only at hc
   rw [hi] at hc
   rcases boolEq (((((r_5.2 == 0) && (r_6.2.2 == 0)) && (r_7.2 == 0)) && (r_8.2 == 0)) && (r_9.2 == 0)) with hb | hb
   ·have hf := he.h0.mP he 29 rfl e18
    replace hf := castB hb hf
    replace hf := hf.more he 31 rfl (onP e20)
    replace hf := castCT hb hf
    replace hf := hf.more he 32 rfl (onP e21)
    replace hf := castCT hb hf
    replace hf := hf.more he 33 rfl (onP e22)
    replace hf := castCT hb hf
    refine stBS (rows := ([(⟨2,4⟩ : api_Span),(⟨0,0⟩ : api_Span),(⟨3,8⟩ : api_Span)] : List api_Span).map enc_api_Span) (vs := [(0,.agg #[i6 2,i6 4]),(1,.agg #[i6 0,i6 0]),(2,.agg #[i6 3,i6 8])]) hf hc rfl rfl sl_51 rfl ⟨rfl,rfl,rfl,rfl,rfl,rfl,rfl,rfl,rfl,trivial⟩ rfl rfl fun b_8 a w hf hc => ?_
    replace hf := castI (u := undef) hb hf
    refine cNil ?_
    refine xThenN ?_
    intro ds u hau
    replace hc := (((hc.drop k3).pick k0).pick k2).pick k2
    refine ⟨(setT θ 184 ⟨b_8,none,0,(fun _ => (none,0))⟩),he.put hi hau hf rfl [] trivial ⟨qq,qq,qq,qq,qq,qq,qq,qq,qq,qq,qq,qq,qq,qq,qq,qq,qq,qq,qq,qq,qq,qq,qq,qq,qq,qq,qq,qq,qq,qq,qq,qq,qq,qq,qq,qq,qq,qq,qq,qq,qq,qq,qq,qq,qq,qq,qq,qq,qq,qq,qq,qq,qq,qq,qq,qq,qq,qq,qq,qq,qq,qq,qq,qq,trivial⟩,?_⟩
    try dsimp only
    rw [updE_self E 23]
    rw [gE_T hb]
    exact hc
   ·have hf := he.h0.mP he 29 rfl e18
    replace hf := castB hb hf
    replace hf := hf.more he 31 rfl (onP e20)
    replace hf := castCF hb hf
    replace hf := hf.more he 32 rfl (onP e21)
    replace hf := castCF hb hf
    replace hf := hf.more he 33 rfl (onP e22)
    replace hf := castCF hb hf
    refine stS hf rfl rfl rfl fun a hf => ?_
    replace hf := castJ (u := .slice (some ⟨(θ 184).b,0,none⟩) 3 3) hb hf
    refine zD θ he hi hf 34 rfl rfl rfl ?_
    try dsimp only
    rw [updE_self E 23]
    rw [gE_F hb]
    exact hc
  ·intro E θ a w hD hi hp he hc
   have e18 := hp.o 18 rfl
   have e19 := hp.o 19 rfl
   have e23 := hp.o 23 rfl
   try dsimp only at hc
   rw [e23] at hc
   rcases boolEq (((((r_5.2 == 0) && (r_6.2.2 == 0)) && (r_7.2 == 0)) && (r_8.2 == 0)) && (r_9.2 == 0)) with hb | hb
   ·have hf := he.h0.mP he 29 rfl e18
    replace hf := castB hb hf
    replace hf := hf.more he 30 rfl (onP e19)
    replace hf := castCT hb hf
    replace hf := hf.more he 34 rfl (onP e23)
    replace hf := castCT hb hf
    rw [gE_T hb] at hc
    refine zQ (v := .bool r_10) hf hc en_28 rfl (fun w hc => by obtain ⟨G1,hle1,hrd1,hc,hth1⟩ := lend hc k9; obtain ⟨G2,hle2,hrd2,hc,hth2⟩ := lend hc k2; exact (kit_Same_api_Span_ok r_5.1 ([(⟨2,4⟩ : api_Span),(⟨0,0⟩ : api_Span),(⟨3,8⟩ : api_Span)] : List api_Span) (hrd1.mono hle2) hrd2 hc (condT hb hr_10)).mono fun e w h => ⟨h.1,((hth1 _ _ ((hth2 _ _ h.2).unpick k2)).unpick k9)⟩) fun a w hf hc => ?_
    replace hf := castI (u := undef) hb hf
    refine zD θ he hi hf 35 rfl rfl rfl ?_
    try dsimp only
    rw [updE_tru 24 e23]
    rw [gE_T hb]
    exact hc
   ·have hf := he.h0.mP he 29 rfl e18
    replace hf := castB hb hf
    replace hf := hf.more he 30 rfl (onP e19)
    replace hf := castCF hb hf
    replace hf := hf.more he 34 rfl (onP e23)
    replace hf := castCF hb hf
    rw [gE_F hb] at hc
    refine stS hf rfl rfl rfl fun a hf => ?_
    replace hf := castJ (u := .bool r_10) hb hf
    refine zD θ he hi hf 35 rfl rfl rfl ?_
    try dsimp only
    rw [updE_tru 24 e23]
    rw [gE_F hb]
    exact hc
  ·intro E θ a w hD hi hp he hc
   have e18 := hp.o 18 rfl
   have e24 := hp.o 24 rfl
   rcases boolEq (((((r_5.2 == 0) && (r_6.2.2 == 0)) && (r_7.2 == 0)) && (r_8.2 == 0)) && (r_9.2 == 0)) with hb | hb
   ·have hf := he.h0.mP he 29 rfl e18
    replace hf := castB hb hf
    replace hf := hf.more he 35 rfl (onP e24)
    replace hf := castCT hb hf
    refine sp 1 hf rfl fun a hf => ?_
    replace hf := castV (v' := .bool ((((((r_5.2 == 0) && (r_6.2.2 == 0)) && (r_7.2 == 0)) && (r_8.2 == 0)) && (r_9.2 == 0)) && r_10)) (congrArg Value.bool (andT hb)) hf
    exact zD θ he hi hf 36 rfl rfl rfl hc
   ·have hf := he.h0.mP he 29 rfl e18
    replace hf := castB hb hf
    replace hf := hf.more he 35 rfl (onP e24)
    replace hf := castCF hb hf
    refine sp 1 hf rfl fun a hf => ?_
    replace hf := castV (v' := .bool ((((((r_5.2 == 0) && (r_6.2.2 == 0)) && (r_7.2 == 0)) && (r_8.2 == 0)) && (r_9.2 == 0)) && r_10)) (congrArg Value.bool (andF hb)) hf
    exact zD θ he hi hf 36 rfl rfl rfl hc
  ·intro E θ a w hD hi hp he hc
   have e25 := hp.o 25 rfl
   have hf := he.h0.mP he 36 rfl e25
   refine sp 1 hf rfl fun a hf => zD θ he hi hf 37 rfl rfl rfl hc
  ·intro E θ a w hD hi hp he hc
   have e26 := hp.o 26 rfl
   rcases boolEq ((((((r_5.2 == 0) && (r_6.2.2 == 0)) && (r_7.2 == 0)) && (r_8.2 == 0)) && (r_9.2 == 0)) && r_10) with hb | hb
   ·have hf := (he.h0.mT he 5 rfl).mP he 37 rfl e26
    replace hf := castB hb hf
    refine sp 1 hf rfl fun a hf => ?_
    replace hf := castI (u := undef) hb hf
    exact zD θ he hi hf 38 rfl rfl rfl hc
   ·have hf := (he.h0.mT he 5 rfl).mP he 37 rfl e26
    replace hf := castB hb hf
    refine stS hf rfl rfl rfl fun a hf => ?_
    replace hf := castJ (u := .slice p_4 r_6.1.length c_4) hb hf
    exact zD θ he hi hf 38 rfl rfl rfl hc
  ·intro E θ a w hD hi hp he hc
   have e26 := hp.o 26 rfl
   try dsimp only at hc
   rw [hi] at hc
   rcases boolEq ((((((r_5.2 == 0) && (r_6.2.2 == 0)) && (r_7.2 == 0)) && (r_8.2 == 0)) && (r_9.2 == 0)) && r_10) with hb | hb
   ·have hf := he.h0.mP he 37 rfl e26
    replace hf := castB hb hf
    refine stBS (rows := ([2,0,3] : List Int).map encI_i64) (vs := [(0,i6 2),(1,i6 0),(2,i6 3)]) hf hc rfl rfl sl_30 rfl ⟨rfl,rfl,rfl,rfl,rfl,rfl,rfl,rfl,rfl,trivial⟩ rfl rfl fun b_9 a w hf hc => ?_
    replace hf := castI (u := undef) hb hf
    refine cNil ?_
    refine xThenN ?_
    intro ds u hau
    replace hc := ((hc.drop k2).pick k0).pick k1
    refine ⟨(setT θ 224 ⟨b_9,none,0,(fun _ => (none,0))⟩),he.put hi hau hf rfl [] trivial ⟨qq,qq,qq,qq,qq,qq,qq,qq,qq,qq,qq,qq,qq,qq,qq,qq,qq,qq,qq,qq,qq,qq,qq,qq,qq,qq,qq,qq,qq,qq,qq,qq,qq,qq,qq,qq,qq,qq,qq,qq,qq,qq,qq,qq,qq,qq,qq,qq,qq,qq,qq,qq,qq,qq,qq,qq,qq,qq,qq,qq,qq,qq,qq,qq,trivial⟩,?_⟩
    try dsimp only
    rw [updE_self E 28]
    rw [gE_T hb]
    exact hc
   ·have hf := he.h0.mP he 37 rfl e26
    replace hf := castB hb hf
    refine stS hf rfl rfl rfl fun a hf => ?_
    replace hf := castJ (u := .slice (some ⟨(θ 224).b,0,none⟩) 3 3) hb hf
    refine zD θ he hi hf 39 rfl rfl rfl ?_
    try dsimp only
    rw [updE_self E 28]
    rw [gE_F hb]
    exact hc
  ·intro E θ a w hD hi hp he hc
   have e26 := hp.o 26 rfl
   have e27 := hp.o 27 rfl
   have e28 := hp.o 28 rfl
   try dsimp only at hc
   rw [e28] at hc
   rcases boolEq ((((((r_5.2 == 0) && (r_6.2.2 == 0)) && (r_7.2 == 0)) && (r_8.2 == 0)) && (r_9.2 == 0)) && r_10) with hb | hb
   ·have hf := he.h0.mP he 37 rfl e26
    replace hf := castB hb hf
    replace hf := hf.more he 38 rfl (onP e27)
    replace hf := castCT hb hf
    replace hf := hf.more he 39 rfl (onP e28)
    replace hf := castCT hb hf
    rw [gE_T hb] at hc
    refine zQ (v := .bool r_11) hf hc en_29 rfl (fun w hc => by obtain ⟨G1,hle1,hrd1,hc,hth1⟩ := lend hc k8; obtain ⟨G2,hle2,hrd2,hc,hth2⟩ := lend hc k1; exact (kit_Same_int_ok r_6.1 ([2,0,3] : List Int) (hrd1.mono hle2) hrd2 hc (condT hb hr_11)).mono fun e w h => ⟨h.1,((hth1 _ _ ((hth2 _ _ h.2).unpick k1)).unpick k8)⟩) fun a w hf hc => ?_
    replace hf := castI (u := undef) hb hf
    refine zD θ he hi hf 40 rfl rfl rfl ?_
    try dsimp only
    rw [updE_tru 29 e28]
    rw [gE_T hb]
    exact hc
   ·have hf := he.h0.mP he 37 rfl e26
    replace hf := castB hb hf
    replace hf := hf.more he 38 rfl (onP e27)
    replace hf := castCF hb hf
    replace hf := hf.more he 39 rfl (onP e28)
    replace hf := castCF hb hf
    rw [gE_F hb] at hc
    refine stS hf rfl rfl rfl fun a hf => ?_
    replace hf := castJ (u := .bool r_11) hb hf
    refine zD θ he hi hf 40 rfl rfl rfl ?_
    try dsimp only
    rw [updE_tru 29 e28]
    rw [gE_F hb]
    exact hc
  ·intro E θ a w hD hi hp he hc
   have e26 := hp.o 26 rfl
   have e29 := hp.o 29 rfl
   rcases boolEq ((((((r_5.2 == 0) && (r_6.2.2 == 0)) && (r_7.2 == 0)) && (r_8.2 == 0)) && (r_9.2 == 0)) && r_10) with hb | hb
   ·have hf := he.h0.mP he 37 rfl e26
    replace hf := castB hb hf
    replace hf := hf.more he 40 rfl (onP e29)
    replace hf := castCT hb hf
    refine sp 1 hf rfl fun a hf => ?_
    replace hf := castV (v' := .bool (((((((r_5.2 == 0) && (r_6.2.2 == 0)) && (r_7.2 == 0)) && (r_8.2 == 0)) && (r_9.2 == 0)) && r_10) && r_11)) (congrArg Value.bool (andT hb)) hf
    exact zD θ he hi hf 41 rfl rfl rfl hc
   ·have hf := he.h0.mP he 37 rfl e26
    replace hf := castB hb hf
    replace hf := hf.more he 40 rfl (onP e29)
    replace hf := castCF hb hf
    refine sp 1 hf rfl fun a hf => ?_
    replace hf := castV (v' := .bool (((((((r_5.2 == 0) && (r_6.2.2 == 0)) && (r_7.2 == 0)) && (r_8.2 == 0)) && (r_9.2 == 0)) && r_10) && r_11)) (congrArg Value.bool (andF hb)) hf
    exact zD θ he hi hf 41 rfl rfl rfl hc
  ·intro E θ a w hD hi hp he hc
   have e30 := hp.o 30 rfl
   have hf := he.h0.mP he 41 rfl e30
   refine sp 1 hf rfl fun a hf => zD θ he hi hf 42 rfl rfl rfl hc
  ·intro E θ a w hD hi hp he hc
   have e31 := hp.o 31 rfl
   rcases boolEq (((((((r_5.2 == 0) && (r_6.2.2 == 0)) && (r_7.2 == 0)) && (r_8.2 == 0)) && (r_9.2 == 0)) && r_10) && r_11) with hb | hb
   ·have hf := (he.h0.mT he 6 rfl).mP he 42 rfl e31
    replace hf := castB hb hf
    refine sp 1 hf rfl fun a hf => ?_
    replace hf := castI (u := undef) hb hf
    exact zD θ he hi hf 43 rfl rfl rfl hc
   ·have hf := (he.h0.mT he 6 rfl).mP he 42 rfl e31
    replace hf := castB hb hf
    refine stS hf rfl rfl rfl fun a hf => ?_
    replace hf := castJ (u := i6 r_6.2.1) hb hf
    exact zD θ he hi hf 43 rfl rfl rfl hc
  ·intro E θ a w hD hi hp he hc
   have e31 := hp.o 31 rfl
   have e32 := hp.o 32 rfl
   rcases boolEq (((((((r_5.2 == 0) && (r_6.2.2 == 0)) && (r_7.2 == 0)) && (r_8.2 == 0)) && (r_9.2 == 0)) && r_10) && r_11) with hb | hb
   ·have hf := he.h0.mP he 42 rfl e31
    replace hf := castB hb hf
    replace hf := hf.more he 43 rfl (onP e32)
    replace hf := castCT hb hf
    refine sp 1 hf rfl fun a hf => ?_
    replace hf := castI (u := undef) hb hf
    exact zD θ he hi hf 44 rfl rfl rfl hc
   ·have hf := he.h0.mP he 42 rfl e31
    replace hf := castB hb hf
    replace hf := hf.more he 43 rfl (onP e32)
    replace hf := castCF hb hf
    refine stS hf rfl rfl rfl fun a hf => ?_
    replace hf := castJ (u := .bool (r_6.2.1 == 5)) hb hf
    exact zD θ he hi hf 44 rfl rfl rfl hc
  ·intro E θ a w hD hi hp he hc
   have e31 := hp.o 31 rfl
   have e33 := hp.o 33 rfl
   rcases boolEq (((((((r_5.2 == 0) && (r_6.2.2 == 0)) && (r_7.2 == 0)) && (r_8.2 == 0)) && (r_9.2 == 0)) && r_10) && r_11) with hb | hb
   ·have hf := he.h0.mP he 42 rfl e31
    replace hf := castB hb hf
    replace hf := hf.more he 44 rfl (onP e33)
    replace hf := castCT hb hf
    refine sp 1 hf rfl fun a hf => ?_
    replace hf := castV (v' := .bool ((((((((r_5.2 == 0) && (r_6.2.2 == 0)) && (r_7.2 == 0)) && (r_8.2 == 0)) && (r_9.2 == 0)) && r_10) && r_11) && (r_6.2.1 == 5))) (congrArg Value.bool (andT hb)) hf
    exact zD θ he hi hf 45 rfl rfl rfl hc
   ·have hf := he.h0.mP he 42 rfl e31
    replace hf := castB hb hf
    replace hf := hf.more he 44 rfl (onP e33)
    replace hf := castCF hb hf
    refine sp 1 hf rfl fun a hf => ?_
    replace hf := castV (v' := .bool ((((((((r_5.2 == 0) && (r_6.2.2 == 0)) && (r_7.2 == 0)) && (r_8.2 == 0)) && (r_9.2 == 0)) && r_10) && r_11) && (r_6.2.1 == 5))) (congrArg Value.bool (andF hb)) hf
    exact zD θ he hi hf 45 rfl rfl rfl hc
  ·intro E θ a w hD hi hp he hc
   have e34 := hp.o 34 rfl
   have hf := he.h0.mP he 45 rfl e34
   refine sp 1 hf rfl fun a hf => zD θ he hi hf 46 rfl rfl rfl hc
  ·intro E θ a w hD hi hp he hc
   have e35 := hp.o 35 rfl
   rcases boolEq ((((((((r_5.2 == 0) && (r_6.2.2 == 0)) && (r_7.2 == 0)) && (r_8.2 == 0)) && (r_9.2 == 0)) && r_10) && r_11) && (r_6.2.1 == 5)) with hb | hb
   ·have hf := (he.h0.mT he 7 rfl).mP he 46 rfl e35
    replace hf := castB hb hf
    refine sp 1 hf rfl fun a hf => ?_
    replace hf := castI (u := undef) hb hf
    exact zD θ he hi hf 47 rfl rfl rfl hc
   ·have hf := (he.h0.mT he 7 rfl).mP he 46 rfl e35
    replace hf := castB hb hf
    refine stS hf rfl rfl rfl fun a hf => ?_
    replace hf := castJ (u := i6 r_7.1) hb hf
    exact zD θ he hi hf 47 rfl rfl rfl hc
  ·intro E θ a w hD hi hp he hc
   have e35 := hp.o 35 rfl
   have e36 := hp.o 36 rfl
   rcases boolEq ((((((((r_5.2 == 0) && (r_6.2.2 == 0)) && (r_7.2 == 0)) && (r_8.2 == 0)) && (r_9.2 == 0)) && r_10) && r_11) && (r_6.2.1 == 5)) with hb | hb
   ·have hf := he.h0.mP he 46 rfl e35
    replace hf := castB hb hf
    replace hf := hf.more he 47 rfl (onP e36)
    replace hf := castCT hb hf
    refine sp 1 hf rfl fun a hf => ?_
    replace hf := castI (u := undef) hb hf
    exact zD θ he hi hf 48 rfl rfl rfl hc
   ·have hf := he.h0.mP he 46 rfl e35
    replace hf := castB hb hf
    replace hf := hf.more he 47 rfl (onP e36)
    replace hf := castCF hb hf
    refine stS hf rfl rfl rfl fun a hf => ?_
    replace hf := castJ (u := .bool (r_7.1 == 5)) hb hf
    exact zD θ he hi hf 48 rfl rfl rfl hc
  ·intro E θ a w hD hi hp he hc
   have e35 := hp.o 35 rfl
   have e37 := hp.o 37 rfl
   rcases boolEq ((((((((r_5.2 == 0) && (r_6.2.2 == 0)) && (r_7.2 == 0)) && (r_8.2 == 0)) && (r_9.2 == 0)) && r_10) && r_11) && (r_6.2.1 == 5)) with hb | hb
   ·have hf := he.h0.mP he 46 rfl e35
    replace hf := castB hb hf
    replace hf := hf.more he 48 rfl (onP e37)
    replace hf := castCT hb hf
    refine sp 1 hf rfl fun a hf => ?_
    replace hf := castV (v' := .bool (((((((((r_5.2 == 0) && (r_6.2.2 == 0)) && (r_7.2 == 0)) && (r_8.2 == 0)) && (r_9.2 == 0)) && r_10) && r_11) && (r_6.2.1 == 5)) && (r_7.1 == 5))) (congrArg Value.bool (andT hb)) hf
    exact zD θ he hi hf 49 rfl rfl rfl hc
   ·have hf := he.h0.mP he 46 rfl e35
    replace hf := castB hb hf
    replace hf := hf.more he 48 rfl (onP e37)
    replace hf := castCF hb hf
    refine sp 1 hf rfl fun a hf => ?_
    replace hf := castV (v' := .bool (((((((((r_5.2 == 0) && (r_6.2.2 == 0)) && (r_7.2 == 0)) && (r_8.2 == 0)) && (r_9.2 == 0)) && r_10) && r_11) && (r_6.2.1 == 5)) && (r_7.1 == 5))) (congrArg Value.bool (andF hb)) hf
    exact zD θ he hi hf 49 rfl rfl rfl hc
  ·intro E θ a w hD hi hp he hc
   have e38 := hp.o 38 rfl
   have hf := he.h0.mP he 49 rfl e38
   refine sp 1 hf rfl fun a hf => zD θ he hi hf 50 rfl rfl rfl hc
  ·intro E θ a w hD hi hp he hc
   have e39 := hp.o 39 rfl
   rcases boolEq (((((((((r_5.2 == 0) && (r_6.2.2 == 0)) && (r_7.2 == 0)) && (r_8.2 == 0)) && (r_9.2 == 0)) && r_10) && r_11) && (r_6.2.1 == 5)) && (r_7.1 == 5)) with hb | hb
   ·have hf := (he.h0.mT he 8 rfl).mP he 50 rfl e39
    replace hf := castB hb hf
    refine sp 1 hf rfl fun a hf => ?_
    replace hf := castI (u := undef) hb hf
    exact zD θ he hi hf 51 rfl rfl rfl hc
   ·have hf := (he.h0.mT he 8 rfl).mP he 50 rfl e39
    replace hf := castB hb hf
    refine stS hf rfl rfl rfl fun a hf => ?_
    replace hf := castJ (u := .slice p_5 r_8.1.length c_5) hb hf
    exact zD θ he hi hf 51 rfl rfl rfl hc
  ·intro E θ a w hD hi hp he hc
   have e39 := hp.o 39 rfl
   rcases boolEq (((((((((r_5.2 == 0) && (r_6.2.2 == 0)) && (r_7.2 == 0)) && (r_8.2 == 0)) && (r_9.2 == 0)) && r_10) && r_11) && (r_6.2.1 == 5)) && (r_7.1 == 5)) with hb | hb
   ·have hf := he.h0.mP he 50 rfl e39
    replace hf := castB hb hf
    refine zP hf rfl (pBuildS (cells := [i6 2,i6 3]) bt_38 rfl rfl) fun a hf => ?_
    replace hf := castI (u := undef) hb hf
    exact zD θ he hi hf 52 rfl rfl rfl hc
   ·have hf := he.h0.mP he 50 rfl e39
    replace hf := castB hb hf
    refine stS hf rfl rfl rfl fun a hf => ?_
    replace hf := castJ (u := .agg #[i6 2,i6 3]) hb hf
    exact zD θ he hi hf 52 rfl rfl rfl hc
  ·intro E θ a w hD hi hp he hc
   have e39 := hp.o 39 rfl
   rcases boolEq (((((((((r_5.2 == 0) && (r_6.2.2 == 0)) && (r_7.2 == 0)) && (r_8.2 == 0)) && (r_9.2 == 0)) && r_10) && r_11) && (r_6.2.1 == 5)) && (r_7.1 == 5)) with hb | hb
   ·have hf := he.h0.mP he 50 rfl e39
    replace hf := castB hb hf
    refine zP hf rfl (pBuildS (cells := [i6 0,i6 0]) bt_38 rfl rfl) fun a hf => ?_
    replace hf := castI (u := undef) hb hf
    exact zD θ he hi hf 53 rfl rfl rfl hc
   ·have hf := he.h0.mP he 50 rfl e39
    replace hf := castB hb hf
    refine stS hf rfl rfl rfl fun a hf => ?_
    replace hf := castJ (u := .agg #[i6 0,i6 0]) hb hf
    exact zD θ he hi hf 53 rfl rfl rfl hc
  ·intro E θ a w hD hi hp he hc
   have e39 := hp.o 39 rfl
   rcases boolEq (((((((((r_5.2 == 0) && (r_6.2.2 == 0)) && (r_7.2 == 0)) && (r_8.2 == 0)) && (r_9.2 == 0)) && r_10) && r_11) && (r_6.2.1 == 5)) && (r_7.1 == 5)) with hb | hb
   ·have hf := he.h0.mP he 50 rfl e39
    replace hf := castB hb hf
    refine zP hf rfl (pBuildS (cells := [i6 3,i6 4]) bt_38 rfl rfl) fun a hf => ?_
    replace hf := castI (u := undef) hb hf
    exact zD θ he hi hf 54 rfl rfl rfl hc
   ·have hf := he.h0.mP he 50 rfl e39
    replace hf := castB hb hf
    refine stS hf rfl rfl rfl fun a hf => ?_
    replace hf := castJ (u := .agg #[i6 3,i6 4]) hb hf
    exact zD θ he hi hf 54 rfl rfl rfl hc
  ·intro E θ a w hD hi hp he hc
   have e39 := hp.o 39 rfl
   have e41 := hp.o 41 rfl
   have e42 := hp.o 42 rfl
   have e43 := hp.o 43 rfl
   try dsimp only at hc
   rw [hi] at hc
   rcases boolEq (((((((((r_5.2 == 0) && (r_6.2.2 == 0)) && (r_7.2 == 0)) && (r_8.2 == 0)) && (r_9.2 == 0)) && r_10) && r_11) && (r_6.2.1 == 5)) && (r_7.1 == 5)) with hb | hb
   ·have hf := he.h0.mP he 50 rfl e39
    replace hf := castB hb hf
    replace hf := hf.more he 52 rfl (onP e41)
    replace hf := castCT hb hf
    replace hf := hf.more he 53 rfl (onP e42)
    replace hf := castCT hb hf
    replace hf := hf.more he 54 rfl (onP e43)
    replace hf := castCT hb hf
    refine stBS (rows := ([(⟨2,3⟩ : api_Span),(⟨0,0⟩ : api_Span),(⟨3,4⟩ : api_Span)] : List api_Span).map enc_api_Span) (vs := [(0,.agg #[i6 2,i6 3]),(1,.agg #[i6 0,i6 0]),(2,.agg #[i6 3,i6 4])]) hf hc rfl rfl sl_51 rfl ⟨rfl,rfl,rfl,rfl,rfl,rfl,rfl,rfl,rfl,trivial⟩ rfl rfl fun b_10 a w hf hc => ?_
    replace hf := castI (u := undef) hb hf
    refine cNil ?_
    refine xThenN ?_
    intro ds u hau
    replace hc := hc.drop k1
    refine ⟨(setT θ 352 ⟨b_10,none,0,(fun _ => (none,0))⟩),he.put hi hau hf rfl [] trivial ⟨qq,qq,qq,qq,qq,qq,qq,qq,qq,qq,qq,qq,qq,qq,qq,qq,qq,qq,qq,qq,qq,qq,qq,qq,qq,qq,qq,qq,qq,qq,qq,qq,qq,qq,qq,qq,qq,qq,qq,qq,qq,qq,qq,qq,qq,qq,qq,qq,qq,qq,qq,qq,qq,qq,qq,qq,qq,qq,qq,qq,qq,qq,qq,qq,trivial⟩,?_⟩
    try dsimp only
    rw [updE_self E 44]
    rw [gE_T hb]
    exact hc
   ·have hf := he.h0.mP he 50 rfl e39
    replace hf := castB hb hf
    replace hf := hf.more he 52 rfl (onP e41)
    replace hf := castCF hb hf
    replace hf := hf.more he 53 rfl (onP e42)
    replace hf := castCF hb hf
    replace hf := hf.more he 54 rfl (onP e43)
    replace hf := castCF hb hf
    refine stS hf rfl rfl rfl fun a hf => ?_
    replace hf := castJ (u := .slice (some ⟨(θ 352).b,0,none⟩) 3 3) hb hf
    refine zD θ he hi hf 55 rfl rfl rfl ?_
    try dsimp only
    rw [updE_self E 44]
    rw [gE_F hb]
    exact hc
  ·intro E θ a w hD hi hp he hc
   have e39 := hp.o 39 rfl
   have e40 := hp.o 40 rfl
   have e44 := hp.o 44 rfl
   try dsimp only at hc
   rw [e44] at hc
   rcases boolEq (((((((((r_5.2 == 0) && (r_6.2.2 == 0)) && (r_7.2 == 0)) && (r_8.2 == 0)) && (r_9.2 == 0)) && r_10) && r_11) && (r_6.2.1 == 5)) && (r_7.1 == 5)) with hb | hb
   ·have hf := he.h0.mP he 50 rfl e39
    replace hf := castB hb hf
    replace hf := hf.more he 51 rfl (onP e40)
    replace hf := castCT hb hf
    replace hf := hf.more he 55 rfl (onP e44)
    replace hf := castCT hb hf
    rw [gE_T hb] at hc
    refine zQ (v := .bool r_12) hf hc en_28 rfl (fun w hc => by obtain ⟨G1,hle1,hrd1,hc,hth1⟩ := lend hc k6; obtain ⟨G2,hle2,hrd2,hc,hth2⟩ := lend hc k0; exact (kit_Same_api_Span_ok r_8.1 ([(⟨2,3⟩ : api_Span),(⟨0,0⟩ : api_Span),(⟨3,4⟩ : api_Span)] : List api_Span) (hrd1.mono hle2) hrd2 hc (condT hb hr_12)).mono fun e w h => ⟨h.1,((hth1 _ _ ((hth2 _ _ h.2).unpick k0)).unpick k6)⟩) fun a w hf hc => ?_
    replace hf := castI (u := undef) hb hf
    refine zD θ he hi hf 56 rfl rfl rfl ?_
    try dsimp only
    rw [updE_tru 45 e44]
    rw [gE_T hb]
    exact hc
   ·have hf := he.h0.mP he 50 rfl e39
    replace hf := castB hb hf
    replace hf := hf.more he 51 rfl (onP e40)
    replace hf := castCF hb hf
    replace hf := hf.more he 55 rfl (onP e44)
    replace hf := castCF hb hf
    rw [gE_F hb] at hc
    refine stS hf rfl rfl rfl fun a hf => ?_
    replace hf := castJ (u := .bool r_12) hb hf
    refine zD θ he hi hf 56 rfl rfl rfl ?_
    try dsimp only
    rw [updE_tru 45 e44]
    rw [gE_F hb]
    exact hc
  ·intro E θ a w hD hi hp he hc
   have e39 := hp.o 39 rfl
   have e45 := hp.o 45 rfl
   rcases boolEq (((((((((r_5.2 == 0) && (r_6.2.2 == 0)) && (r_7.2 == 0)) && (r_8.2 == 0)) && (r_9.2 == 0)) && r_10) && r_11) && (r_6.2.1 == 5)) && (r_7.1 == 5)) with hb | hb
   ·have hf := he.h0.mP he 50 rfl e39
    replace hf := castB hb hf
    replace hf := hf.more he 56 rfl (onP e45)
    replace hf := castCT hb hf
    refine sp 1 hf rfl fun a hf => ?_
    replace hf := castV (v' := .bool ((((((((((r_5.2 == 0) && (r_6.2.2 == 0)) && (r_7.2 == 0)) && (r_8.2 == 0)) && (r_9.2 == 0)) && r_10) && r_11) && (r_6.2.1 == 5)) && (r_7.1 == 5)) && r_12)) (congrArg Value.bool (andT hb)) hf
    exact zD θ he hi hf 57 rfl rfl rfl hc
   ·have hf := he.h0.mP he 50 rfl e39
    replace hf := castB hb hf
    replace hf := hf.more he 56 rfl (onP e45)
    replace hf := castCF hb hf
    refine sp 1 hf rfl fun a hf => ?_
    replace hf := castV (v' := .bool ((((((((((r_5.2 == 0) && (r_6.2.2 == 0)) && (r_7.2 == 0)) && (r_8.2 == 0)) && (r_9.2 == 0)) && r_10) && r_11) && (r_6.2.1 == 5)) && (r_7.1 == 5)) && r_12)) (congrArg Value.bool (andF hb)) hf
    exact zD θ he hi hf 57 rfl rfl rfl hc
  ·intro E θ a w hD hi hp he hc
   have e46 := hp.o 46 rfl
   have hf := he.h0.mP he 57 rfl e46
   refine sp 1 hf rfl fun a hf => zD θ he hi hf 58 rfl rfl rfl hc
  ·intro E θ a w hD hi hp he hc
   have e47 := hp.o 47 rfl
   rcases boolEq ((((((((((r_5.2 == 0) && (r_6.2.2 == 0)) && (r_7.2 == 0)) && (r_8.2 == 0)) && (r_9.2 == 0)) && r_10) && r_11) && (r_6.2.1 == 5)) && (r_7.1 == 5)) && r_12) with hb | hb
   ·have hf := (he.h0.mT he 9 rfl).mP he 58 rfl e47
    replace hf := castB hb hf
    refine zN hf hc ag_38 m3 rfl fun a w hf hc => ?_
    replace hf := castI (u := undef) hb hf
    exact zD θ he hi hf 59 rfl rfl rfl hc
   ·have hf := (he.h0.mT he 9 rfl).mP he 58 rfl e47
    replace hf := castB hb hf
    refine stS hf rfl rfl rfl fun a hf => ?_
    replace hf := castJ (u := .agg #[i6 r_9.1.Lo,i6 r_9.1.Hi]) hb hf
    exact zD θ he hi hf 59 rfl rfl rfl hc
  ·intro E θ a w hD hi hp he hc
   have e47 := hp.o 47 rfl
   rcases boolEq ((((((((((r_5.2 == 0) && (r_6.2.2 == 0)) && (r_7.2 == 0)) && (r_8.2 == 0)) && (r_9.2 == 0)) && r_10) && r_11) && (r_6.2.1 == 5)) && (r_7.1 == 5)) && r_12) with hb | hb
   ·have hf := he.h0.mP he 58 rfl e47
    replace hf := castB hb hf
    refine zQ (v := .agg #[i6 r_13.Lo,i6 r_13.Hi]) hf hc en_11 rfl (fun w hc => law05_span_ok 100 190 hc (condT hb hr_13)) fun a w hf hc => ?_
    replace hf := castI (u := undef) hb hf
    exact zD θ he hi hf 60 rfl rfl rfl hc
   ·have hf := he.h0.mP he 58 rfl e47
    replace hf := castB hb hf
    refine stS hf rfl rfl rfl fun a hf => ?_
    replace hf := castJ (u := .agg #[i6 r_13.Lo,i6 r_13.Hi]) hb hf
    exact zD θ he hi hf 60 rfl rfl rfl hc
  ·intro E θ a w hD hi hp he hc
   have e47 := hp.o 47 rfl
   have e48 := hp.o 48 rfl
   have e49 := hp.o 49 rfl
   rcases boolEq ((((((((((r_5.2 == 0) && (r_6.2.2 == 0)) && (r_7.2 == 0)) && (r_8.2 == 0)) && (r_9.2 == 0)) && r_10) && r_11) && (r_6.2.1 == 5)) && (r_7.1 == 5)) && r_12) with hb | hb
   ·have hf := he.h0.mP he 58 rfl e47
    replace hf := castB hb hf
    replace hf := hf.more he 59 rfl (onP e48)
    replace hf := castCT hb hf
    replace hf := hf.more he 60 rfl (onP e49)
    replace hf := castCT hb hf
    refine zP hf rfl (pEqA ge_38 rfl rfl (eqs_38 _ _ _ _)) fun a hf => ?_
    replace hf := castI (u := undef) hb hf
    exact zD θ he hi hf 61 rfl rfl rfl hc
   ·have hf := he.h0.mP he 58 rfl e47
    replace hf := castB hb hf
    replace hf := hf.more he 59 rfl (onP e48)
    replace hf := castCF hb hf
    replace hf := hf.more he 60 rfl (onP e49)
    replace hf := castCF hb hf
    refine stS hf rfl rfl rfl fun a hf => ?_
    replace hf := castJ (u := .bool (r_9.1.Lo == r_13.Lo && r_9.1.Hi == r_13.Hi)) hb hf
    exact zD θ he hi hf 61 rfl rfl rfl hc
  ·intro E θ a w hD hi hp he hc
   have e47 := hp.o 47 rfl
   have e50 := hp.o 50 rfl
   rcases boolEq ((((((((((r_5.2 == 0) && (r_6.2.2 == 0)) && (r_7.2 == 0)) && (r_8.2 == 0)) && (r_9.2 == 0)) && r_10) && r_11) && (r_6.2.1 == 5)) && (r_7.1 == 5)) && r_12) with hb | hb
   ·have hf := he.h0.mP he 58 rfl e47
    replace hf := castB hb hf
    replace hf := hf.more he 61 rfl (onP e50)
    replace hf := castCT hb hf
    refine sp 1 hf rfl fun a hf => ?_
    replace hf := castV (v' := .bool (((((((((((r_5.2 == 0) && (r_6.2.2 == 0)) && (r_7.2 == 0)) && (r_8.2 == 0)) && (r_9.2 == 0)) && r_10) && r_11) && (r_6.2.1 == 5)) && (r_7.1 == 5)) && r_12) && (r_9.1.Lo == r_13.Lo && r_9.1.Hi == r_13.Hi))) (congrArg Value.bool (andT hb)) hf
    exact zD θ he hi hf 62 rfl rfl rfl hc
   ·have hf := he.h0.mP he 58 rfl e47
    replace hf := castB hb hf
    replace hf := hf.more he 61 rfl (onP e50)
    replace hf := castCF hb hf
    refine sp 1 hf rfl fun a hf => ?_
    replace hf := castV (v' := .bool (((((((((((r_5.2 == 0) && (r_6.2.2 == 0)) && (r_7.2 == 0)) && (r_8.2 == 0)) && (r_9.2 == 0)) && r_10) && r_11) && (r_6.2.1 == 5)) && (r_7.1 == 5)) && r_12) && (r_9.1.Lo == r_13.Lo && r_9.1.Hi == r_13.Hi))) (congrArg Value.bool (andF hb)) hf
    exact zD θ he hi hf 62 rfl rfl rfl hc
  ·intro E θ a w hD hi hp he hc
   have e51 := hp.o 51 rfl
   have hf := he.h0.mP he 62 rfl e51
   refine sp 1 hf rfl fun a hf => zD θ he hi hf 63 rfl rfl rfl hc
  ·intro E θ a w hall he hc
   have hf := he.h0
   have e23 := hall 23 rfl
   have e28 := hall 28 rfl
   have e44 := hall 44 rfl
   have e52 := hall 52 rfl
   replace hf := hf.more he 63 rfl (onP e52)
   try dsimp only at hc
   rw [e23,e28,e44] at hc
   replace hc := ((hc.drop k2).drop k1).drop k0
   exact ⟨hf.kp rfl,hc⟩
  rintro a w ⟨hf,hc⟩
  refine h15 _ _ ?_
  refine wp_ret ?_
  obtain rfl := sj hF
  replace hc := (((((((hc.drop k7).drop k6).drop k5).drop k4).drop k3).drop k2).drop k1).drop k0
  exact zO1 Try.results14 hf rfl ⟨rfl,hc⟩

def law05_ShiftStaff_b22 (N : Nat) (by_ : Int) (r_8 : (List api_Span) × Int) (x_4 : Int) : Option (Step (Int) (Bool)) :=
 cond (decide (x_4 < ((r_8.1.length : Nat) : Int)))
 (Option.bind (getI r_8.1 x_4) fun e_1 =>
 cond ((decide (((W (by_)).tmod 60) < e_1.Lo)) || (decide (e_1.Hi < ((W (by_)).tmod 60))))
 (some (.ret false))
 (some (.cont (W (x_4 + 1)))))
 (some (.brk x_4))
def law05_ShiftStaff_b14 (N : Nat) (numbers : List Int) (by_ : Int) (r_1 : (List shift_Mark) × Int × Int) (r_7 : Int × Int × Int) (x : Int) (x_1 : Int) (x_2 : Int) (x_3 : List shift_Gauging) : Option (Step (Int × Int × Int × (List shift_Gauging)) (Bool)) :=
 cond (decide (x < (W (1 + r_7.1))))
 (Option.bind (kit_Stream_Within N (⟨numbers,x_1,x_2⟩ : kit_Stream) (-30) 120) fun r_11 =>
 Option.bind (shift_Means N r_1.1 r_11.1 0) fun r_12 =>
 Option.bind (shift_Means N r_1.1 (W (r_11.1 + ((W (by_)).tmod 60))) ((W (by_)).tmod 60)) fun r_13 =>
 cond ((((r_12.2 != 0) || (r_13.2 != 0)) || (!(r_12.1.N == r_13.1.N && r_12.1.D == r_13.1.D))) || (decide (r_12.1.D < 1)))
 (some (.ret false))
 (Option.bind (nz r_12.1.D) fun un =>
 Option.bind (nz r_12.1.D) fun un_1 =>
 Option.bind (law05_span N (W (r_12.1.N.tdiv r_12.1.D)) (W ((W ((W (r_12.1.N + r_12.1.D)) - 1)).tdiv r_12.1.D))) fun r_14 =>
 Option.bind (room ((x_3 ++ [(⟨x,W (r_11.1 + ((W (by_)).tmod 60)),r_14⟩ : shift_Gauging)])).length) fun un_2 =>
 some (.cont (W (x + 1),r_11.2.1,r_11.2.2,(x_3 ++ [(⟨x,W (r_11.1 + ((W (by_)).tmod 60)),r_14⟩ : shift_Gauging)])))))
 (some (.brk (x,x_1,x_2,x_3)))
def law05_ShiftStaff (N : Nat) (numbers : List Int) (lines : List Int) (by_ : Int) : Option (Bool) :=
 Option.bind (kit_New N numbers) fun r =>
 Option.bind (law05_Rated N (⟨numbers,r.1,r.2⟩ : kit_Stream)) fun r_1 =>
 Option.bind (kit_New N lines) fun r_2 =>
 Option.bind (law01_Levelled N (⟨lines,r_2.1,r_2.2⟩ : kit_Stream) ([0,40,W (40 - ((W (by_)).tmod 60))] : List Int) 0 1 1) fun r_3 =>
 Option.bind (law01_Levelled N (⟨lines,r_3.2.1,r_3.2.2⟩ : kit_Stream) ([0,40,W (40 - ((W (by_)).tmod 60))] : List Int) 0 2 9) fun r_4 =>
 Option.bind (law01_Levelled N (⟨lines,r_4.2.1,r_4.2.2⟩ : kit_Stream) ([0,40,W (40 - ((W (by_)).tmod 60))] : List Int) 2 1 9) fun r_5 =>
 Option.bind (level_Between N (⟨3,([r_3.1,r_4.1,r_5.1] : List level_Line)⟩ : level_Net) 2 1) fun r_6 =>
 cond (((r_6.2 != 0) || (decide (((W (by_)).tmod 60) < r_6.1.Lo))) || (decide (r_6.1.Hi < ((W (by_)).tmod 60))))
 (some false)
 (Option.bind (kit_Stream_Next N (⟨numbers,r_1.2.1,r_1.2.2⟩ : kit_Stream) 6) fun r_7 =>
 Option.bind (loopO (fun s14 => law05_ShiftStaff_b14 N numbers by_ r_1 r_7 s14.1 s14.2.1 s14.2.2.1 s14.2.2.2) N (0,r_7.2.1,r_7.2.2,([] : List shift_Gauging))) fun x14 =>
 exK x14 (fun s14 => Option.bind (shift_Passes N (⟨r_1.1,s14.2.2.2⟩ : shift_Record)) fun r_8 =>
 Option.bind (shift_Least N (⟨r_1.1,s14.2.2.2⟩ : shift_Record)) fun r_9 =>
 cond ((((r_8.2 != 0) || (r_9.2.2 != 0)) || (r_9.2.1 != 0)) || (((r_8.1.length : Nat) : Int) != ((s14.2.2.2.length : Nat) : Int)))
 (some false)
 (Option.bind (loopO (fun s22 => law05_ShiftStaff_b22 N by_ r_8 s22) N 0) fun x22 =>
 exK x22 (fun s22 => Option.bind (law05_awake N) fun r_10 =>
 some r_10) some)) some)
theorem law05_ShiftStaff_ok {N : Nat} {G : Pers} {Lf : List Ent} {w : World} (numbers : List Int) (lines : List Int) (by_ : Int) {numbers_p : Option Addr} {numbers_c : Nat} {lines_p : Option Addr} {lines_c : Nat} (h_numbers : Rd G 1 numbers_p numbers_c (numbers.map encI_u8)) (h_lines : Rd G 1 lines_p lines_c (lines.map encI_u8)) (hc : Ctx G (Lf) w) {res : Bool} (hF : law05_ShiftStaff N numbers lines by_ = some res) : Calls Try.prog 3 #[.slice numbers_p numbers.length numbers_c,.slice lines_p lines.length lines_c,.int .u8 by_] w (fun e w => e = .returned (.bool res) ∧ Ctx G (Lf) w) := by
 unfold law05_ShiftStaff at hF
 refine fnIn Try.func3 rfl Try.ntmps3 rfl fun a hf => zS fun K h => sp 1 hf rfl fun a hf => zT h ?_
 refine zS fun K h => sp 1 hf rfl fun a hf => ?_
 obtain ⟨r,hr,hF⟩ := bnd_some hF
 refine zC hf en_4 rfl (kit_New_ok numbers h_numbers hc hr) ?_
 rintro _ w ⟨b_1,rfl,hc⟩
 refine ⟨_,rfl,fun a hf => ?_⟩
 refine sp 1 hf rfl fun a hf => zT h ?_
 refine zS fun K h => sp 1 hf rfl fun a hf => ?_
 obtain ⟨r_1,hr_1,hF⟩ := bnd_some hF
 refine zC hf en_5 rfl (law05_Rated_ok (⟨numbers,r.1,r.2⟩ : kit_Stream) h_numbers (hc.pick k0) hr_1) ?_
 rintro _ w ⟨p_1,c_1,rfl,hc⟩
 refine ⟨_,rfl,fun a hf => ?_⟩
 refine zP hf rfl (pBuildS (cells := [.slice p_1 r_1.1.length c_1,.slice none 0 0]) bt_29 rfl rfl) fun a hf => zA hf hc zr_29 rfl fun b_2 a w hf hc => zW hf hc sz_29 u0 rfl fun w hc => zT h ?_
 refine zS fun K h => sp 1 hf rfl fun a hf => zP hf rfl (pCv Try.underlying5 Try.underlying3 rfl) fun a hf => zP hf rfl (pRem rfl rfl (by decide)) fun a hf => sp 1 hf rfl fun a hf => zT h ?_
 refine zS fun K h => sp 2 hf rfl fun a hf => stBS (rows := ([0,40,W (40 - ((W (by_)).tmod 60))] : List Int).map encI_i64) (vs := [(0,i6 0),(1,i6 40),(2,i6 (W (40 - ((W (by_)).tmod 60))))]) hf hc rfl rfl sl_30 rfl ⟨rfl,rfl,rfl,rfl,rfl,rfl,rfl,rfl,rfl,trivial⟩ rfl rfl fun b_3 a w hf hc => sp 1 hf rfl fun a hf => zT h ?_
 refine zS fun K h => sp 1 hf rfl fun a hf => ?_
 obtain ⟨r_2,hr_2,hF⟩ := bnd_some hF
 refine zC hf en_4 rfl (kit_New_ok lines h_lines hc hr_2) ?_
 rintro _ w ⟨b_4,rfl,hc⟩
 refine ⟨_,rfl,fun a hf => ?_⟩
 refine sp 1 hf rfl fun a hf => zT h ?_
 refine zS fun K h => sp 2 hf rfl fun a hf => ?_
 obtain ⟨r_3,hr_3,hF⟩ := bnd_some hF
 obtain ⟨G1,hle1,hrd1,hc,hth1⟩ := lend hc k1
 refine zC hf en_6 rfl (law01_Levelled_ok (⟨lines,r_2.1,r_2.2⟩ : kit_Stream) ([0,40,W (40 - ((W (by_)).tmod 60))] : List Int) 0 1 1 (h_lines.mono hle1) hrd1 (hc.pick k0) hr_3) ?_
 rintro _ w ⟨rfl,hc⟩
 refine ⟨_,rfl,fun a hf => ?_⟩
 replace hc := hth1 _ _ hc
 refine sp 2 hf rfl fun a hf => ?_
 obtain ⟨r_4,hr_4,hF⟩ := bnd_some hF
 obtain ⟨G1,hle1,hrd1,hc,hth1⟩ := lend hc k0
 refine zC hf en_6 rfl (law01_Levelled_ok (⟨lines,r_3.2.1,r_3.2.2⟩ : kit_Stream) ([0,40,W (40 - ((W (by_)).tmod 60))] : List Int) 0 2 9 (h_lines.mono hle1) hrd1 (hc.pick k0) hr_4) ?_
 rintro _ w ⟨rfl,hc⟩
 refine ⟨_,rfl,fun a hf => ?_⟩
 replace hc := hth1 _ _ hc
 refine sp 2 hf rfl fun a hf => ?_
 obtain ⟨r_5,hr_5,hF⟩ := bnd_some hF
 obtain ⟨G1,hle1,hrd1,hc,hth1⟩ := lend hc k0
 refine zC hf en_6 rfl (law01_Levelled_ok (⟨lines,r_4.2.1,r_4.2.2⟩ : kit_Stream) ([0,40,W (40 - ((W (by_)).tmod 60))] : List Int) 2 1 9 (h_lines.mono hle1) hrd1 (hc.pick k0) hr_5) ?_
 rintro _ w ⟨rfl,hc⟩
 refine ⟨_,rfl,fun a hf => ?_⟩
 replace hc := hth1 _ _ hc
 refine stBS (rows := ([r_3.1,r_4.1,r_5.1] : List level_Line).map enc_level_Line) (vs := [(0,.agg #[i6 r_3.1.From,i6 r_3.1.To,i6 r_3.1.Day,i6 r_3.1.Rise,i6 r_3.1.Error]),(1,.agg #[i6 r_4.1.From,i6 r_4.1.To,i6 r_4.1.Day,i6 r_4.1.Rise,i6 r_4.1.Error]),(2,.agg #[i6 r_5.1.From,i6 r_5.1.To,i6 r_5.1.Day,i6 r_5.1.Rise,i6 r_5.1.Error])]) hf hc rfl rfl sl_34 rfl ⟨rfl,rfl,rfl,rfl,rfl,rfl,rfl,rfl,rfl,trivial⟩ rfl rfl fun b_5 a w hf hc => zP hf rfl (pBuildS (cells := [i6 3,.slice (some ⟨b_5,0,none⟩) 3 3]) bt_36 rfl rfl) fun a hf => zA hf hc zr_36 rfl fun b_6 a w hf hc => zW hf hc sz_36 u0 rfl fun w hc => zT h ?_
 refine zS fun K h => zN hf hc ag_36 m0 rfl fun a w hf hc => ?_
 obtain ⟨r_6,hr_6,hF⟩ := bnd_some hF
 refine zQ (v := .tuple #[.agg #[i6 r_6.1.Lo,i6 r_6.1.Hi],i6 r_6.2]) hf hc en_7 rfl (fun w hc => by obtain ⟨G1,hle1,hrd1,hc,hth1⟩ := lend hc k1; exact (level_Between_ok (⟨3,([r_3.1,r_4.1,r_5.1] : List level_Line)⟩ : level_Net) 2 1 hrd1 hc hr_6).mono fun e w h => ⟨h.1,((hth1 _ _ h.2).unpick k1)⟩) fun a w hf hc => sp 3 hf rfl fun a hf => zA hf hc zr_38 rfl fun b_7 a w hf hc => zW hf hc sz_38 u0 rfl fun w hc => sp 1 hf rfl fun a hf => zT h ?_
 refine wp_seq_k fun K9 h9 => zS fun K h => sp 3 hf rfl fun a hf => stCc 5 (fun a => Has 184 a [(7,pq b_1),(8,pq b_2),(9,i6 ((W (by_)).tmod 60)),(13,pq b_7),(14,i6 r_6.2),(56,i6 r_6.2),(57,.bool (r_6.2 != 0)),(58,.bool (r_6.2 != 0)),(63,.bool ((r_6.2 != 0) || (decide (((W (by_)).tmod 60) < r_6.1.Lo))))]) hc ?_ ?_
 ·cases hb : (r_6.2 != 0)
  ·rw [hb] at hf
   refine sp 1 hf rfl fun a hf => zP hf rfl (pFA fa_38_0 rfl) fun a hf => zL hf hc sc_3 m0 rfl fun a w hf hc => sp 2 hf rfl fun a hf => cNil ⟨hf.kp rfl,hc⟩
  ·rw [hb] at hf
   refine stS hf rfl rfl rfl fun a hf => stS hf rfl rfl rfl fun a hf => stS hf rfl rfl rfl fun a hf => stS hf rfl rfl rfl fun a hf => sp 1 hf rfl fun a hf => cNil ⟨hf.kp rfl,hc⟩
 intro a w ⟨hf,hc⟩
 refine sp 1 hf rfl fun a hf => stCc 5 (fun a => Has 184 a [(7,pq b_1),(8,pq b_2),(9,i6 ((W (by_)).tmod 60)),(13,pq b_7),(14,i6 r_6.2),(56,i6 r_6.2),(57,.bool (r_6.2 != 0)),(58,.bool (r_6.2 != 0)),(63,.bool ((r_6.2 != 0) || (decide (((W (by_)).tmod 60) < r_6.1.Lo)))),(64,.bool ((r_6.2 != 0) || (decide (((W (by_)).tmod 60) < r_6.1.Lo)))),(69,.bool (((r_6.2 != 0) || (decide (((W (by_)).tmod 60) < r_6.1.Lo))) || (decide (r_6.1.Hi < ((W (by_)).tmod 60)))))]) hc ?_ ?_
 ·cases hb : ((r_6.2 != 0) || (decide (((W (by_)).tmod 60) < r_6.1.Lo)))
  ·rw [hb] at hf
   refine sp 1 hf rfl fun a hf => zP hf rfl (pFA fa_38_1 rfl) fun a hf => zL hf hc sc_3 m0 rfl fun a w hf hc => sp 2 hf rfl fun a hf => cNil ⟨hf.kp rfl,hc⟩
  ·rw [hb] at hf
   refine stS hf rfl rfl rfl fun a hf => stS hf rfl rfl rfl fun a hf => stS hf rfl rfl rfl fun a hf => stS hf rfl rfl rfl fun a hf => sp 1 hf rfl fun a hf => cNil ⟨hf.kp rfl,hc⟩
 intro a w ⟨hf,hc⟩
 refine zT h ?_
 refine zI hf rfl hF ?_ ?_ <;> clear hF <;> intro hF
 ·refine zS fun K h => sp 1 hf rfl fun a hf => zT h ?_
  refine wp_ret ?_
  refine xThenR ?_
  obtain rfl := sj hF
  replace hc := (((((((hc.drop k7).drop k6).drop k5).drop k4).drop k3).drop k2).drop k1).drop k0
  exact zO1 Try.results3 hf rfl ⟨rfl,hc⟩
 ·refine wp_skip ?_
  refine h9 _ _ ?_
  refine wp_seq_k fun K12 h12 => zS fun K h => sp 1 hf rfl fun a hf => ?_
  obtain ⟨r_7,hr_7,hF⟩ := bnd_some hF
  refine zC hf en_8 rfl (kit_Stream_Next_ok (⟨numbers,r_1.2.1,r_1.2.2⟩ : kit_Stream) 6 h_numbers (hc.pick k7) hr_7) ?_
  rintro _ w ⟨rfl,hc⟩
  refine ⟨_,rfl,fun a hf => ?_⟩
  refine sp 2 hf rfl fun a hf => zT h ?_
  refine wp_block ?_
  obtain ⟨x14,hx14,hF⟩ := bnd_some hF
  let S14 : (Int × Int × Int × (List shift_Gauging)) → Act → World → Prop := (fun (zz : Int × Int × Int × (List shift_Gauging)) a w => ∃ (p_2 : Option Addr) (c_2 : Nat),Has 184 a [(7,pq b_1),(8,pq b_2),(9,i6 ((W (by_)).tmod 60)),(72,i6 (W (1 + r_7.1))),(73,i6 zz.1)] ∧ Ctx G (.row p_2 c_2 (zz.2.2.2.map enc_shift_Gauging) 50 4::.box b_1 [.slice numbers_p numbers.length numbers_c,i6 zz.2.1,i6 zz.2.2.1] 59::.box b_2 [.slice p_1 r_1.1.length c_1,.slice p_2 zz.2.2.2.length c_2] 29::.row p_1 c_1 (r_1.1.map enc_shift_Mark) 61 2::Lf) w)
  have hr14 : ∀ (zz : Int × Int × Int × (List shift_Gauging)) a w,x14 = .go zz → S14 zz a w → K12 a w := by
   rintro ⟨x,x_1,x_2,x_3⟩ a w rfl ⟨p_2,c_2,hf,hc⟩
   replace hF := exK_go hF
   refine h12 _ _ ?_
   refine zS fun K h => zN hf hc ag_29 m2 rfl fun a w hf hc => ?_
   obtain ⟨r_8,hr_8,hF⟩ := bnd_some hF
   obtain ⟨G1,hle1,hrd1,hc,hth1⟩ := lend hc k3
   obtain ⟨G2,hle2,hrd2,hc,hth2⟩ := lend hc k0
   refine zC hf en_12 rfl (shift_Passes_ok (⟨r_1.1,x_3⟩ : shift_Record) (hrd1.mono hle2) hrd2 hc hr_8) ?_
   rintro _ w ⟨p_3,c_3,rfl,hc⟩
   refine ⟨_,rfl,fun a hf => ?_⟩
   replace hc := hth2 _ _ hc
   replace hc := hth1 _ _ hc
   refine sp 5 hf rfl fun a hf => zT h ?_
   refine zS fun K h => zN hf hc ag_29 m4 rfl fun a w hf hc => ?_
   obtain ⟨r_9,hr_9,hF⟩ := bnd_some hF
   obtain ⟨G1,hle1,hrd1,hc,hth1⟩ := lend hc k0
   obtain ⟨G2,hle2,hrd2,hc,hth2⟩ := lend hc k0
   refine zC hf en_13 rfl (shift_Least_ok (⟨r_1.1,x_3⟩ : shift_Record) (hrd1.mono hle2) hrd2 hc hr_9) ?_
   rintro _ w ⟨p_4,c_4,rfl,hc⟩
   refine ⟨_,rfl,fun a hf => ?_⟩
   replace hc := hth2 _ _ hc
   replace hc := hth1 _ _ hc
   refine sp 7 hf rfl fun a hf => zT h ?_
   refine wp_seq_k fun K17 h17 => zS fun K h => sp 3 hf rfl fun a hf => stCc 3 (fun a => Has 184 a [(8,pq b_2),(9,i6 ((W (by_)).tmod 60)),(21,.slice p_3 r_8.1.length c_3),(14,i6 r_8.2),(23,i6 r_9.2.1),(24,i6 r_9.2.2),(148,i6 r_8.2),(149,.bool (r_8.2 != 0)),(150,.bool (r_8.2 != 0)),(153,.bool ((r_8.2 != 0) || (r_9.2.2 != 0)))]) hc ?_ ?_
   ·cases hb : (r_8.2 != 0)
    ·rw [hb] at hf
     refine sp 3 hf rfl fun a hf => cNil ⟨hf.kp rfl,hc⟩
    ·rw [hb] at hf
     refine stS hf rfl rfl rfl fun a hf => stS hf rfl rfl rfl fun a hf => sp 1 hf rfl fun a hf => cNil ⟨hf.kp rfl,hc⟩
   intro a w ⟨hf,hc⟩
   refine sp 1 hf rfl fun a hf => stCc 3 (fun a => Has 184 a [(8,pq b_2),(9,i6 ((W (by_)).tmod 60)),(21,.slice p_3 r_8.1.length c_3),(14,i6 r_8.2),(23,i6 r_9.2.1),(24,i6 r_9.2.2),(148,i6 r_8.2),(149,.bool (r_8.2 != 0)),(150,.bool (r_8.2 != 0)),(153,.bool ((r_8.2 != 0) || (r_9.2.2 != 0))),(154,.bool ((r_8.2 != 0) || (r_9.2.2 != 0))),(157,.bool (((r_8.2 != 0) || (r_9.2.2 != 0)) || (r_9.2.1 != 0)))]) hc ?_ ?_
   ·cases hb : ((r_8.2 != 0) || (r_9.2.2 != 0))
    ·rw [hb] at hf
     refine sp 3 hf rfl fun a hf => cNil ⟨hf.kp rfl,hc⟩
    ·rw [hb] at hf
     refine stS hf rfl rfl rfl fun a hf => stS hf rfl rfl rfl fun a hf => sp 1 hf rfl fun a hf => cNil ⟨hf.kp rfl,hc⟩
   intro a w ⟨hf,hc⟩
   refine sp 1 hf rfl fun a hf => stCc 7 (fun a => Has 184 a [(8,pq b_2),(9,i6 ((W (by_)).tmod 60)),(21,.slice p_3 r_8.1.length c_3),(14,i6 r_8.2),(23,i6 r_9.2.1),(24,i6 r_9.2.2),(148,i6 r_8.2),(149,.bool (r_8.2 != 0)),(150,.bool (r_8.2 != 0)),(153,.bool ((r_8.2 != 0) || (r_9.2.2 != 0))),(154,.bool ((r_8.2 != 0) || (r_9.2.2 != 0))),(157,.bool (((r_8.2 != 0) || (r_9.2.2 != 0)) || (r_9.2.1 != 0))),(158,.bool (((r_8.2 != 0) || (r_9.2.2 != 0)) || (r_9.2.1 != 0))),(165,.bool ((((r_8.2 != 0) || (r_9.2.2 != 0)) || (r_9.2.1 != 0)) || (((r_8.1.length : Nat) : Int) != ((x_3.length : Nat) : Int))))]) hc ?_ ?_
   ·cases hb : (((r_8.2 != 0) || (r_9.2.2 != 0)) || (r_9.2.1 != 0))
    ·rw [hb] at hf
     refine sp 1 hf rfl fun a hf => zP hf rfl (pLenS Try.underlying51 rfl) fun a hf => zP hf rfl (pFA fa_29_1 rfl) fun a hf => zL hf hc sc_27 m5 rfl fun a w hf hc => zP hf rfl (pLenS Try.underlying27 rfl) fun a hf => sp 2 hf rfl fun a hf => cNil ⟨hf.kp rfl,hc⟩
    ·rw [hb] at hf
     refine stS hf rfl rfl rfl fun a hf => stS hf rfl rfl rfl fun a hf => stS hf rfl rfl rfl fun a hf => stS hf rfl rfl rfl fun a hf => stS hf rfl rfl rfl fun a hf => stS hf rfl rfl rfl fun a hf => sp 1 hf rfl fun a hf => cNil ⟨hf.kp rfl,hc⟩
   intro a w ⟨hf,hc⟩
   refine zT h ?_
   refine zI hf rfl hF ?_ ?_ <;> clear hF <;> intro hF
   ·refine zS fun K h => sp 1 hf rfl fun a hf => zT h ?_
    refine wp_ret ?_
    refine xThenR ?_
    obtain rfl := sj hF
    replace hc := (((((hc.drop k5).drop k4).drop k3).drop k2).drop k1).drop k0
    exact zO1 Try.results3 hf rfl ⟨rfl,hc⟩
   ·refine wp_skip ?_
    refine h17 _ _ ?_
    refine wp_seq_k fun K20 h20 => zS fun K h => sp 1 hf rfl fun a hf => zP hf rfl (pLenS Try.underlying51 rfl) fun a hf => sp 1 hf rfl fun a hf => zT h ?_
    refine wp_block ?_
    obtain ⟨x22,hx22,hF⟩ := bnd_some hF
    let S22 : Int → Act → World → Prop := (fun (zz : Int) a w => ∃ (p_5 : Option Addr) (c_5 : Nat),Has 184 a [(9,i6 ((W (by_)).tmod 60)),(166,.slice p_5 r_8.1.length c_5),(167,i6 ((r_8.1.length : Nat) : Int)),(168,i6 zz)] ∧ Ctx G (.row p_5 c_5 (r_8.1.map enc_api_Span) 38 2::Lf) w)
    have hr22 : ∀ (zz : Int) a w,x22 = .go zz → S22 zz a w → K20 a w := by
     rintro x_4 a w rfl ⟨p_5,c_5,hf,hc⟩
     replace hF := exK_go hF
     refine h20 _ _ ?_
     refine zS fun K h => ?_
     obtain ⟨r_10,hr_10,hF⟩ := bnd_some hF
     refine zQ (v := .bool r_10) hf hc en_14 rfl (fun w hc => law05_awake_ok hc hr_10) fun a w hf hc => sp 1 hf rfl fun a hf => zT h ?_
     refine wp_ret ?_
     obtain rfl := sj hF
     replace hc := hc.drop k0
     exact zO1 Try.results3 hf rfl ⟨rfl,hc⟩
    have ho22 : ∀ r,x22 = .out r → r = res := by
     rintro r rfl
     exact sj hF
    replace hc := ((((hc.drop k5).drop k4).drop k2).drop k1).drop k0
    refine cLoop N (loopW (S := S22) (x := x22) ?_ N 0 _ _ ⟨p_3,c_3,hf.kp rfl,hc⟩ hx22)
    clear hF hf hc
    rintro x_4 st22 a w KB22 ⟨p_5,c_5,hf,hc⟩ hF hfin22 hK22
    unfold law05_ShiftStaff_b22 at hF
    refine zS fun K h => sp 1 hf rfl fun a hf => zT h ?_
    refine wp_seq_k fun K25 h25 => zI hf rfl hF ?_ ?_ <;> clear hF <;> intro hF
    ·refine wp_skip ?_
     refine h25 _ _ ?_
     refine wp_seq_k fun K26 h26 => wp_block ?_
     refine zS fun K h => ?_
     obtain ⟨e_1,he_1,hF⟩ := bnd_some hF
     obtain ⟨g,rfl,qa,qr⟩ := row_atm hc m0 he_1
     refine zP hf rfl (pIA Try.underlying51 sz_38 rfl rfl qa) fun a hf => zE hf hc rfl (eLdN (vs := [i6 e_1.Lo,i6 e_1.Hi]) ag_38 rfl rfl (cells_rw (sz := 2) (i := x_4.toNat) m0 qr (n := 2) (o' := 0) rfl)) fun a w hf hc => zA hf hc zr_38 rfl fun b_8 a w hf hc => zW hf hc sz_38 u0 rfl fun w hc => zT h ?_
     refine zS fun K h => sp 1 hf rfl fun a hf => zP hf rfl (pFA fa_38_0 rfl) fun a hf => zL hf hc sc_3 m0 rfl fun a w hf hc => sp 2 hf rfl fun a hf => stCc 5 (fun a => Has 184 a [(9,i6 ((W (by_)).tmod 60)),(166,.slice (some ⟨g,0,none⟩) r_8.1.length c_5),(167,i6 ((r_8.1.length : Nat) : Int)),(168,i6 x_4),(26,pq b_8),(172,i6 ((W (by_)).tmod 60)),(173,pq b_8),(174,i6 e_1.Lo),(175,.bool (decide (((W (by_)).tmod 60) < e_1.Lo))),(176,.bool (decide (((W (by_)).tmod 60) < e_1.Lo))),(181,.bool ((decide (((W (by_)).tmod 60) < e_1.Lo)) || (decide (e_1.Hi < ((W (by_)).tmod 60)))))]) hc ?_ ?_
     ·cases hb : (decide (((W (by_)).tmod 60) < e_1.Lo))
      ·rw [hb] at hf
       refine sp 1 hf rfl fun a hf => zP hf rfl (pFA fa_38_1 rfl) fun a hf => zL hf hc sc_3 m0 rfl fun a w hf hc => sp 2 hf rfl fun a hf => cNil ⟨hf.kp rfl,hc⟩
      ·rw [hb] at hf
       refine stS hf rfl rfl rfl fun a hf => stS hf rfl rfl rfl fun a hf => stS hf rfl rfl rfl fun a hf => stS hf rfl rfl rfl fun a hf => sp 1 hf rfl fun a hf => cNil ⟨hf.kp rfl,hc⟩
     intro a w ⟨hf,hc⟩
     refine zT h ?_
     refine zI hf rfl hF ?_ ?_ <;> clear hF <;> intro hF
     ·refine zS fun K h => sp 1 hf rfl fun a hf => zT h ?_
      refine wp_ret ?_
      refine xBlkR ?_
      refine xThenR ?_
      refine xThenR ?_
      have he := sj hF
      rw [← he] at hfin22
      replace hF := ho22 _ hfin22
      refine xBlkR ?_
      refine xThenR ?_
      obtain rfl := hF
      replace hc := (hc.drop k1).drop k0
      exact zO1 Try.results3 hf rfl ⟨rfl,hc⟩
     ·refine wp_skip ?_
      refine h26 _ _ ?_
      refine cReg ?_
      refine sp 2 hf rfl fun a hf => cNil ?_
      replace hc := hc.drop k0
      exact hK22 (W (x_4 + 1)) _ _ (sj hF).symm ⟨(some ⟨g,0,none⟩),c_5,hf.kp rfl,hc⟩
    ·refine wp_exit ?_
     refine xThen ?_
     refine xThen ?_
     have he := sj hF
     rw [← he] at hfin22
     refine cHit ?_
     exact hr22 _ _ _ hfin22 ⟨p_5,c_5,hf.kp rfl,hc⟩
  have ho14 : ∀ r,x14 = .out r → r = res := by
   rintro r rfl
   exact sj hF
  replace hc := hc.nilRow 50 4
  replace hc := ((((hc.drop k6).drop k5).drop k4).drop k3).drop k2
  refine cLoop N (loopW (S := S14) (x := x14) ?_ N (0,r_7.2.1,r_7.2.2,([] : List shift_Gauging)) _ _ ⟨none,0,hf.kp rfl,hc⟩ hx14)
  clear hF hf hc
  rintro ⟨x,x_1,x_2,x_3⟩ st14 a w KB14 ⟨p_2,c_2,hf,hc⟩ hF hfin14 hK14
  unfold law05_ShiftStaff_b14 at hF
  refine zS fun K h => sp 1 hf rfl fun a hf => zT h ?_
  refine wp_seq_k fun K31 h31 => zI hf rfl hF ?_ ?_ <;> clear hF <;> intro hF
  ·refine wp_skip ?_
   refine h31 _ _ ?_
   refine wp_seq_k fun K32 h32 => wp_block ?_
   refine zS fun K h => sp 2 hf rfl fun a hf => zT h ?_
   refine zS fun K h => sp 1 hf rfl fun a hf => ?_
   obtain ⟨r_11,hr_11,hF⟩ := bnd_some hF
   refine zC hf en_9 rfl (kit_Stream_Within_ok (⟨numbers,x_1,x_2⟩ : kit_Stream) (-30) 120 h_numbers (hc.pick k1) hr_11) ?_
   rintro _ w ⟨rfl,hc⟩
   refine ⟨_,rfl,fun a hf => ?_⟩
   refine sp 1 hf rfl fun a hf => zT h ?_
   refine zS fun K h => zP hf rfl (pFA fa_29_0 rfl) fun a hf => zL hf hc sc_25 m2 rfl fun a w hf hc => sp 1 hf rfl fun a hf => ?_
   obtain ⟨r_12,hr_12,hF⟩ := bnd_some hF
   refine zQ (v := .tuple #[.agg #[i6 r_12.1.N,i6 r_12.1.D],i6 r_12.2]) hf hc en_10 rfl (fun w hc => by obtain ⟨G1,hle1,hrd1,hc,hth1⟩ := lend hc k3; exact (shift_Means_ok r_1.1 r_11.1 0 hrd1 hc hr_12).mono fun e w h => ⟨h.1,((hth1 _ _ h.2).unpick k3)⟩) fun a w hf hc => sp 3 hf rfl fun a hf => zA hf hc zr_45 rfl fun b_9 a w hf hc => zW hf hc sz_45 u0 rfl fun w hc => sp 1 hf rfl fun a hf => zT h ?_
   refine zS fun K h => zP hf rfl (pFA fa_29_0 rfl) fun a hf => zL hf hc sc_25 m3 rfl fun a w hf hc => sp 4 hf rfl fun a hf => ?_
   obtain ⟨r_13,hr_13,hF⟩ := bnd_some hF
   refine zQ (v := .tuple #[.agg #[i6 r_13.1.N,i6 r_13.1.D],i6 r_13.2]) hf hc en_10 rfl (fun w hc => by obtain ⟨G1,hle1,hrd1,hc,hth1⟩ := lend hc k4; exact (shift_Means_ok r_1.1 (W (r_11.1 + ((W (by_)).tmod 60))) ((W (by_)).tmod 60) hrd1 hc hr_13).mono fun e w h => ⟨h.1,((hth1 _ _ h.2).unpick k4)⟩) fun a w hf hc => sp 3 hf rfl fun a hf => zA hf hc zr_45 rfl fun b_10 a w hf hc => zW hf hc sz_45 u0 rfl fun w hc => sp 1 hf rfl fun a hf => zT h ?_
   refine wp_seq_k fun K37 h37 => zS fun K h => sp 3 hf rfl fun a hf => stCc 3 (fun a => Has 184 a [(7,pq b_1),(8,pq b_2),(9,i6 ((W (by_)).tmod 60)),(72,i6 (W (1 + r_7.1))),(73,i6 x),(15,i6 x),(16,i6 r_11.1),(17,pq b_9),(18,i6 r_12.2),(19,pq b_10),(20,i6 r_13.2),(95,i6 r_12.2),(96,.bool (r_12.2 != 0)),(97,.bool (r_12.2 != 0)),(100,.bool ((r_12.2 != 0) || (r_13.2 != 0)))]) hc ?_ ?_
   ·cases hb : (r_12.2 != 0)
    ·rw [hb] at hf
     refine sp 3 hf rfl fun a hf => cNil ⟨hf.kp rfl,hc⟩
    ·rw [hb] at hf
     refine stS hf rfl rfl rfl fun a hf => stS hf rfl rfl rfl fun a hf => sp 1 hf rfl fun a hf => cNil ⟨hf.kp rfl,hc⟩
   intro a w ⟨hf,hc⟩
   refine sp 1 hf rfl fun a hf => stCc 4 (fun a => Has 184 a [(7,pq b_1),(8,pq b_2),(9,i6 ((W (by_)).tmod 60)),(72,i6 (W (1 + r_7.1))),(73,i6 x),(15,i6 x),(16,i6 r_11.1),(17,pq b_9),(18,i6 r_12.2),(19,pq b_10),(20,i6 r_13.2),(95,i6 r_12.2),(96,.bool (r_12.2 != 0)),(97,.bool (r_12.2 != 0)),(100,.bool ((r_12.2 != 0) || (r_13.2 != 0))),(101,.bool ((r_12.2 != 0) || (r_13.2 != 0))),(105,.bool (((r_12.2 != 0) || (r_13.2 != 0)) || (!(r_12.1.N == r_13.1.N && r_12.1.D == r_13.1.D))))]) hc ?_ ?_
   ·cases hb : ((r_12.2 != 0) || (r_13.2 != 0))
    ·rw [hb] at hf
     refine zN hf hc ag_45 m1 rfl fun a w hf hc => zN hf hc ag_45 m0 rfl fun a w hf hc => zP hf rfl (pNeA ge_45 rfl rfl (eqs_45 _ _ _ _)) fun a hf => sp 1 hf rfl fun a hf => cNil ⟨hf.kp rfl,hc⟩
    ·rw [hb] at hf
     refine stS hf rfl rfl rfl fun a hf => stS hf rfl rfl rfl fun a hf => stS hf rfl rfl rfl fun a hf => sp 1 hf rfl fun a hf => cNil ⟨hf.kp rfl,hc⟩
   intro a w ⟨hf,hc⟩
   refine sp 1 hf rfl fun a hf => stCc 4 (fun a => Has 184 a [(7,pq b_1),(8,pq b_2),(9,i6 ((W (by_)).tmod 60)),(72,i6 (W (1 + r_7.1))),(73,i6 x),(15,i6 x),(16,i6 r_11.1),(17,pq b_9),(18,i6 r_12.2),(19,pq b_10),(20,i6 r_13.2),(95,i6 r_12.2),(96,.bool (r_12.2 != 0)),(97,.bool (r_12.2 != 0)),(100,.bool ((r_12.2 != 0) || (r_13.2 != 0))),(101,.bool ((r_12.2 != 0) || (r_13.2 != 0))),(105,.bool (((r_12.2 != 0) || (r_13.2 != 0)) || (!(r_12.1.N == r_13.1.N && r_12.1.D == r_13.1.D)))),(106,.bool (((r_12.2 != 0) || (r_13.2 != 0)) || (!(r_12.1.N == r_13.1.N && r_12.1.D == r_13.1.D)))),(110,.bool ((((r_12.2 != 0) || (r_13.2 != 0)) || (!(r_12.1.N == r_13.1.N && r_12.1.D == r_13.1.D))) || (decide (r_12.1.D < 1))))]) hc ?_ ?_
   ·cases hb : (((r_12.2 != 0) || (r_13.2 != 0)) || (!(r_12.1.N == r_13.1.N && r_12.1.D == r_13.1.D)))
    ·rw [hb] at hf
     refine zP hf rfl (pFA fa_45_1 rfl) fun a hf => zL hf hc sc_3 m1 rfl fun a w hf hc => sp 2 hf rfl fun a hf => cNil ⟨hf.kp rfl,hc⟩
    ·rw [hb] at hf
     refine stS hf rfl rfl rfl fun a hf => stS hf rfl rfl rfl fun a hf => stS hf rfl rfl rfl fun a hf => sp 1 hf rfl fun a hf => cNil ⟨hf.kp rfl,hc⟩
   intro a w ⟨hf,hc⟩
   refine zT h ?_
   refine zI hf rfl hF ?_ ?_ <;> clear hF <;> intro hF
   ·refine zS fun K h => sp 1 hf rfl fun a hf => zT h ?_
    refine wp_ret ?_
    refine xThenR ?_
    refine xBlkR ?_
    refine xThenR ?_
    refine xThenR ?_
    have he := sj hF
    rw [← he] at hfin14
    replace hF := ho14 _ hfin14
    refine xBlkR ?_
    refine xThenR ?_
    obtain rfl := hF
    replace hc := (((((hc.drop k5).drop k4).drop k3).drop k2).drop k1).drop k0
    exact zO1 Try.results3 hf rfl ⟨rfl,hc⟩
   ·refine wp_skip ?_
    refine h37 _ _ ?_
    obtain ⟨un,hun,hF⟩ := bnd_some hF
    obtain ⟨un_1,hun_1,hF⟩ := bnd_some hF
    obtain ⟨r_14,hr_14,hF⟩ := bnd_some hF
    obtain ⟨un_2,hun_2,hF⟩ := bnd_some hF
    replace hc := hc.nilRow 0 0
    refine regionE (fun θ => (⟨none,none,7,pq b_1⟩::⟨none,none,8,pq b_2⟩::⟨none,none,9,i6 ((W (by_)).tmod 60)⟩::⟨none,none,15,i6 x⟩::⟨none,none,16,i6 r_11.1⟩::⟨none,none,17,pq b_9⟩::⟨none,none,72,i6 (W (1 + r_7.1))⟩::⟨none,none,73,i6 x⟩::⟨some 0,none,111,.pointer (some ⟨b_2,1,none⟩)⟩::⟨some 1,none,112,.slice p_2 x_3.length c_2⟩::⟨some 2,none,113,i6 x⟩::⟨some 3,none,114,i6 r_11.1⟩::⟨some 4,none,115,i6 ((W (by_)).tmod 60)⟩::⟨some 5,none,116,i6 (W (r_11.1 + ((W (by_)).tmod 60)))⟩::⟨some 6,none,117,pq b_9⟩::⟨some 7,none,118,i6 r_12.1.N⟩::⟨some 8,none,119,.pointer (some ⟨b_9,1,none⟩)⟩::⟨some 9,none,120,i6 r_12.1.D⟩::⟨some 10,none,121,i6 (W (r_12.1.N.tdiv r_12.1.D))⟩::⟨some 11,none,122,pq b_9⟩::⟨some 12,none,123,i6 r_12.1.N⟩::⟨some 13,none,124,.pointer (some ⟨b_9,1,none⟩)⟩::⟨some 14,none,125,i6 r_12.1.D⟩::⟨some 15,none,126,i6 (W (r_12.1.N + r_12.1.D))⟩::⟨some 16,none,127,i6 (W ((W (r_12.1.N + r_12.1.D)) - 1))⟩::⟨some 17,none,128,.pointer (some ⟨b_9,1,none⟩)⟩::⟨some 18,none,129,i6 r_12.1.D⟩::⟨some 19,none,130,i6 (W ((W ((W (r_12.1.N + r_12.1.D)) - 1)).tdiv r_12.1.D))⟩::⟨some 20,none,131,.agg #[i6 r_14.Lo,i6 r_14.Hi]⟩::⟨some 21,none,132,.agg #[i6 x,i6 (W (r_11.1 + ((W (by_)).tmod 60))),i6 r_14.Lo,i6 r_14.Hi]⟩::⟨some 22,none,133,.slice (some ⟨(θ 176).b,0,none⟩) 1 1⟩::⟨some 23,none,134,.slice ((θ 184).p) ((x_3 ++ [(⟨x,W (r_11.1 + ((W (by_)).tmod 60)),r_14⟩ : shift_Gauging)]).length) ((θ 184).c)⟩::⟨some 24,none,135,.pointer (some ⟨b_2,1,none⟩)⟩::[])) (fun E θ => (bif E 22 then .row (some ⟨(θ 176).b,0,none⟩) 1 (([(⟨x,W (r_11.1 + ((W (by_)).tmod 60)),r_14⟩ : shift_Gauging)] : List shift_Gauging).map enc_shift_Gauging) 50 4 else .row none 0 [] 0 0)::.box b_10 [i6 r_13.1.N,i6 r_13.1.D] 45::.box b_9 [i6 r_12.1.N,i6 r_12.1.D] 45::.box b_1 [.slice numbers_p numbers.length numbers_c,i6 r_11.2.1,i6 r_11.2.2] 59::(bif E 23 then .row ((θ 184).p) ((θ 184).c) ((x_3 ++ [(⟨x,W (r_11.1 + ((W (by_)).tmod 60)),r_14⟩ : shift_Gauging)]).map enc_shift_Gauging) 50 4 else .row p_2 c_2 (x_3.map enc_shift_Gauging) 50 4)::(bif E 25 then .box b_2 [.slice p_1 r_1.1.length c_1,.slice ((θ 184).p) ((x_3 ++ [(⟨x,W (r_11.1 + ((W (by_)).tmod 60)),r_14⟩ : shift_Gauging)]).length) ((θ 184).c)] 29 else .box b_2 [.slice p_1 r_1.1.length c_1,.slice p_2 x_3.length c_2] 29)::.row p_1 c_1 (r_1.1.map enc_shift_Mark) 61 2::Lf) [(25,1),(25,23)] (fun a w => ∃ (b_12 : Nat) (p_7 : Option Addr) (c_7 : Nat),Has 184 a [(7,pq b_1),(8,pq b_2),(9,i6 ((W (by_)).tmod 60)),(72,i6 (W (1 + r_7.1))),(73,i6 x)] ∧ Ctx G (.row (some ⟨b_12,0,none⟩) 1 (([(⟨x,W (r_11.1 + ((W (by_)).tmod 60)),r_14⟩ : shift_Gauging)] : List shift_Gauging).map enc_shift_Gauging) 50 4::.box b_10 [i6 r_13.1.N,i6 r_13.1.D] 45::.box b_9 [i6 r_12.1.N,i6 r_12.1.D] 45::.box b_1 [.slice numbers_p numbers.length numbers_c,i6 r_11.2.1,i6 r_11.2.2] 59::.row p_7 c_7 ((x_3 ++ [(⟨x,W (r_11.1 + ((W (by_)).tmod 60)),r_14⟩ : shift_Gauging)]).map enc_shift_Gauging) 50 4::.box b_2 [.slice p_1 r_1.1.length c_1,.slice p_7 ((x_3 ++ [(⟨x,W (r_11.1 + ((W (by_)).tmod 60)),r_14⟩ : shift_Gauging)]).length) c_7] 29::.row p_1 c_1 (r_1.1.map enc_shift_Mark) 61 2::Lf) w) follows_mx (by kernel_rfl) (by kernel_rfl) (HasE.of hf ⟨rfl,rfl,rfl,rfl,rfl,rfl,rfl,rfl,trivial,trivial,trivial,trivial,trivial,trivial,trivial,trivial,trivial,trivial,trivial,trivial,trivial,trivial,trivial,trivial,trivial,trivial,trivial,trivial,trivial,trivial,trivial,trivial,trivial,trivial⟩) hc ⟨?_,?_,?_,?_,?_,?_,?_,?_,?_,?_,?_,?_,?_,?_,?_,?_,?_,?_,?_,?_,?_,?_,?_,?_,?_,?_,trivial⟩ ?_ ?_
    ·intro E θ a w hD hi hp he hc
     have hf := he.h0.mT he 1 rfl
     refine zP hf rfl (pFA fa_29_1 rfl) fun a hf => zD θ he hi hf 8 rfl rfl rfl hc
    ·intro E θ a w hD hi hp he hc
     have e0 := hp.o 0 rfl
     have e25 := hD.f 0 rfl hi
     try dsimp only at hc
     rw [e25] at hc
     have hf := he.h0.mP he 8 rfl e0
     refine zL hf hc sc_27 m5 rfl fun a w hf hc => zD θ he hi hf 9 rfl rfl rfl ?_
     try dsimp only
     rw [updE_fls 1 e25 rfl]
     exact hc
    ·intro E θ a w hD hi hp he hc
     have hf := he.h0.mT he 3 rfl
     refine sp 1 hf rfl fun a hf => zD θ he hi hf 10 rfl rfl rfl hc
    ·intro E θ a w hD hi hp he hc
     have hf := he.h0.mT he 4 rfl
     refine sp 1 hf rfl fun a hf => zD θ he hi hf 11 rfl rfl rfl hc
    ·intro E θ a w hD hi hp he hc
     have hf := he.h0.mT he 2 rfl
     refine sp 1 hf rfl fun a hf => zD θ he hi hf 12 rfl rfl rfl hc
    ·intro E θ a w hD hi hp he hc
     have e3 := hp.o 3 rfl
     have e4 := hp.o 4 rfl
     have hf := (he.h0.mP he 11 rfl e3).mP he 12 rfl e4
     refine sp 1 hf rfl fun a hf => zD θ he hi hf 13 rfl rfl rfl hc
    ·intro E θ a w hD hi hp he hc
     have hf := he.h0.mT he 5 rfl
     refine zP hf rfl (pFA fa_45_0 rfl) fun a hf => zD θ he hi hf 14 rfl rfl rfl hc
    ·intro E θ a w hD hi hp he hc
     have e6 := hp.o 6 rfl
     have hf := he.h0.mP he 14 rfl e6
     refine zL hf hc sc_3 m2 rfl fun a w hf hc => zD θ he hi hf 15 rfl rfl rfl hc
    ·intro E θ a w hD hi hp he hc
     have hf := he.h0.mT he 5 rfl
     refine zP hf rfl (pFA fa_45_1 rfl) fun a hf => zD θ he hi hf 16 rfl rfl rfl hc
    ·intro E θ a w hD hi hp he hc
     have e8 := hp.o 8 rfl
     have hf := he.h0.mP he 16 rfl e8
     refine zL hf hc sc_3 m2 rfl fun a w hf hc => zD θ he hi hf 17 rfl rfl rfl hc
    ·intro E θ a w hD hi hp he hc
     have e7 := hp.o 7 rfl
     have e9 := hp.o 9 rfl
     have hf := (he.h0.mP he 15 rfl e7).mP he 17 rfl e9
     refine zP hf rfl (pQuo rfl rfl (nz_spec hun)) fun a hf => zD θ he hi hf 18 rfl rfl rfl hc
    ·intro E θ a w hD hi hp he hc
     have hf := he.h0.mT he 5 rfl
     refine zP hf rfl (pFA fa_45_0 rfl) fun a hf => zD θ he hi hf 19 rfl rfl rfl hc
    ·intro E θ a w hD hi hp he hc
     have e11 := hp.o 11 rfl
     have hf := he.h0.mP he 19 rfl e11
     refine zL hf hc sc_3 m2 rfl fun a w hf hc => zD θ he hi hf 20 rfl rfl rfl hc
    ·intro E θ a w hD hi hp he hc
     have hf := he.h0.mT he 5 rfl
     refine zP hf rfl (pFA fa_45_1 rfl) fun a hf => zD θ he hi hf 21 rfl rfl rfl hc
    ·intro E θ a w hD hi hp he hc
     have e13 := hp.o 13 rfl
     have hf := he.h0.mP he 21 rfl e13
     refine zL hf hc sc_3 m2 rfl fun a w hf hc => zD θ he hi hf 22 rfl rfl rfl hc
    ·intro E θ a w hD hi hp he hc
     have e12 := hp.o 12 rfl
     have e14 := hp.o 14 rfl
     have hf := (he.h0.mP he 20 rfl e12).mP he 22 rfl e14
     refine sp 1 hf rfl fun a hf => zD θ he hi hf 23 rfl rfl rfl hc
    ·intro E θ a w hD hi hp he hc
     have e15 := hp.o 15 rfl
     have hf := he.h0.mP he 23 rfl e15
     refine sp 1 hf rfl fun a hf => zD θ he hi hf 24 rfl rfl rfl hc
    ·intro E θ a w hD hi hp he hc
     have hf := he.h0.mT he 5 rfl
     refine zP hf rfl (pFA fa_45_1 rfl) fun a hf => zD θ he hi hf 25 rfl rfl rfl hc
    ·intro E θ a w hD hi hp he hc
     have e17 := hp.o 17 rfl
     have hf := he.h0.mP he 25 rfl e17
     refine zL hf hc sc_3 m2 rfl fun a w hf hc => zD θ he hi hf 26 rfl rfl rfl hc
    ·intro E θ a w hD hi hp he hc
     have e16 := hp.o 16 rfl
     have e18 := hp.o 18 rfl
     have hf := (he.h0.mP he 24 rfl e16).mP he 26 rfl e18
     refine zP hf rfl (pQuo rfl rfl (nz_spec hun_1)) fun a hf => zD θ he hi hf 27 rfl rfl rfl hc
    ·intro E θ a w hD hi hp he hc
     have e10 := hp.o 10 rfl
     have e19 := hp.o 19 rfl
     have hf := (he.h0.mP he 18 rfl e10).mP he 27 rfl e19
     refine zQ (v := .agg #[i6 r_14.Lo,i6 r_14.Hi]) hf hc en_11 rfl (fun w hc => law05_span_ok (W (r_12.1.N.tdiv r_12.1.D)) (W ((W ((W (r_12.1.N + r_12.1.D)) - 1)).tdiv r_12.1.D)) hc hr_14) fun a w hf hc => zD θ he hi hf 28 rfl rfl rfl hc
    ·intro E θ a w hD hi hp he hc
     have e2 := hp.o 2 rfl
     have e5 := hp.o 5 rfl
     have e20 := hp.o 20 rfl
     have hf := ((he.h0.mP he 10 rfl e2).mP he 13 rfl e5).mP he 28 rfl e20
     refine zP hf rfl (pBuildS (cells := [i6 x,i6 (W (r_11.1 + ((W (by_)).tmod 60))),i6 r_14.Lo,i6 r_14.Hi]) bt_50 rfl rfl) fun a hf => zD θ he hi hf 29 rfl rfl rfl hc
    ·intro E θ a w hD hi hp he hc
     have e21 := hp.o 21 rfl
     try dsimp only at hc
     rw [hi] at hc
     have hf := he.h0.mP he 29 rfl e21
     refine stBS (rows := ([(⟨x,W (r_11.1 + ((W (by_)).tmod 60)),r_14⟩ : shift_Gauging)] : List shift_Gauging).map enc_shift_Gauging) (vs := [(0,.agg #[i6 x,i6 (W (r_11.1 + ((W (by_)).tmod 60))),i6 r_14.Lo,i6 r_14.Hi])]) hf hc rfl rfl sl_27 rfl ⟨rfl,rfl,rfl,trivial⟩ rfl rfl fun b_11 a w hf hc => cNil ?_
     refine xThenN ?_
     intro ds u hau
     replace hc := hc.drop k1
     refine ⟨(setT θ 176 ⟨b_11,none,0,(fun _ => (none,0))⟩),he.put hi hau hf rfl [] trivial ⟨qq,qq,qq,qq,qq,qq,qq,qq,qq,qq,qq,qq,qq,qq,qq,qq,qq,qq,qq,qq,qq,qq,qq,qq,qq,qq,qq,qq,qq,qq,qq,qq,qq,trivial⟩,?_⟩
     try dsimp only
     rw [updE_self E 22]
     exact hc
    ·intro E θ a w hD hi hp he hc
     have e1 := hp.o 1 rfl
     have e22 := hp.o 22 rfl
     have e25 := hD.f 1 rfl hi
     try dsimp only at hc
     rw [e22,hi,e25] at hc
     have hf := (he.h0.mP he 9 rfl e1).mP he 30 rfl e22
     refine stApm (xs := x_3) (ys := ([(⟨x,W (r_11.1 + ((W (by_)).tmod 60)),r_14⟩ : shift_Gauging)] : List shift_Gauging)) hf hc rfl rfl sl_27 rfl rfl rfl rfl rfl one_enc_shift_Gauging (src_row hc m0) (fun _ _ => u4) (by simpa using room_spec hun_2) fun p_6 c_6 a w hf hc => cNil ?_
     refine xThenN ?_
     intro ds u hau
     refine ⟨(setT θ 184 ⟨0,p_6,c_6,(fun _ => (none,0))⟩),he.put hi hau hf rfl [] trivial ⟨qq,qq,qq,qq,qq,qq,qq,qq,qq,qq,qq,qq,qq,qq,qq,qq,qq,qq,qq,qq,qq,qq,qq,qq,qq,qq,qq,qq,qq,qq,qq,qq,qq,trivial⟩,?_⟩
     try dsimp only
     rw [updE_tru 23 e22,updE_self E 23,updE_fls 23 e25 rfl]
     exact hc
    ·intro E θ a w hD hi hp he hc
     have hf := he.h0.mT he 1 rfl
     refine zP hf rfl (pFA fa_29_1 rfl) fun a hf => zD θ he hi hf 32 rfl rfl rfl hc
    ·intro E θ a w hD hi hp he hc
     have e23 := hp.o 23 rfl
     have e24 := hp.o 24 rfl
     try dsimp only at hc
     rw [hi] at hc
     have hf := (he.h0.mP he 31 rfl e23).mP he 32 rfl e24
     refine zW hf hc sz_27 u5 rfl fun w hc => zG θ he hi hf rfl ?_
     try dsimp only
     rw [updE_self E 25]
     exact hc
    ·intro E θ a w hall he hc
     have hf := he.h0
     have e22 := hall 22 rfl
     have e23 := hall 23 rfl
     have e25 := hall 25 rfl
     replace hf := hf.more he 7 rfl (onT)
     replace hf := hf.more he 6 rfl (onT)
     replace hf := hf.more he 2 rfl (onT)
     replace hf := hf.more he 1 rfl (onT)
     replace hf := hf.more he 0 rfl (onT)
     try dsimp only at hc
     rw [e22,e23,e25] at hc
     exact ⟨(θ 176).b,(θ 184).p,(θ 184).c,hf.kp rfl,hc⟩
    rintro a w ⟨b_12,p_7,c_7,hf,hc⟩
    refine h32 _ _ ?_
    refine cReg ?_
    refine sp 2 hf rfl fun a hf => cNil ?_
    replace hc := ((((hc.drop k2).drop k1).drop k0).pick k0).pick k1
    exact hK14 (W (x + 1),r_11.2.1,r_11.2.2,(x_3 ++ [(⟨x,W (r_11.1 + ((W (by_)).tmod 60)),r_14⟩ : shift_Gauging)])) _ _ (sj hF).symm ⟨p_7,c_7,hf.kp rfl,hc⟩
  ·refine wp_exit ?_
   refine xThen ?_
   refine xThen ?_
   have he := sj hF
   rw [← he] at hfin14
   refine cHit ?_
   exact hr14 _ _ _ hfin14 ⟨p_2,c_2,hf.kp rfl,hc⟩

end Go.Nilo
