/-
 What functions of the Go text compute, as plain functions, and that they do, part 2 of 3. Conditions: what each theorem names.
-/
import Derived.Test.YtakhbnnlhoninaaGreatGl1
import Derived.Test.YtakhbnnlhoninaaGreatProg
set_option linter.unusedVariables false
set_option linter.unusedSimpArgs false
set_option maxRecDepth 100000
set_option maxHeartbeats 4000000
namespace Go.Nilo
open Go.Proofs


def level_Between (N : Nat) (n : level_Net) (from_ : Int) (to_ : Int) : Option (api_Span × Int) :=
 Option.bind (level_asked N n from_ to_ true) (sumK (fun r => cond (r != 0)
 (some ((⟨0,0⟩ : api_Span),r))
 (none))
 (fun r_1 => cond (r_1.2.2.2 != 0)
 (some ((⟨0,0⟩ : api_Span),r_1.2.2.2))
 (Option.bind (inR to_ 13) fun un =>
 Option.bind (inR from_ 13) fun un_1 =>
 Option.bind (inR from_ 13) fun un_2 =>
 Option.bind (inR to_ 13) fun un_3 =>
 some ((⟨W (0 - (r_1.2.1 (to_ * 13 + from_).toNat)),(r_1.2.1 (from_ * 13 + to_).toNat)⟩ : api_Span),0))))
theorem level_Between_ok {N : Nat} {G : Pers} {Lf : List Ent} {w : World} (n : level_Net) (from_ : Int) (to_ : Int) {n_Lines_p : Option Addr} {n_Lines_c : Nat} (h_n_Lines : Rd G 5 n_Lines_p n_Lines_c (n.Lines.map enc_level_Line)) (hc : Ctx G (Lf) w) {res : api_Span × Int} (hF : level_Between N n from_ to_ = some res) : Calls Tryz.prog 9 #[.agg #[i6 n.Marks,.slice n_Lines_p n.Lines.length n_Lines_c],i6 from_,i6 to_] w (fun e w => e = .returned (.tuple #[.agg #[i6 res.1.Lo,i6 res.1.Hi],i6 res.2]) ∧ Ctx G (Lf) w) := by
 unfold level_Between at hF
 refine fnIn Tryz.func9 rfl Tryz.ntmps9 rfl fun a hf => zS fun K h => zB hf hc rfl fun b_1 a w hf hc => zA hf hc zr_43 rfl fun b_2 a w hf hc => sp 1 hf rfl fun a hf => zT h ?_
 refine zS fun K h => zN hf hc ag_31 m1 rfl fun a w hf hc => sp 2 hf rfl fun a hf => ?_
 obtain ⟨r,hr,hF⟩ := bnd_some hF
 cases r with
 | inl r =>
  replace hF := sumKl hF
  refine zC hf en_16 rfl (level_asked_ok n from_ to_ true h_n_Lines hc hr) ?_
  rintro _ w ⟨rfl,hc⟩
  refine ⟨_,rfl,fun a hf => ?_⟩
  refine sp 5 hf rfl fun a hf => zT h ?_
  refine wp_seq_k fun K3 h3 => zS fun K h => sp 2 hf rfl fun a hf => zT h ?_
  refine zI hf rfl hF ?_ ?_ <;> clear hF <;> intro hF
  ·refine zS fun K h => zP hf rfl (pBuildS (cells := [i6 0,i6 0]) bt_43 rfl rfl) fun a hf => sp 1 hf rfl fun a hf => zW hf hc sz_43 u0 rfl fun w hc => sp 1 hf rfl fun a hf => zT h ?_
   refine wp_ret ?_
   refine xThenR ?_
   obtain rfl := sj hF
   replace hc := hc.drop k1
   exact fnOut2 (by simp) rfl Tryz.results9 hf hc (rv_cellN (vs := [i6 0,i6 0]) ag_43 rfl rfl (cells_box (n := 2) m0 rfl)) (show look _ 7 = _ from rfl) ⟨rfl,(hc.drop k0)⟩
  ·refine wp_skip ?_
   refine h3 _ _ ?_
   refine wp_seq_k fun K6 h6 => noneO hF
 | inr r_1 =>
  replace hF := sumKr hF
  have hr_1 := hr
  refine zC hf en_16 rfl (level_asked_ok n from_ to_ true h_n_Lines hc hr_1) ?_
  rintro _ w ⟨b_3,rfl,hc⟩
  refine ⟨_,rfl,fun a hf => ?_⟩
  refine sp 5 hf rfl fun a hf => zT h ?_
  refine wp_seq_k fun K7 h7 => zS fun K h => sp 2 hf rfl fun a hf => zT h ?_
  refine zI hf rfl hF ?_ ?_ <;> clear hF <;> intro hF
  ·refine zS fun K h => zP hf rfl (pBuildS (cells := [i6 0,i6 0]) bt_43 rfl rfl) fun a hf => sp 1 hf rfl fun a hf => zW hf hc sz_43 u1 rfl fun w hc => sp 1 hf rfl fun a hf => zT h ?_
   refine wp_ret ?_
   refine xThenR ?_
   obtain rfl := sj hF
   replace hc := (hc.drop k2).drop k0
   exact fnOut2 (by simp) rfl Tryz.results9 hf hc (rv_cellN (vs := [i6 0,i6 0]) ag_43 rfl rfl (cells_box (n := 2) m0 rfl)) (show look _ 7 = _ from rfl) ⟨rfl,(hc.drop k0)⟩
  ·refine wp_skip ?_
   refine h7 _ _ ?_
   refine wp_seq_k fun K10 h10 => ?_
   obtain ⟨un,hun,hF⟩ := bnd_some hF
   obtain ⟨un_1,hun_1,hF⟩ := bnd_some hF
   obtain ⟨un_2,hun_2,hF⟩ := bnd_some hF
   obtain ⟨un_3,hun_3,hF⟩ := bnd_some hF
   refine regionE (fun θ => [⟨none,none,1,i6 from_⟩,⟨none,none,2,i6 to_⟩,⟨none,none,6,pq b_2⟩,⟨none,some 19,7,i6 0⟩,⟨none,none,8,pq b_3⟩,⟨some 0,none,21,pq b_3⟩,⟨some 1,none,22,i6 to_⟩,⟨some 2,none,23,i6 from_⟩,⟨some 3,none,24,pq b_3⟩,⟨some 4,none,25,.pointer (some ⟨b_3,2,none⟩)⟩,⟨some 5,none,26,.pointer (some ⟨b_3,2 + to_.toNat * 13,none⟩)⟩,⟨some 6,none,27,.pointer (some ⟨b_3,2 + (to_ * 13 + from_).toNat * 1,none⟩)⟩,⟨some 7,none,28,i6 (r_1.2.1 (to_ * 13 + from_).toNat)⟩,⟨some 8,none,29,i6 (W (0 - (r_1.2.1 (to_ * 13 + from_).toNat)))⟩,⟨some 9,none,30,pq b_3⟩,⟨some 10,none,31,i6 from_⟩,⟨some 11,none,32,i6 to_⟩,⟨some 12,none,33,pq b_3⟩,⟨some 13,none,34,.pointer (some ⟨b_3,2,none⟩)⟩,⟨some 14,none,35,.pointer (some ⟨b_3,2 + from_.toNat * 13,none⟩)⟩,⟨some 15,none,36,.pointer (some ⟨b_3,2 + (from_ * 13 + to_).toNat * 1,none⟩)⟩,⟨some 16,none,37,i6 (r_1.2.1 (from_ * 13 + to_).toNat)⟩,⟨some 17,none,38,.agg #[i6 (W (0 - (r_1.2.1 (to_ * 13 + from_).toNat))),i6 (r_1.2.1 (from_ * 13 + to_).toNat)]⟩,⟨some 19,none,7,i6 0⟩]) (fun E θ => .box b_3 (catc [i6 r_1.1,.slice n_Lines_p n.Lines.length n_Lines_c] 169 encI_i64 r_1.2.1 (catc [] 169 enc_level_Leg r_1.2.2.1 [])) 70::(bif E 18 then .box b_2 [i6 (W (0 - (r_1.2.1 (to_ * 13 + from_).toNat))),i6 (r_1.2.1 (from_ * 13 + to_).toNat)] 43 else .box b_2 [i6 0,i6 0] 43)::.box b_1 [i6 n.Marks,.slice n_Lines_p n.Lines.length n_Lines_c] 31::Lf) [] (fun a w => Has 39 a [(6,pq b_2),(7,i6 0)] ∧ Ctx G (.box b_3 (catc [i6 r_1.1,.slice n_Lines_p n.Lines.length n_Lines_c] 169 encI_i64 r_1.2.1 (catc [] 169 enc_level_Leg r_1.2.2.1 [])) 70::.box b_2 [i6 (W (0 - (r_1.2.1 (to_ * 13 + from_).toNat))),i6 (r_1.2.1 (from_ * 13 + to_).toNat)] 43::.box b_1 [i6 n.Marks,.slice n_Lines_p n.Lines.length n_Lines_c] 31::Lf) w) follows_mx (by kernel_rfl) (by kernel_rfl) (HasE.of hf ⟨rfl,rfl,rfl,rfl,rfl,trivial,trivial,trivial,trivial,trivial,trivial,trivial,trivial,trivial,trivial,trivial,trivial,trivial,trivial,trivial,trivial,trivial,trivial,trivial,trivial⟩) hc ⟨?_,?_,?_,?_,?_,?_,?_,?_,?_,?_,?_,?_,?_,?_,?_,?_,?_,?_,?_,?_,trivial⟩ ?_ ?_
   ·intro E θ a w hD hi hp he hc
    have hf := he.h0.mT he 4 rfl
    refine sp 1 hf rfl fun a hf => zD θ he hi hf 5 rfl rfl rfl hc
   ·intro E θ a w hD hi hp he hc
    have hf := he.h0.mT he 1 rfl
    refine sp 1 hf rfl fun a hf => zD θ he hi hf 6 rfl rfl rfl hc
   ·intro E θ a w hD hi hp he hc
    have hf := he.h0.mT he 0 rfl
    refine sp 1 hf rfl fun a hf => zD θ he hi hf 7 rfl rfl rfl hc
   ·intro E θ a w hD hi hp he hc
    have e0 := hp.o 0 rfl
    have hf := he.h0.mP he 5 rfl e0
    refine sp 1 hf rfl fun a hf => zD θ he hi hf 8 rfl rfl rfl hc
   ·intro E θ a w hD hi hp he hc
    have e3 := hp.o 3 rfl
    have hf := he.h0.mP he 8 rfl e3
    refine zP hf rfl (pFA fa_70_1 rfl) fun a hf => zD θ he hi hf 9 rfl rfl rfl hc
   ·intro E θ a w hD hi hp he hc
    have e1 := hp.o 1 rfl
    have e4 := hp.o 4 rfl
    have hf := (he.h0.mP he 6 rfl e1).mP he 9 rfl e4
    refine zP hf rfl (pIAA Tryz.underlying64 sz_62 rfl rfl (inR_spec hun).1 (inR_spec hun).2) fun a hf => zD θ he hi hf 10 rfl rfl rfl hc
   ·intro E θ a w hD hi hp he hc
    have e2 := hp.o 2 rfl
    have e5 := hp.o 5 rfl
    have hf := (he.h0.mP he 7 rfl e2).mP he 10 rfl e5
    refine zP hf rfl (Pu.cast (pIAA Tryz.underlying62 sz_3 rfl rfl (inR_spec hun_1).1 (inR_spec hun_1).2) (congrArg (fun k => Value.pointer (some ⟨b_3,k,none⟩)) (flat_off (M := 13) (2) hun hun_1 rfl))) fun a hf => zD θ he hi hf 11 rfl rfl rfl hc
   ·intro E θ a w hD hi hp he hc
    have e6 := hp.o 6 rfl
    have hf := he.h0.mP he 11 rfl e6
    refine zE hf hc rfl (eLd1 sc_3 rfl (cell_arr (j := 0) m0 (fun x => (one_encI_i64 x).1) rfl (inR2 hun hun_1 rfl) rfl)) fun a w hf hc => zD θ he hi hf 12 rfl rfl rfl hc
   ·intro E θ a w hD hi hp he hc
    have e7 := hp.o 7 rfl
    have hf := he.h0.mP he 12 rfl e7
    refine sp 1 hf rfl fun a hf => zD θ he hi hf 13 rfl rfl rfl hc
   ·intro E θ a w hD hi hp he hc
    have hf := he.h0.mT he 4 rfl
    refine sp 1 hf rfl fun a hf => zD θ he hi hf 14 rfl rfl rfl hc
   ·intro E θ a w hD hi hp he hc
    have hf := he.h0.mT he 0 rfl
    refine sp 1 hf rfl fun a hf => zD θ he hi hf 15 rfl rfl rfl hc
   ·intro E θ a w hD hi hp he hc
    have hf := he.h0.mT he 1 rfl
    refine sp 1 hf rfl fun a hf => zD θ he hi hf 16 rfl rfl rfl hc
   ·intro E θ a w hD hi hp he hc
    have e9 := hp.o 9 rfl
    have hf := he.h0.mP he 14 rfl e9
    refine sp 1 hf rfl fun a hf => zD θ he hi hf 17 rfl rfl rfl hc
   ·intro E θ a w hD hi hp he hc
    have e12 := hp.o 12 rfl
    have hf := he.h0.mP he 17 rfl e12
    refine zP hf rfl (pFA fa_70_1 rfl) fun a hf => zD θ he hi hf 18 rfl rfl rfl hc
   ·intro E θ a w hD hi hp he hc
    have e10 := hp.o 10 rfl
    have e13 := hp.o 13 rfl
    have hf := (he.h0.mP he 15 rfl e10).mP he 18 rfl e13
    refine zP hf rfl (pIAA Tryz.underlying64 sz_62 rfl rfl (inR_spec hun_2).1 (inR_spec hun_2).2) fun a hf => zD θ he hi hf 19 rfl rfl rfl hc
   ·intro E θ a w hD hi hp he hc
    have e11 := hp.o 11 rfl
    have e14 := hp.o 14 rfl
    have hf := (he.h0.mP he 16 rfl e11).mP he 19 rfl e14
    refine zP hf rfl (Pu.cast (pIAA Tryz.underlying62 sz_3 rfl rfl (inR_spec hun_3).1 (inR_spec hun_3).2) (congrArg (fun k => Value.pointer (some ⟨b_3,k,none⟩)) (flat_off (M := 13) (2) hun_2 hun_3 rfl))) fun a hf => zD θ he hi hf 20 rfl rfl rfl hc
   ·intro E θ a w hD hi hp he hc
    have e15 := hp.o 15 rfl
    have hf := he.h0.mP he 20 rfl e15
    refine zE hf hc rfl (eLd1 sc_3 rfl (cell_arr (j := 0) m0 (fun x => (one_encI_i64 x).1) rfl (inR2 hun_2 hun_3 rfl) rfl)) fun a w hf hc => zD θ he hi hf 21 rfl rfl rfl hc
   ·intro E θ a w hD hi hp he hc
    have e8 := hp.o 8 rfl
    have e16 := hp.o 16 rfl
    have hf := (he.h0.mP he 13 rfl e8).mP he 21 rfl e16
    refine zP hf rfl (pBuildS (cells := [i6 (W (0 - (r_1.2.1 (to_ * 13 + from_).toNat))),i6 (r_1.2.1 (from_ * 13 + to_).toNat)]) bt_43 rfl rfl) fun a hf => zD θ he hi hf 22 rfl rfl rfl hc
   ·intro E θ a w hD hi hp he hc
    have e17 := hp.o 17 rfl
    try dsimp only at hc
    rw [hi] at hc
    have hf := (he.h0.mT he 2 rfl).mP he 22 rfl e17
    refine zW hf hc sz_43 u1 rfl fun w hc => zG θ he hi hf rfl ?_
    try dsimp only
    rw [updE_self E 18]
    exact hc
   ·intro E θ a w hD hi hp he hc
    have hf := he.h0
    refine sp 1 hf rfl fun a hf => zD θ he hi hf 23 rfl rfl rfl hc
   ·intro E θ a w hall he hc
    have hf := he.h0
    have e18 := hall 18 rfl
    have e19 := hall 19 rfl
    replace hf := hf.more he 23 rfl (onP e19)
    replace hf := hf.more he 2 rfl (onT)
    try dsimp only at hc
    rw [e18] at hc
    exact ⟨hf.kp rfl,hc⟩
   rintro a w ⟨hf,hc⟩
   refine h10 _ _ ?_
   refine wp_ret ?_
   obtain rfl := sj hF
   replace hc := (hc.drop k2).drop k0
   exact fnOut2 (by simp) rfl Tryz.results9 hf hc (rv_cellN (vs := [i6 (W (0 - (r_1.2.1 (to_ * 13 + from_).toNat))),i6 (r_1.2.1 (from_ * 13 + to_).toNat)]) ag_43 rfl rfl (cells_box (n := 2) m0 rfl)) (show look _ 7 = _ from rfl) ⟨rfl,(hc.drop k0)⟩

def law03_span (N : Nat) (lo : Int) (hi_ : Int) : Option (api_Span) :=
 some (⟨lo,hi_⟩ : api_Span)
theorem law03_span_ok {N : Nat} {G : Pers} {Lf : List Ent} {w : World} (lo : Int) (hi_ : Int)   (hc : Ctx G (Lf) w) {res : api_Span} (hF : law03_span N lo hi_ = some res) : Calls Tryz.prog 10 #[i6 lo,i6 hi_] w (fun e w => e = .returned (.agg #[i6 res.Lo,i6 res.Hi]) ∧ Ctx G (Lf) w) := by
 unfold law03_span at hF
 refine fnIn Tryz.func10 rfl Tryz.ntmps10 rfl fun a hf => zS fun K h => zA hf hc zr_43 rfl fun b_1 a w hf hc => zT h ?_
 refine zS fun K h => sp 2 hf rfl fun a hf => zP hf rfl (pBuildS (cells := [i6 lo,i6 hi_]) bt_43 rfl rfl) fun a hf => zW hf hc sz_43 u0 rfl fun w hc => zT h ?_
 refine wp_ret ?_
 obtain rfl := sj hF
 exact fnOut1 (by simp) rfl Tryz.results10 hf hc (rv_cellN (vs := [i6 lo,i6 hi_]) ag_43 rfl rfl (cells_box (n := 2) m0 rfl)) ⟨rfl,(hc.drop k0)⟩

def gauge_in (n : Int) (least : Int) (greatest : Int) : Bool :=
 ((decide (least ≤ n)) && (decide (n ≤ greatest)))
theorem gauge_in_ok {G : Pers} {Lf : List Ent} {w : World} (n : Int) (least : Int) (greatest : Int)   (hc : Ctx G (Lf) w) {res : Bool} (hF : gauge_in n least greatest = res) : Calls Tryz.prog 21 #[i6 n,i6 least,i6 greatest] w (fun e w => e = .returned (.bool res) ∧ Ctx G (Lf) w) := by
 unfold gauge_in at hF
 refine fnIn Tryz.func21 rfl Tryz.ntmps21 rfl fun a hf => zS fun K h => sp 1 hf rfl fun a hf => zT h ?_
 refine zS fun K h => sp 4 hf rfl fun a hf => stCc 4 (fun a => Has 15 a [(0,i6 n),(1,i6 least),(2,i6 greatest),(6,.bool false),(7,i6 n),(8,i6 least),(9,.bool (decide (least ≤ n))),(10,.bool (decide (least ≤ n))),(14,.bool ((decide (least ≤ n)) && (decide (n ≤ greatest))))]) hc ?_ ?_
 ·cases hb : (decide (least ≤ n))
  ·rw [hb] at hf
   refine stS hf rfl rfl rfl fun a hf => stS hf rfl rfl rfl fun a hf => stS hf rfl rfl rfl fun a hf => sp 1 hf rfl fun a hf => cNil ⟨hf.kp rfl,hc⟩
  ·rw [hb] at hf
   refine sp 4 hf rfl fun a hf => cNil ⟨hf.kp rfl,hc⟩
 intro a w ⟨hf,hc⟩
 refine sp 1 hf rfl fun a hf => zT h ?_
 refine wp_ret ?_
 obtain rfl := hF
 exact zO1 Tryz.results21 hf rfl ⟨rfl,hc⟩

def gauge_shore (left : Int) (right : Int) : Bool :=
 ((gauge_in right 1 10000) && (gauge_in left 0 (W (right - 1))))
theorem gauge_shore_ok {G : Pers} {Lf : List Ent} {w : World} (left : Int) (right : Int)   (hc : Ctx G (Lf) w) {res : Bool} (hF : gauge_shore left right = res) : Calls Tryz.prog 37 #[i6 left,i6 right] w (fun e w => e = .returned (.bool res) ∧ Ctx G (Lf) w) := by
 unfold gauge_shore at hF
 refine fnIn Tryz.func37 rfl Tryz.ntmps37 rfl fun a hf => zS fun K h => sp 1 hf rfl fun a hf => zT h ?_
 refine zS fun K h => sp 1 hf rfl fun a hf => zQ (v := .bool (gauge_in right 1 10000)) hf hc en_21 rfl (fun w hc => gauge_in_ok right 1 10000 hc rfl) fun a w hf hc => sp 1 hf rfl fun a hf => stCc 5 (fun a => Has 13 a [(0,i6 left),(1,i6 right),(4,.bool false),(5,i6 right),(6,.bool (gauge_in right 1 10000)),(7,.bool (gauge_in right 1 10000)),(12,.bool ((gauge_in right 1 10000) && (gauge_in left 0 (W (right - 1)))))]) hc ?_ ?_
 ·cases hb : (gauge_in right 1 10000)
  ·rw [hb] at hf
   refine stS hf rfl rfl rfl fun a hf => stS hf rfl rfl rfl fun a hf => stS hf rfl rfl rfl fun a hf => stS hf rfl rfl rfl fun a hf => sp 1 hf rfl fun a hf => cNil ⟨hf.kp rfl,hc⟩
  ·rw [hb] at hf
   refine sp 3 hf rfl fun a hf => zQ (v := .bool (gauge_in left 0 (W (right - 1)))) hf hc en_21 rfl (fun w hc => gauge_in_ok left 0 (W (right - 1)) hc rfl) fun a w hf hc => sp 1 hf rfl fun a hf => cNil ⟨hf.kp rfl,hc⟩
 intro a w ⟨hf,hc⟩
 refine sp 1 hf rfl fun a hf => zT h ?_
 refine wp_ret ?_
 obtain rfl := hF
 exact zO1 Tryz.results37 hf rfl ⟨rfl,hc⟩

def gauge_right (s_ : api_Span) (least : Int) (greatest : Int) : Bool :=
 ((gauge_in s_.Lo least s_.Hi) && (decide (s_.Hi ≤ greatest)))
theorem gauge_right_ok {G : Pers} {Lf : List Ent} {w : World} (s_ : api_Span) (least : Int) (greatest : Int)   (hc : Ctx G (Lf) w) {res : Bool} (hF : gauge_right s_ least greatest = res) : Calls Tryz.prog 40 #[.agg #[i6 s_.Lo,i6 s_.Hi],i6 least,i6 greatest] w (fun e w => e = .returned (.bool res) ∧ Ctx G (Lf) w) := by
 unfold gauge_right at hF
 refine fnIn Tryz.func40 rfl Tryz.ntmps40 rfl fun a hf => zS fun K h => zB hf hc rfl fun b_1 a w hf hc => sp 1 hf rfl fun a hf => zT h ?_
 refine zS fun K h => zP hf rfl (pFA fa_43_0 rfl) fun a hf => zL hf hc sc_3 m0 rfl fun a w hf hc => sp 1 hf rfl fun a hf => zP hf rfl (pFA fa_43_1 rfl) fun a hf => zL hf hc sc_3 m0 rfl fun a w hf hc => zQ (v := .bool (gauge_in s_.Lo least s_.Hi)) hf hc en_21 rfl (fun w hc => gauge_in_ok s_.Lo least s_.Hi hc rfl) fun a w hf hc => sp 1 hf rfl fun a hf => stCc 5 (fun a => Has 19 a [(1,i6 least),(2,i6 greatest),(3,pq b_1),(6,.bool false),(7,pq b_1),(8,i6 s_.Lo),(9,i6 least),(10,.pointer (some ⟨b_1,1,none⟩)),(11,i6 s_.Hi),(12,.bool (gauge_in s_.Lo least s_.Hi)),(13,.bool (gauge_in s_.Lo least s_.Hi)),(18,.bool ((gauge_in s_.Lo least s_.Hi) && (decide (s_.Hi ≤ greatest))))]) hc ?_ ?_
 ·cases hb : (gauge_in s_.Lo least s_.Hi)
  ·rw [hb] at hf
   refine stS hf rfl rfl rfl fun a hf => stS hf rfl rfl rfl fun a hf => stS hf rfl rfl rfl fun a hf => stS hf rfl rfl rfl fun a hf => sp 1 hf rfl fun a hf => cNil ⟨hf.kp rfl,hc⟩
  ·rw [hb] at hf
   refine zP hf rfl (pFA fa_43_1 rfl) fun a hf => zL hf hc sc_3 m0 rfl fun a w hf hc => sp 3 hf rfl fun a hf => cNil ⟨hf.kp rfl,hc⟩
 intro a w ⟨hf,hc⟩
 refine sp 1 hf rfl fun a hf => zT h ?_
 refine wp_ret ?_
 obtain rfl := hF
 replace hc := hc.drop k0
 exact zO1 Tryz.results40 hf rfl ⟨rfl,hc⟩

def gauge_Check_1 (v : gauge_Vertical) (x : gauge_Gauging) : Bool :=
 (((gauge_in v.At (W (x.Left + 1)) (W (x.Right - 1))) && (gauge_right v.Depth 0 2000)) && (gauge_right v.Speed (-5000) 5000))
theorem gauge_Check_1_ok {G : Pers} {Lf : List Ent} {w : World} (v : gauge_Vertical) (x : gauge_Gauging) {b_ : Nat} {x_Verticals_p : Option Addr} {x_Verticals_c : Nat} (h_x_Verticals : Rd G 5 x_Verticals_p x_Verticals_c (x.Verticals.map enc_gauge_Vertical)) (hc : Ctx G (.box b_ [i6 x.Left,i6 x.Right,.slice x_Verticals_p x.Verticals.length x_Verticals_c] 41::Lf) w) {res : Bool} (hF : gauge_Check_1 v x = res) : Calls Tryz.prog 39 #[.agg #[i6 v.At,i6 v.Depth.Lo,i6 v.Depth.Hi,i6 v.Speed.Lo,i6 v.Speed.Hi],pq b_] w (fun e w => e = .returned (.bool res) ∧ Ctx G (.box b_ [i6 x.Left,i6 x.Right,.slice x_Verticals_p x.Verticals.length x_Verticals_c] 41::Lf) w) := by
 unfold gauge_Check_1 at hF
 refine fnIn Tryz.func39 rfl Tryz.ntmps39 rfl fun a hf => zS fun K h => zB hf hc rfl fun b_1 a w hf hc => sp 1 hf rfl fun a hf => zT h ?_
 refine zS fun K h => zP hf rfl (pFA fa_49_0 rfl) fun a hf => zL hf hc sc_3 m0 rfl fun a w hf hc => zP hf rfl (pFA fa_41_0 rfl) fun a hf => zL hf hc sc_3 m1 rfl fun a w hf hc => sp 1 hf rfl fun a hf => zP hf rfl (pFA fa_41_1 rfl) fun a hf => zL hf hc sc_3 m1 rfl fun a w hf hc => sp 1 hf rfl fun a hf => zQ (v := .bool (gauge_in v.At (W (x.Left + 1)) (W (x.Right - 1)))) hf hc en_21 rfl (fun w hc => gauge_in_ok v.At (W (x.Left + 1)) (W (x.Right - 1)) hc rfl) fun a w hf hc => sp 1 hf rfl fun a hf => stCc 4 (fun a => Has 23 a [(1,pq b_),(2,pq b_1),(3,.bool false),(4,pq b_1),(5,i6 v.At),(6,pq b_),(7,i6 x.Left),(8,i6 (W (x.Left + 1))),(9,.pointer (some ⟨b_,1,none⟩)),(10,i6 x.Right),(11,i6 (W (x.Right - 1))),(12,.bool (gauge_in v.At (W (x.Left + 1)) (W (x.Right - 1)))),(13,.bool (gauge_in v.At (W (x.Left + 1)) (W (x.Right - 1)))),(17,.bool ((gauge_in v.At (W (x.Left + 1)) (W (x.Right - 1))) && (gauge_right v.Depth 0 2000)))]) hc ?_ ?_
 ·cases hb : (gauge_in v.At (W (x.Left + 1)) (W (x.Right - 1)))
  ·rw [hb] at hf
   refine stS hf rfl rfl rfl fun a hf => stS hf rfl rfl rfl fun a hf => stS hf rfl rfl rfl fun a hf => sp 1 hf rfl fun a hf => cNil ⟨hf.kp rfl,hc⟩
  ·rw [hb] at hf
   refine zP hf rfl (pFA fa_49_1 rfl) fun a hf => zN hf hc ag_43 m0 rfl fun a w hf hc => zQ (v := .bool (gauge_right v.Depth 0 2000)) hf hc en_40 rfl (fun w hc => gauge_right_ok v.Depth 0 2000 hc rfl) fun a w hf hc => sp 1 hf rfl fun a hf => cNil ⟨hf.kp rfl,hc⟩
 intro a w ⟨hf,hc⟩
 refine sp 1 hf rfl fun a hf => stCc 4 (fun a => Has 23 a [(1,pq b_),(2,pq b_1),(3,.bool false),(4,pq b_1),(5,i6 v.At),(6,pq b_),(7,i6 x.Left),(8,i6 (W (x.Left + 1))),(9,.pointer (some ⟨b_,1,none⟩)),(10,i6 x.Right),(11,i6 (W (x.Right - 1))),(12,.bool (gauge_in v.At (W (x.Left + 1)) (W (x.Right - 1)))),(13,.bool (gauge_in v.At (W (x.Left + 1)) (W (x.Right - 1)))),(17,.bool ((gauge_in v.At (W (x.Left + 1)) (W (x.Right - 1))) && (gauge_right v.Depth 0 2000))),(18,.bool ((gauge_in v.At (W (x.Left + 1)) (W (x.Right - 1))) && (gauge_right v.Depth 0 2000))),(22,.bool (((gauge_in v.At (W (x.Left + 1)) (W (x.Right - 1))) && (gauge_right v.Depth 0 2000)) && (gauge_right v.Speed (-5000) 5000)))]) hc ?_ ?_
 ·cases hb : ((gauge_in v.At (W (x.Left + 1)) (W (x.Right - 1))) && (gauge_right v.Depth 0 2000))
  ·rw [hb] at hf
   refine stS hf rfl rfl rfl fun a hf => stS hf rfl rfl rfl fun a hf => stS hf rfl rfl rfl fun a hf => sp 1 hf rfl fun a hf => cNil ⟨hf.kp rfl,hc⟩
  ·rw [hb] at hf
   refine zP hf rfl (pFA fa_49_2 rfl) fun a hf => zN hf hc ag_43 m0 rfl fun a w hf hc => zQ (v := .bool (gauge_right v.Speed (-5000) 5000)) hf hc en_40 rfl (fun w hc => gauge_right_ok v.Speed (-5000) 5000 hc rfl) fun a w hf hc => sp 1 hf rfl fun a hf => cNil ⟨hf.kp rfl,hc⟩
 intro a w ⟨hf,hc⟩
 refine sp 1 hf rfl fun a hf => zT h ?_
 refine wp_ret ?_
 obtain rfl := hF
 replace hc := hc.drop k0
 exact zO1 Tryz.results39 hf rfl ⟨rfl,hc⟩

def gauge_every_gauge_Vertical_1 (x : gauge_Vertical) (x_1 : gauge_Gauging) : Bool :=
 (!(gauge_Check_1 (⟨x.At,x.Depth,x.Speed⟩ : gauge_Vertical) x_1))
theorem gauge_every_gauge_Vertical_1_ok {G : Pers} {Lf : List Ent} {w : World} (x : gauge_Vertical) (x_1 : gauge_Gauging) {b_ : Nat} {b__1 : Nat} {x_1_Verticals_p : Option Addr} {x_1_Verticals_c : Nat} (h_x_1_Verticals : Rd G 5 x_1_Verticals_p x_1_Verticals_c (x_1.Verticals.map enc_gauge_Vertical)) (hc : Ctx G (.box b_ [.func (.func 39) #[] #[pq b__1]] 108::.box b__1 [i6 x_1.Left,i6 x_1.Right,.slice x_1_Verticals_p x_1.Verticals.length x_1_Verticals_c] 41::Lf) w) {res : Bool} (hF : gauge_every_gauge_Vertical_1 x x_1 = res) : Calls Tryz.prog 67 #[.agg #[i6 x.At,i6 x.Depth.Lo,i6 x.Depth.Hi,i6 x.Speed.Lo,i6 x.Speed.Hi],pq b_] w (fun e w => e = .returned (.bool res) ∧ Ctx G (.box b_ [.func (.func 39) #[] #[pq b__1]] 108::.box b__1 [i6 x_1.Left,i6 x_1.Right,.slice x_1_Verticals_p x_1.Verticals.length x_1_Verticals_c] 41::Lf) w) := by
 unfold gauge_every_gauge_Vertical_1 at hF
 refine fnIn Tryz.func67 rfl Tryz.ntmps67 rfl fun a hf => zS fun K h => zB hf hc rfl fun b_1 a w hf hc => sp 1 hf rfl fun a hf => zT h ?_
 refine zS fun K h => zL hf hc sc_108 m1 rfl fun a w hf hc => zN hf hc ag_49 m0 rfl fun a w hf hc => zQ (v := .bool (gauge_Check_1 (⟨x.At,x.Depth,x.Speed⟩ : gauge_Vertical) x_1)) hf hc en_39 rfl (fun w hc => (gauge_Check_1_ok (⟨x.At,x.Depth,x.Speed⟩ : gauge_Vertical) x_1 h_x_1_Verticals (hc.pick k2) rfl).mono fun e w h => ⟨h.1,(h.2.unpick k2)⟩) fun a w hf hc => sp 2 hf rfl fun a hf => zT h ?_
 refine wp_ret ?_
 obtain rfl := hF
 replace hc := hc.drop k0
 exact zO1 Tryz.results67 hf rfl ⟨rfl,hc⟩

def slices_IndexFunc_Lgauge_Vertical_gauge_Vertical_b4 (N : Nat) (s_ : List gauge_Vertical) (f_ : gauge_Gauging) (x : Int) : Option (Step (Int) (Int)) :=
 cond (decide (x < ((s_.length : Nat) : Int)))
 (Option.bind (getI s_ x) fun e_1 =>
 cond (gauge_every_gauge_Vertical_1 e_1 f_)
 (some (.ret x))
 (some (.cont (W (x + 1)))))
 (some (.brk x))
def slices_IndexFunc_Lgauge_Vertical_gauge_Vertical (N : Nat) (s_ : List gauge_Vertical) (f_ : gauge_Gauging) : Option (Int) :=
 Option.bind (loopO (fun s4 => slices_IndexFunc_Lgauge_Vertical_gauge_Vertical_b4 N s_ f_ s4) N 0) fun x4 =>
 exK x4 (fun s4 => some (-1)) some
theorem slices_IndexFunc_Lgauge_Vertical_gauge_Vertical_ok {N : Nat} {G : Pers} {Lf : List Ent} {w : World} (s_ : List gauge_Vertical) (f_ : gauge_Gauging) {s__p : Option Addr} {s__c : Nat} {b_ : Nat} {b__1 : Nat} {f__Verticals_p : Option Addr} {f__Verticals_c : Nat} (h_s_ : Rd G 5 s__p s__c (s_.map enc_gauge_Vertical)) (h_f__Verticals : Rd G 5 f__Verticals_p f__Verticals_c (f_.Verticals.map enc_gauge_Vertical)) (hc : Ctx G (.box b_ [.func (.func 39) #[] #[pq b__1]] 108::.box b__1 [i6 f_.Left,i6 f_.Right,.slice f__Verticals_p f_.Verticals.length f__Verticals_c] 41::Lf) w) {res : Int} (hF : slices_IndexFunc_Lgauge_Vertical_gauge_Vertical N s_ f_ = some res) : Calls Tryz.prog 87 #[.slice s__p s_.length s__c,.func (.func 67) #[] #[pq b_]] w (fun e w => e = .returned (i6 res) ∧ Ctx G (.box b_ [.func (.func 39) #[] #[pq b__1]] 108::.box b__1 [i6 f_.Left,i6 f_.Right,.slice f__Verticals_p f_.Verticals.length f__Verticals_c] 41::Lf) w) := by
 unfold slices_IndexFunc_Lgauge_Vertical_gauge_Vertical at hF
 refine fnIn Tryz.func87 rfl Tryz.ntmps87 rfl fun a hf => zS fun K h => sp 1 hf rfl fun a hf => zT h ?_
 refine wp_seq_k fun K2 h2 => zS fun K h => sp 1 hf rfl fun a hf => zP hf rfl (pLenS Tryz.underlying39 rfl) fun a hf => sp 1 hf rfl fun a hf => zT h ?_
 refine wp_block ?_
 obtain ⟨x4,hx4,hF⟩ := bnd_some hF
 let S4 : Int → Act → World → Prop := (fun (zz : Int) a w => Has 19 a [(0,.slice s__p s_.length s__c),(1,.func (.func 67) #[] #[pq b_]),(7,i6 ((s_.length : Nat) : Int)),(8,i6 zz)] ∧ Ctx G (.box b_ [.func (.func 39) #[] #[pq b__1]] 108::.box b__1 [i6 f_.Left,i6 f_.Right,.slice f__Verticals_p f_.Verticals.length f__Verticals_c] 41::Lf) w)
 have hr4 : ∀ (zz : Int) a w,x4 = .go zz → S4 zz a w → K2 a w := by
  rintro x a w rfl ⟨hf,hc⟩
  replace hF := exK_go hF
  refine h2 _ _ ?_
  refine zS fun K h => sp 1 hf rfl fun a hf => zT h ?_
  refine wp_ret ?_
  obtain rfl := sj hF
  exact zO1 Tryz.results87 hf rfl ⟨rfl,hc⟩
 have ho4 : ∀ r,x4 = .out r → r = res := by
  rintro r rfl
  exact sj hF
 refine cLoop N (loopW (S := S4) (x := x4) ?_ N 0 _ _ ⟨hf.kp rfl,hc⟩ hx4)
 clear hF hf hc
 rintro x st4 a w KB4 ⟨hf,hc⟩ hF hfin4 hK4
 unfold slices_IndexFunc_Lgauge_Vertical_gauge_Vertical_b4 at hF
 refine zS fun K h => sp 1 hf rfl fun a hf => zT h ?_
 refine wp_seq_k fun K7 h7 => zI hf rfl hF ?_ ?_ <;> clear hF <;> intro hF
 ·refine wp_skip ?_
  refine h7 _ _ ?_
  refine wp_seq_k fun K8 h8 => wp_block ?_
  refine zS fun K h => sp 2 hf rfl fun a hf => zT h ?_
  refine zS fun K h => sp 3 hf rfl fun a hf => ?_
  obtain ⟨e_1,he_1,hF⟩ := bnd_some hF
  obtain ⟨b_1,o,qa,qp⟩ := h_s_.atm he_1
  refine zP hf rfl (pIA Tryz.underlying39 sz_49 rfl rfl qa) fun a hf => zE hf hc rfl (eLdN (vs := [i6 e_1.At,i6 e_1.Depth.Lo,i6 e_1.Depth.Hi,i6 e_1.Speed.Lo,i6 e_1.Speed.Hi]) ag_49 rfl rfl (cells_pc qp (n := 5) (o' := 0) rfl)) fun a w hf hc => zQ (v := .bool (gauge_every_gauge_Vertical_1 e_1 f_)) hf hc en_67 rfl (fun w hc => (gauge_every_gauge_Vertical_1_ok e_1 f_ h_f__Verticals ((hc.pick k1).pick k1) rfl).mono fun e w h => ⟨h.1,((h.2.unpick k1).unpick k1)⟩) fun a w hf hc => zT h ?_
  refine zI hf rfl hF ?_ ?_ <;> clear hF <;> intro hF
  ·refine zS fun K h => sp 2 hf rfl fun a hf => zT h ?_
   refine wp_ret ?_
   refine xBlkR ?_
   refine xThenR ?_
   refine xThenR ?_
   have he := sj hF
   rw [← he] at hfin4
   replace hF := ho4 _ hfin4
   refine xBlkR ?_
   refine xThenR ?_
   obtain rfl := hF
   exact zO1 Tryz.results87 hf rfl ⟨rfl,hc⟩
  ·refine wp_skip ?_
   refine h8 _ _ ?_
   refine cReg ?_
   refine sp 2 hf rfl fun a hf => cNil ?_
   exact hK4 (W (x + 1)) _ _ (sj hF).symm ⟨hf.kp rfl,hc⟩
 ·refine wp_exit ?_
  refine xThen ?_
  refine xThen ?_
  have he := sj hF
  rw [← he] at hfin4
  refine cHit ?_
  exact hr4 _ _ _ hfin4 ⟨hf.kp rfl,hc⟩

def slices_ContainsFunc_Lgauge_Vertical_gauge_Vertical (N : Nat) (s_ : List gauge_Vertical) (f_ : gauge_Gauging) : Option (Bool) :=
 Option.bind (slices_IndexFunc_Lgauge_Vertical_gauge_Vertical N s_ f_) fun r =>
 some (decide (0 ≤ r))
theorem slices_ContainsFunc_Lgauge_Vertical_gauge_Vertical_ok {N : Nat} {G : Pers} {Lf : List Ent} {w : World} (s_ : List gauge_Vertical) (f_ : gauge_Gauging) {s__p : Option Addr} {s__c : Nat} {b_ : Nat} {b__1 : Nat} {f__Verticals_p : Option Addr} {f__Verticals_c : Nat} (h_s_ : Rd G 5 s__p s__c (s_.map enc_gauge_Vertical)) (h_f__Verticals : Rd G 5 f__Verticals_p f__Verticals_c (f_.Verticals.map enc_gauge_Vertical)) (hc : Ctx G (.box b_ [.func (.func 39) #[] #[pq b__1]] 108::.box b__1 [i6 f_.Left,i6 f_.Right,.slice f__Verticals_p f_.Verticals.length f__Verticals_c] 41::Lf) w) {res : Bool} (hF : slices_ContainsFunc_Lgauge_Vertical_gauge_Vertical N s_ f_ = some res) : Calls Tryz.prog 66 #[.slice s__p s_.length s__c,.func (.func 67) #[] #[pq b_]] w (fun e w => e = .returned (.bool res) ∧ Ctx G (.box b_ [.func (.func 39) #[] #[pq b__1]] 108::.box b__1 [i6 f_.Left,i6 f_.Right,.slice f__Verticals_p f_.Verticals.length f__Verticals_c] 41::Lf) w) := by
 unfold slices_ContainsFunc_Lgauge_Vertical_gauge_Vertical at hF
 refine fnIn Tryz.func66 rfl Tryz.ntmps66 rfl fun a hf => zS fun K h => sp 1 hf rfl fun a hf => zT h ?_
 refine zS fun K h => sp 2 hf rfl fun a hf => ?_
 obtain ⟨r,hr,hF⟩ := bnd_some hF
 refine zQ (v := i6 r) hf hc en_87 rfl (fun w hc => (slices_IndexFunc_Lgauge_Vertical_gauge_Vertical_ok s_ f_ h_s_ h_f__Verticals ((hc.pick k1).pick k1) hr).mono fun e w h => ⟨h.1,((h.2.unpick k1).unpick k1)⟩) fun a w hf hc => sp 2 hf rfl fun a hf => zT h ?_
 refine wp_ret ?_
 obtain rfl := sj hF
 exact zO1 Tryz.results66 hf rfl ⟨rfl,hc⟩

def gauge_every_gauge_Vertical (N : Nat) (l : List gauge_Vertical) (so : gauge_Gauging) : Option (Bool) :=
 Option.bind (slices_ContainsFunc_Lgauge_Vertical_gauge_Vertical N l so) fun r =>
 some (!r)
theorem gauge_every_gauge_Vertical_ok {N : Nat} {G : Pers} {Lf : List Ent} {w : World} (l : List gauge_Vertical) (so : gauge_Gauging) {l_p : Option Addr} {l_c : Nat} {b_ : Nat} {so_Verticals_p : Option Addr} {so_Verticals_c : Nat} (h_l : Rd G 5 l_p l_c (l.map enc_gauge_Vertical)) (h_so_Verticals : Rd G 5 so_Verticals_p so_Verticals_c (so.Verticals.map enc_gauge_Vertical)) (hc : Ctx G (.box b_ [i6 so.Left,i6 so.Right,.slice so_Verticals_p so.Verticals.length so_Verticals_c] 41::Lf) w) {res : Bool} (hF : gauge_every_gauge_Vertical N l so = some res) : Calls Tryz.prog 38 #[.slice l_p l.length l_c,.func (.func 39) #[] #[pq b_]] w (fun e w => e = .returned (.bool res) ∧ Ctx G (.box b_ [i6 so.Left,i6 so.Right,.slice so_Verticals_p so.Verticals.length so_Verticals_c] 41::Lf) w) := by
 unfold gauge_every_gauge_Vertical at hF
 refine fnIn Tryz.func38 rfl Tryz.ntmps38 rfl fun a hf => zS fun K h => zB hf hc rfl fun b_1 a w hf hc => sp 1 hf rfl fun a hf => zT h ?_
 refine zS fun K h => sp 1 hf rfl fun a hf => zP hf rfl (pMF (us := [pq b_1]) rfl rfl) fun a hf => ?_
 obtain ⟨r,hr,hF⟩ := bnd_some hF
 refine zQ (v := .bool r) hf hc en_66 rfl (fun w hc => (slices_ContainsFunc_Lgauge_Vertical_gauge_Vertical_ok l so h_l h_so_Verticals ((hc.pick k1).pick k1) hr).mono fun e w h => ⟨h.1,((h.2.unpick k1).unpick k1)⟩) fun a w hf hc => sp 2 hf rfl fun a hf => zT h ?_
 refine wp_ret ?_
 obtain rfl := sj hF
 replace hc := hc.drop k0
 exact zO1 Tryz.results38 hf rfl ⟨rfl,hc⟩

def gauge_Check_2 (N : Nat) (i_ : Int) (x : gauge_Gauging) : Option (Int) :=
 Option.bind (getI x.Verticals i_) fun e_1 =>
 some e_1.At
theorem gauge_Check_2_ok {N : Nat} {G : Pers} {Lf : List Ent} {w : World} (i_ : Int) (x : gauge_Gauging) {b_ : Nat} {x_Verticals_p : Option Addr} {x_Verticals_c : Nat} (h_x_Verticals : Rd G 5 x_Verticals_p x_Verticals_c (x.Verticals.map enc_gauge_Vertical)) (hc : Ctx G (.box b_ [i6 x.Left,i6 x.Right,.slice x_Verticals_p x.Verticals.length x_Verticals_c] 41::Lf) w) {res : Int} (hF : gauge_Check_2 N i_ x = some res) : Calls Tryz.prog 42 #[i6 i_,pq b_] w (fun e w => e = .returned (i6 res) ∧ Ctx G (.box b_ [i6 x.Left,i6 x.Right,.slice x_Verticals_p x.Verticals.length x_Verticals_c] 41::Lf) w) := by
 unfold gauge_Check_2 at hF
 refine fnIn Tryz.func42 rfl Tryz.ntmps42 rfl fun a hf => zS fun K h => sp 1 hf rfl fun a hf => zT h ?_
 refine zS fun K h => zP hf rfl (pFA fa_41_2 rfl) fun a hf => zL hf hc sc_39 m0 rfl fun a w hf hc => sp 1 hf rfl fun a hf => ?_
 obtain ⟨e_1,he_1,hF⟩ := bnd_some hF
 obtain ⟨b_1,o,qa,qp⟩ := h_x_Verticals.atm he_1
 refine zP hf rfl (pIA Tryz.underlying39 sz_49 rfl rfl qa) fun a hf => zP hf rfl (pFA fa_49_0 rfl) fun a hf => zE hf hc rfl (eLd1 sc_3 rfl (cell_pc (j := 0) qp rfl)) fun a w hf hc => sp 1 hf rfl fun a hf => zT h ?_
 refine wp_ret ?_
 obtain rfl := sj hF
 exact zO1 Tryz.results42 hf rfl ⟨rfl,hc⟩

def gauge_rising_b4 (N : Nat) (many : Int) (at_ : gauge_Gauging) (i_1 : Int) : Option (Step (Int) (Bool)) :=
 cond (decide (i_1 < many))
 (Option.bind (gauge_Check_2 N i_1 at_) fun r =>
 Option.bind (gauge_Check_2 N (W (i_1 - 1)) at_) fun r_1 =>
 cond (decide (r ≤ r_1))
 (some (.ret false))
 (some (.cont (W (i_1 + 1)))))
 (some (.brk i_1))
def gauge_rising (N : Nat) (many : Int) (at_ : gauge_Gauging) : Option (Bool) :=
 Option.bind (loopO (fun s4 => gauge_rising_b4 N many at_ s4) N 1) fun x4 =>
 exK x4 (fun s4 => some true) some
theorem gauge_rising_ok {N : Nat} {G : Pers} {Lf : List Ent} {w : World} (many : Int) (at_ : gauge_Gauging) {b_ : Nat} {at__Verticals_p : Option Addr} {at__Verticals_c : Nat} (h_at__Verticals : Rd G 5 at__Verticals_p at__Verticals_c (at_.Verticals.map enc_gauge_Vertical)) (hc : Ctx G (.box b_ [i6 at_.Left,i6 at_.Right,.slice at__Verticals_p at_.Verticals.length at__Verticals_c] 41::Lf) w) {res : Bool} (hF : gauge_rising N many at_ = some res) : Calls Tryz.prog 41 #[i6 many,.func (.func 42) #[] #[pq b_]] w (fun e w => e = .returned (.bool res) ∧ Ctx G (.box b_ [i6 at_.Left,i6 at_.Right,.slice at__Verticals_p at_.Verticals.length at__Verticals_c] 41::Lf) w) := by
 unfold gauge_rising at hF
 refine fnIn Tryz.func41 rfl Tryz.ntmps41 rfl fun a hf => zS fun K h => sp 1 hf rfl fun a hf => zT h ?_
 refine wp_seq_k fun K2 h2 => zS fun K h => sp 1 hf rfl fun a hf => zT h ?_
 refine wp_block ?_
 obtain ⟨x4,hx4,hF⟩ := bnd_some hF
 let S4 : Int → Act → World → Prop := (fun (zz : Int) a w => Has 19 a [(0,i6 many),(1,.func (.func 42) #[] #[pq b_]),(5,i6 zz)] ∧ Ctx G (.box b_ [i6 at_.Left,i6 at_.Right,.slice at__Verticals_p at_.Verticals.length at__Verticals_c] 41::Lf) w)
 have hr4 : ∀ (zz : Int) a w,x4 = .go zz → S4 zz a w → K2 a w := by
  rintro i_1 a w rfl ⟨hf,hc⟩
  replace hF := exK_go hF
  refine h2 _ _ ?_
  refine zS fun K h => sp 1 hf rfl fun a hf => zT h ?_
  refine wp_ret ?_
  obtain rfl := sj hF
  exact zO1 Tryz.results41 hf rfl ⟨rfl,hc⟩
 have ho4 : ∀ r,x4 = .out r → r = res := by
  rintro r rfl
  exact sj hF
 refine cLoop N (loopW (S := S4) (x := x4) ?_ N 1 _ _ ⟨hf.kp rfl,hc⟩ hx4)
 clear hF hf hc
 rintro i_1 st4 a w KB4 ⟨hf,hc⟩ hF hfin4 hK4
 unfold gauge_rising_b4 at hF
 refine wp_seq_k fun K6 h6 => zS fun K h => sp 3 hf rfl fun a hf => zT h ?_
 refine zI hf rfl hF ?_ ?_ <;> clear hF <;> intro hF
 ·refine wp_skip ?_
  refine h6 _ _ ?_
  refine wp_seq_k fun K8 h8 => wp_block ?_
  refine zS fun K h => sp 2 hf rfl fun a hf => ?_
  obtain ⟨r,hr,hF⟩ := bnd_some hF
  refine zQ (v := i6 r) hf hc en_42 rfl (fun w hc => (gauge_Check_2_ok i_1 at_ h_at__Verticals (hc.pick k0) hr).mono fun e w h => ⟨h.1,(h.2.unpick k0)⟩) fun a w hf hc => sp 3 hf rfl fun a hf => ?_
  obtain ⟨r_1,hr_1,hF⟩ := bnd_some hF
  refine zQ (v := i6 r_1) hf hc en_42 rfl (fun w hc => (gauge_Check_2_ok (W (i_1 - 1)) at_ h_at__Verticals (hc.pick k0) hr_1).mono fun e w h => ⟨h.1,(h.2.unpick k0)⟩) fun a w hf hc => sp 1 hf rfl fun a hf => zT h ?_
  refine zI hf rfl hF ?_ ?_ <;> clear hF <;> intro hF
  ·refine zS fun K h => sp 1 hf rfl fun a hf => zT h ?_
   refine wp_ret ?_
   refine xBlkR ?_
   refine xThenR ?_
   refine xThenR ?_
   have he := sj hF
   rw [← he] at hfin4
   replace hF := ho4 _ hfin4
   refine xBlkR ?_
   refine xThenR ?_
   obtain rfl := hF
   exact zO1 Tryz.results41 hf rfl ⟨rfl,hc⟩
  ·refine wp_skip ?_
   refine h8 _ _ ?_
   refine cReg ?_
   refine sp 3 hf rfl fun a hf => cNil ?_
   exact hK4 (W (i_1 + 1)) _ _ (sj hF).symm ⟨hf.kp rfl,hc⟩
 ·refine wp_exit ?_
  refine xThen ?_
  refine xThen ?_
  have he := sj hF
  rw [← he] at hfin4
  refine cHit ?_
  exact hr4 _ _ _ hfin4 ⟨hf.kp rfl,hc⟩

def gauge_Check (N : Nat) (g : gauge_Gauging) : Option (Int) :=
 cond (!(gauge_in ((g.Verticals.length : Nat) : Int) 1 30))
 (some 3)
 (Option.bind (cond (!(gauge_shore g.Left g.Right)) (some true) (Option.bind (gauge_every_gauge_Vertical N g.Verticals g) fun r =>
 some (!r))) fun t_1 =>
 cond t_1
 (some 40)
 (Option.bind (gauge_rising N ((g.Verticals.length : Nat) : Int) g) fun r_1 =>
 cond (!r_1)
 (some 9)
 (some 0)))
theorem gauge_Check_ok {N : Nat} {G : Pers} {Lf : List Ent} {w : World} (g : gauge_Gauging) {g_Verticals_p : Option Addr} {g_Verticals_c : Nat} (h_g_Verticals : Rd G 5 g_Verticals_p g_Verticals_c (g.Verticals.map enc_gauge_Vertical)) (hc : Ctx G (Lf) w) {res : Int} (hF : gauge_Check N g = some res) : Calls Tryz.prog 19 #[.agg #[i6 g.Left,i6 g.Right,.slice g_Verticals_p g.Verticals.length g_Verticals_c]] w (fun e w => e = .returned (i6 res) ∧ Ctx G (Lf) w) := by
 unfold gauge_Check at hF
 refine fnIn Tryz.func19 rfl Tryz.ntmps19 rfl fun a hf => zS fun K h => zB hf hc rfl fun b_1 a w hf hc => sp 1 hf rfl fun a hf => zT h ?_
 refine wp_seq_k fun K2 h2 => wp_block ?_
 refine zS fun K h => zP hf rfl (pFA fa_41_2 rfl) fun a hf => zL hf hc sc_39 m0 rfl fun a w hf hc => zP hf rfl (pLenS Tryz.underlying39 rfl) fun a hf => zQ (v := .bool (gauge_in ((g.Verticals.length : Nat) : Int) 1 30)) hf hc en_21 rfl (fun w hc => gauge_in_ok ((g.Verticals.length : Nat) : Int) 1 30 hc rfl) fun a w hf hc => sp 2 hf rfl fun a hf => zT h ?_
 refine zI hf rfl hF ?_ ?_ <;> clear hF <;> intro hF
 ·refine zS fun K h => sp 1 hf rfl fun a hf => zT h ?_
  refine wp_ret ?_
  refine xBlkR ?_
  refine xThenR ?_
  obtain rfl := sj hF
  replace hc := hc.drop k0
  exact zO1 Tryz.results19 hf rfl ⟨rfl,hc⟩
 ·refine zS fun K h => zP hf rfl (pFA fa_41_0 rfl) fun a hf => zL hf hc sc_3 m0 rfl fun a w hf hc => zP hf rfl (pFA fa_41_1 rfl) fun a hf => zL hf hc sc_3 m0 rfl fun a w hf hc => zQ (v := .bool (gauge_shore g.Left g.Right)) hf hc en_37 rfl (fun w hc => gauge_shore_ok g.Left g.Right hc rfl) fun a w hf hc => sp 2 hf rfl fun a hf => ?_
  obtain ⟨t_1,ht_1,hF⟩ := bnd_some hF
  refine stCc 6 (fun a => Has 30 a [(1,pq b_1),(10,pq b_1),(11,i6 g.Left),(12,.pointer (some ⟨b_1,1,none⟩)),(13,i6 g.Right),(14,.bool (gauge_shore g.Left g.Right)),(15,.bool (!(gauge_shore g.Left g.Right))),(16,.bool (!(gauge_shore g.Left g.Right))),(22,.bool t_1)]) hc ?_ ?_
  ·cases hb : (!(gauge_shore g.Left g.Right))
   ·rw [hb] at hf
    have hF := condF hb ht_1
    refine zP hf rfl (pFA fa_41_2 rfl) fun a hf => zL hf hc sc_39 m0 rfl fun a w hf hc => zP hf rfl (pMF (us := [pq b_1]) rfl rfl) fun a hf => ?_
    obtain ⟨r,hr,hF⟩ := bnd_some hF
    refine zQ (v := .bool r) hf hc en_38 rfl (fun w hc => (gauge_every_gauge_Vertical_ok g.Verticals g h_g_Verticals h_g_Verticals (hc.pick k0) hr).mono fun e w h => ⟨h.1,(h.2.unpick k0)⟩) fun a w hf hc => sp 2 hf rfl fun a hf => ?_
    obtain rfl := sj hF
    exact cNil ⟨hf.kp rfl,hc⟩
   ·rw [hb] at hf
    have hF := condT hb ht_1
    obtain rfl := sj hF
    refine stS hf rfl rfl rfl fun a hf => stS hf rfl rfl rfl fun a hf => stS hf rfl rfl rfl fun a hf => stS hf rfl rfl rfl fun a hf => stS hf rfl rfl rfl fun a hf => sp 1 hf rfl fun a hf => cNil ⟨hf.kp rfl,hc⟩
  intro a w ⟨hf,hc⟩
  refine sp 1 hf rfl fun a hf => zT h ?_
  refine zI hf rfl hF ?_ ?_ <;> clear hF <;> intro hF
  ·refine zS fun K h => sp 1 hf rfl fun a hf => zT h ?_
   refine wp_ret ?_
   refine xBlkR ?_
   refine xThenR ?_
   obtain rfl := sj hF
   replace hc := hc.drop k0
   exact zO1 Tryz.results19 hf rfl ⟨rfl,hc⟩
  ·refine zS fun K h => zP hf rfl (pFA fa_41_2 rfl) fun a hf => zL hf hc sc_39 m0 rfl fun a w hf hc => zP hf rfl (pLenS Tryz.underlying39 rfl) fun a hf => zP hf rfl (pMF (us := [pq b_1]) rfl rfl) fun a hf => ?_
   obtain ⟨r_1,hr_1,hF⟩ := bnd_some hF
   refine zQ (v := .bool r_1) hf hc en_41 rfl (fun w hc => (gauge_rising_ok ((g.Verticals.length : Nat) : Int) g h_g_Verticals (hc.pick k0) hr_1).mono fun e w h => ⟨h.1,(h.2.unpick k0)⟩) fun a w hf hc => sp 2 hf rfl fun a hf => zT h ?_
   refine zI hf rfl hF ?_ ?_ <;> clear hF <;> intro hF
   ·refine zS fun K h => sp 1 hf rfl fun a hf => zT h ?_
    refine wp_ret ?_
    refine xBlkR ?_
    refine xThenR ?_
    obtain rfl := sj hF
    replace hc := hc.drop k0
    exact zO1 Tryz.results19 hf rfl ⟨rfl,hc⟩
   ·refine wp_skip ?_
    refine h2 _ _ ?_
    refine zS fun K h => sp 1 hf rfl fun a hf => zT h ?_
    refine wp_ret ?_
    obtain rfl := sj hF
    replace hc := hc.drop k0
    exact zO1 Tryz.results19 hf rfl ⟨rfl,hc⟩

def gauge_Gauging_widths (N : Nat) (g : gauge_Gauging) : Option (Int × Int) :=
 some (g.Left,g.Right)
theorem gauge_Gauging_widths_ok {N : Nat} {G : Pers} {Lf : List Ent} {w : World} (g : gauge_Gauging) {g_Verticals_p : Option Addr} {g_Verticals_c : Nat} (h_g_Verticals : Rd G 5 g_Verticals_p g_Verticals_c (g.Verticals.map enc_gauge_Vertical)) (hc : Ctx G (Lf) w) {res : Int × Int} (hF : gauge_Gauging_widths N g = some res) : Calls Tryz.prog 20 #[.agg #[i6 g.Left,i6 g.Right,.slice g_Verticals_p g.Verticals.length g_Verticals_c]] w (fun e w => ∃ (b'1 : Nat),e = .returned (.func (.func 43) #[] #[pq b'1]) ∧ Ctx G (.box b'1 [i6 res.1,i6 res.2,.slice g_Verticals_p g.Verticals.length g_Verticals_c] 41::Lf) w) := by
 unfold gauge_Gauging_widths at hF
 refine fnIn Tryz.func20 rfl Tryz.ntmps20 rfl fun a hf => zS fun K h => zB hf hc rfl fun b_1 a w hf hc => sp 1 hf rfl fun a hf => zT h ?_
 refine zS fun K h => zP hf rfl (pMF (us := [pq b_1]) rfl rfl) fun a hf => sp 1 hf rfl fun a hf => zT h ?_
 refine wp_ret ?_
 obtain rfl := sj hF
 exact zO1 Tryz.results20 hf rfl ⟨b_1,rfl,hc⟩

def gauge_Gauging_widths_1_j10 (N : Nat) {σ : Type} (y : σ → (gauge_Vertical × Int) → Option (σ × Bool)) (x_0 : Int) (sg : σ) (e_1 : gauge_Vertical) (from_ : Int) (to_ : Int) : Option (Step (Int × σ) (σ)) :=
 Option.bind (y sg (e_1,W (to_ - from_))) fun ry =>
 cond (!ry.2)
 (some (.ret ry.1))
 (some (.cont (W (x_0 + 1),ry.1)))
def gauge_Gauging_widths_1_j9 (N : Nat) {σ : Type} (x : gauge_Gauging) (y : σ → (gauge_Vertical × Int) → Option (σ × Bool)) (x_0 : Int) (sg : σ) (e_1 : gauge_Vertical) (from_ : Int) : Option (Step (Int × σ) (σ)) :=
 cond (decide ((W (x_0 + 1)) < ((x.Verticals.length : Nat) : Int)))
 (Option.bind (getI x.Verticals (W (x_0 + 1))) fun e_2 =>
 gauge_Gauging_widths_1_j10 N y x_0 sg e_1 from_ e_2.At)
 (gauge_Gauging_widths_1_j10 N y x_0 sg e_1 from_ x.Right)
def gauge_Gauging_widths_1_b3 (N : Nat) {σ : Type} (x : gauge_Gauging) (y : σ → (gauge_Vertical × Int) → Option (σ × Bool)) (x_0 : Int) (sg : σ) : Option (Step (Int × σ) (σ)) :=
 cond (decide (x_0 < ((x.Verticals.length : Nat) : Int)))
 (Option.bind (getI x.Verticals x_0) fun e_1 =>
 cond (decide (0 < x_0))
 (Option.bind (getI x.Verticals (W (x_0 - 1))) fun e_3 =>
 gauge_Gauging_widths_1_j9 N x y x_0 sg e_1 e_3.At)
 (gauge_Gauging_widths_1_j9 N x y x_0 sg e_1 x.Left))
 (some (.brk (x_0,sg)))
def gauge_Gauging_widths_1 (N : Nat) {σ : Type} (x : gauge_Gauging) (y : σ → (gauge_Vertical × Int) → Option (σ × Bool)) (sg0 : σ) : Option (σ) :=
 Option.bind (loopO (fun s3 => gauge_Gauging_widths_1_b3 N x y s3.1 s3.2) N (0,sg0)) fun x3 =>
 exK x3 (fun s3 => some s3.2) some
theorem gauge_Gauging_widths_1_ok {N : Nat} {G : Pers} {Lf : List Ent} {w : World} {σ : Type} (x : gauge_Gauging) {b_ : Nat} {x_Verticals_p : Option Addr} {x_Verticals_c : Nat} (h_x_Verticals : Rd G 5 x_Verticals_p x_Verticals_c (x.Verticals.map enc_gauge_Vertical)) (J : σ → List Ent → Prop) (y : σ → (gauge_Vertical × Int) → Option (σ × Bool)) {l : Nat} (hy : YieldsTo Tryz.prog G l (fun x : (gauge_Vertical × Int) => [.agg #[i6 x.1.At,i6 x.1.Depth.Lo,i6 x.1.Depth.Hi,i6 x.1.Speed.Lo,i6 x.1.Speed.Hi],i6 x.2]) J y) (sg0 : σ) {Ls0 : List Ent} (hJ0 : J sg0 Ls0) (hc : Ctx G (.box b_ [i6 x.Left,i6 x.Right,.slice x_Verticals_p x.Verticals.length x_Verticals_c] 41::(Ls0 ++ Lf)) w) {res : σ} (hF : gauge_Gauging_widths_1 N x y sg0 = some res) : Calls Tryz.prog 43 #[.func (.yield l) #[] #[],pq b_] w (fun e w => (∃ v,e = .returned v) ∧ ∃ L,J res L ∧ Ctx G (.box b_ [i6 x.Left,i6 x.Right,.slice x_Verticals_p x.Verticals.length x_Verticals_c] 41::(L ++ Lf)) w) := by
 unfold gauge_Gauging_widths_1 at hF
 refine fnIn Tryz.func43 rfl Tryz.ntmps43 rfl fun a hf => zS fun K h => zP hf rfl (pFA fa_41_2 rfl) fun a hf => zL hf hc sc_39 m0 rfl fun a w hf hc => zP hf rfl (pLenS Tryz.underlying39 rfl) fun a hf => sp 1 hf rfl fun a hf => zT h ?_
 refine wp_thenK fun K2 h2 => wp_block ?_
 obtain ⟨x3,hx3,hF⟩ := bnd_some hF
 let S3 : (Int × σ) → Act → World → Prop := (fun (zz : Int × σ) a w => ∃ (Ls : List Ent),J zz.2 Ls ∧ Has 49 a [(0,.func (.yield l) #[] #[]),(1,pq b_),(8,.slice x_Verticals_p x.Verticals.length x_Verticals_c),(9,i6 ((x.Verticals.length : Nat) : Int)),(10,i6 zz.1)] ∧ Ctx G (.box b_ [i6 x.Left,i6 x.Right,.slice x_Verticals_p x.Verticals.length x_Verticals_c] 41::(Ls ++ Lf)) w)
 have hr3 : ∀ (zz : Int × σ) a w,x3 = .go zz → S3 zz a w → K2 a w := by
  rintro ⟨x_0,sg⟩ a w rfl ⟨Ls,hJ,hf,hc⟩
  replace hF := exK_go hF
  refine h2 _ _ ?_
  obtain rfl := sj hF
  exact fnOut0 (by simp) rfl Tryz.results43 hf ⟨⟨_,rfl⟩,Ls,hJ,hc⟩
 have ho3 : ∀ r,x3 = .out r → r = res := by
  rintro r rfl
  exact sj hF
 refine cLoop N (loopW (S := S3) (x := x3) ?_ N (0,sg0) _ _ ⟨Ls0,hJ0,hf.kp rfl,hc⟩ hx3)
 clear hF hf hc
 rintro ⟨x_0,sg⟩ st3 a w KB3 ⟨Ls,hJ,hf,hc⟩ hF hfin3 hK3
 unfold gauge_Gauging_widths_1_b3 at hF
 refine zS fun K h => sp 1 hf rfl fun a hf => zT h ?_
 refine wp_seq_k fun K5 h5 => zI hf rfl hF ?_ ?_ <;> clear hF <;> intro hF
 ·refine wp_skip ?_
  refine h5 _ _ ?_
  refine wp_seq_k fun K6 h6 => wp_block ?_
  refine zS fun K h => sp 1 hf rfl fun a hf => ?_
  obtain ⟨e_1,he_1,hF⟩ := bnd_some hF
  obtain ⟨b_1,o,qa,qp⟩ := h_x_Verticals.atm he_1
  refine zP hf rfl (pIA Tryz.underlying39 sz_49 rfl rfl qa) fun a hf => zE hf hc rfl (eLdN (vs := [i6 e_1.At,i6 e_1.Depth.Lo,i6 e_1.Depth.Hi,i6 e_1.Speed.Lo,i6 e_1.Speed.Hi]) ag_49 rfl rfl (cells_pc qp (n := 5) (o' := 0) rfl)) fun a w hf hc => zA hf hc zr_49 rfl fun b_2 a w hf hc => sp 1 hf rfl fun a hf => zW hf hc sz_49 u0 rfl fun w hc => zT h ?_
  refine wp_seq_k fun K8 h8 => cQ hc follows_mx (by kernel_rfl) ?_
  refine qE hf rfl rfl rfl (Pu.ev (pFA fa_41_0 rfl)) fun a hf => qE hf rfl rfl rfl (eLd1 sc_3 rfl (cell_box m1 rfl)) fun a hf => qE hf rfl rfl rfl (Pu.ev (pFA fa_41_1 rfl)) fun a hf => qE hf rfl rfl rfl (eLd1 sc_3 rfl (cell_box m1 rfl)) fun a hf => qE hf rfl rfl rfl (Pu.ev (pA rfl)) fun a hf => qE hf rfl rfl rfl (Pu.ev (pA rfl)) fun a hf => ?_
  intro w hc
  refine h8 _ _ ?_
  refine wp_seq_k fun K9 h9 => ?_
  have hj9 : ∀ (from_ : Int) a w,Has 49 a [(0,.func (.yield l) #[] #[]),(1,pq b_),(3,i6 x_0),(4,pq b_2),(5,i6 from_),(6,i6 x.Right),(8,.slice x_Verticals_p x.Verticals.length x_Verticals_c),(9,i6 ((x.Verticals.length : Nat) : Int)),(10,i6 x_0)] → Ctx G (.box b_2 [i6 e_1.At,i6 e_1.Depth.Lo,i6 e_1.Depth.Hi,i6 e_1.Speed.Lo,i6 e_1.Speed.Hi] 49::.box b_ [i6 x.Left,i6 x.Right,.slice x_Verticals_p x.Verticals.length x_Verticals_c] 41::(Ls ++ Lf)) w → gauge_Gauging_widths_1_j9 N x y x_0 sg e_1 from_ = some st3 → K9 a w := by
   repeat (clear hF)
   repeat (clear hc)
   repeat (clear hf)
   intro from_ a w hf hc hF
   unfold gauge_Gauging_widths_1_j9 at hF
   refine h9 _ _ ?_
   refine wp_seq_k fun K10 h10 => ?_
   have hj10 : ∀ (to_ : Int) a w,Has 49 a [(0,.func (.yield l) #[] #[]),(1,pq b_),(4,pq b_2),(5,i6 from_),(6,i6 to_),(8,.slice x_Verticals_p x.Verticals.length x_Verticals_c),(9,i6 ((x.Verticals.length : Nat) : Int)),(10,i6 x_0)] → Ctx G (.box b_2 [i6 e_1.At,i6 e_1.Depth.Lo,i6 e_1.Depth.Hi,i6 e_1.Speed.Lo,i6 e_1.Speed.Hi] 49::.box b_ [i6 x.Left,i6 x.Right,.slice x_Verticals_p x.Verticals.length x_Verticals_c] 41::(Ls ++ Lf)) w → gauge_Gauging_widths_1_j10 N y x_0 sg e_1 from_ to_ = some st3 → K10 a w := by
    repeat (clear hF)
    repeat (clear hc)
    repeat (clear hf)
    intro to_ a w hf hc hF
    unfold gauge_Gauging_widths_1_j10 at hF
    refine h10 _ _ ?_
    refine wp_seq_k fun K11 h11 => ?_
    obtain ⟨ry,hry,hF⟩ := bnd_some hF
    refine yReg 5 (fun a w => Has 49 a [(0,.func (.yield l) #[] #[]),(1,pq b_),(4,pq b_2),(5,i6 from_),(6,i6 to_),(8,.slice x_Verticals_p x.Verticals.length x_Verticals_c),(9,i6 ((x.Verticals.length : Nat) : Int)),(10,i6 x_0),(41,.func (.yield l) #[] #[]),(42,.agg #[i6 e_1.At,i6 e_1.Depth.Lo,i6 e_1.Depth.Hi,i6 e_1.Speed.Lo,i6 e_1.Speed.Hi]),(43,i6 to_),(44,i6 from_),(45,i6 (W (to_ - from_)))] ∧ Ctx G (.box b_2 [i6 e_1.At,i6 e_1.Depth.Lo,i6 e_1.Depth.Hi,i6 e_1.Speed.Lo,i6 e_1.Speed.Hi] 49::.box b_ [i6 x.Left,i6 x.Right,.slice x_Verticals_p x.Verticals.length x_Verticals_c] 41::(Ls ++ Lf)) w) (fun _ _ h => by obtain ⟨⟨_,h⟩,_⟩ := h; cases h) ?_ ?_
    ·refine sp 1 hf rfl fun a hf => zN hf hc ag_49 m0 rfl fun a w hf hc => sp 3 hf rfl fun a hf => cNil ⟨hf.kp rfl,hc⟩
    rintro a w ⟨hf,hc⟩
    refine stY (own := [.box b_2 [i6 e_1.At,i6 e_1.Depth.Lo,i6 e_1.Depth.Hi,i6 e_1.Speed.Lo,i6 e_1.Speed.Hi] 49,.box b_ [i6 x.Left,i6 x.Right,.slice x_Verticals_p x.Verticals.length x_Verticals_c] 41]) (v := (e_1,W (to_ - from_))) hy hJ hry hf hc rfl rfl rfl rfl rfl rfl fun a w Ls_1 hJ_1 hf hc => ?_
    replace hc : Ctx G (.box b_2 [i6 e_1.At,i6 e_1.Depth.Lo,i6 e_1.Depth.Hi,i6 e_1.Speed.Lo,i6 e_1.Speed.Hi] 49::.box b_ [i6 x.Left,i6 x.Right,.slice x_Verticals_p x.Verticals.length x_Verticals_c] 41::(Ls_1 ++ Lf)) w := hc
    refine yRest (fun _ _ h => by obtain ⟨⟨_,h⟩,_⟩ := h; cases h) ?_
    refine sp 1 hf rfl fun a hf => cNil ?_
    refine h11 _ _ ?_
    refine zI hf rfl hF ?_ ?_ <;> clear hF <;> intro hF
    ·refine wp_ret ?_
     refine xBlkR ?_
     refine xThenR ?_
     refine xThenR ?_
     have he := sj hF
     rw [← he] at hfin3
     replace hF := ho3 _ hfin3
     refine xBlkR ?_
     refine xThenR ?_
     obtain rfl := hF
     replace hc := hc.drop k0
     exact fnOut0 (by simp) rfl Tryz.results43 hf ⟨⟨_,rfl⟩,Ls_1,hJ_1,hc⟩
    ·refine wp_skip ?_
     refine h6 _ _ ?_
     refine cReg ?_
     refine sp 2 hf rfl fun a hf => cNil ?_
     replace hc := hc.drop k0
     exact hK3 (W (x_0 + 1),ry.1) _ _ (sj hF).symm ⟨Ls_1,hJ_1,hf.kp rfl,hc⟩
   refine zS fun K h => sp 2 hf rfl fun a hf => zP hf rfl (pFA fa_41_2 rfl) fun a hf => zL hf hc sc_39 m1 rfl fun a w hf hc => zP hf rfl (pLenS Tryz.underlying39 rfl) fun a hf => sp 1 hf rfl fun a hf => zT h ?_
   refine zI hf rfl hF ?_ ?_ <;> clear hF <;> intro hF
   ·refine cReg ?_
    refine zP hf rfl (pFA fa_41_2 rfl) fun a hf => zL hf hc sc_39 m1 rfl fun a w hf hc => sp 2 hf rfl fun a hf => ?_
    obtain ⟨e_2,he_2,hF⟩ := bnd_some hF
    obtain ⟨b_3,o_1,qa_1,qp_1⟩ := h_x_Verticals.atm he_2
    refine zP hf rfl (pIA Tryz.underlying39 sz_49 rfl rfl qa_1) fun a hf => zP hf rfl (pFA fa_49_0 rfl) fun a hf => zE hf hc rfl (eLd1 sc_3 rfl (cell_pc (j := 0) qp_1 rfl)) fun a w hf hc => sp 1 hf rfl fun a hf => cNil ?_
    exact hj10 e_2.At _ _  (hf.kp rfl) hc hF
   ·refine wp_skip ?_
    exact hj10 x.Right _ _  (hf.kp rfl) hc hF
  refine zS fun K h => sp 2 hf rfl fun a hf => zT h ?_
  refine zI hf rfl hF ?_ ?_ <;> clear hF <;> intro hF
  ·refine cReg ?_
   refine zP hf rfl (pFA fa_41_2 rfl) fun a hf => zL hf hc sc_39 m1 rfl fun a w hf hc => sp 2 hf rfl fun a hf => ?_
   obtain ⟨e_3,he_3,hF⟩ := bnd_some hF
   obtain ⟨b_4,o_2,qa_2,qp_2⟩ := h_x_Verticals.atm he_3
   refine zP hf rfl (pIA Tryz.underlying39 sz_49 rfl rfl qa_2) fun a hf => zP hf rfl (pFA fa_49_0 rfl) fun a hf => zE hf hc rfl (eLd1 sc_3 rfl (cell_pc (j := 0) qp_2 rfl)) fun a w hf hc => sp 1 hf rfl fun a hf => cNil ?_
   exact hj9 e_3.At _ _  (hf.kp rfl) hc hF
  ·refine wp_skip ?_
   exact hj9 x.Left _ _  (hf.kp rfl) hc hF
 ·refine wp_exit ?_
  refine xThen ?_
  refine xThen ?_
  have he := sj hF
  rw [← he] at hfin3
  refine cHit ?_
  exact hr3 _ _ _ hfin3 ⟨Ls,hJ,hf.kp rfl,hc⟩

def gauge_just (N : Nat) (n : Int) : Option (api_Span) :=
 some (⟨n,n⟩ : api_Span)
theorem gauge_just_ok {N : Nat} {G : Pers} {Lf : List Ent} {w : World} (n : Int)   (hc : Ctx G (Lf) w) {res : api_Span} (hF : gauge_just N n = some res) : Calls Tryz.prog 36 #[i6 n] w (fun e w => e = .returned (.agg #[i6 res.Lo,i6 res.Hi]) ∧ Ctx G (Lf) w) := by
 unfold gauge_just at hF
 refine fnIn Tryz.func36 rfl Tryz.ntmps36 rfl fun a hf => zS fun K h => zA hf hc zr_43 rfl fun b_1 a w hf hc => zT h ?_
 refine zS fun K h => sp 2 hf rfl fun a hf => zP hf rfl (pBuildS (cells := [i6 n,i6 n]) bt_43 rfl rfl) fun a hf => zW hf hc sz_43 u0 rfl fun w hc => zT h ?_
 refine wp_ret ?_
 obtain rfl := sj hF
 exact fnOut1 (by simp) rfl Tryz.results36 hf hc (rv_cellN (vs := [i6 n,i6 n]) ag_43 rfl rfl (cells_box (n := 2) m0 rfl)) ⟨rfl,(hc.drop k0)⟩

def gauge_times_b5 (N : Nat) (l : List api_Span) (x : Int) (x_1 : Int) (x_2 : Int) : Option (Step (Int × Int × Int) (api_Span)) :=
 cond (decide (x < ((l.length : Nat) : Int)))
 (Option.bind (getI l x) fun e_1 =>
 some (.cont (W (x + 1),min (min (min (W (x_1 * e_1.Lo)) (W (x_1 * e_1.Hi))) (W (x_2 * e_1.Lo))) (W (x_2 * e_1.Hi)),max (max (max (W (x_1 * e_1.Lo)) (W (x_1 * e_1.Hi))) (W (x_2 * e_1.Lo))) (W (x_2 * e_1.Hi)))))
 (some (.brk (x,x_1,x_2)))
def gauge_times (N : Nat) (l : List api_Span) : Option (api_Span) :=
 Option.bind (loopO (fun s5 => gauge_times_b5 N l s5.1 s5.2.1 s5.2.2) N (0,1,1)) fun x5 =>
 exK x5 (fun s5 => some (⟨s5.2.1,s5.2.2⟩ : api_Span)) some
theorem gauge_times_ok {N : Nat} {G : Pers} {Lf : List Ent} {w : World} (l : List api_Span) {l_p : Option Addr} {l_c : Nat} (h_l : Rd G 2 l_p l_c (l.map enc_api_Span)) (hc : Ctx G (Lf) w) {res : api_Span} (hF : gauge_times N l = some res) : Calls Tryz.prog 35 #[.slice l_p l.length l_c] w (fun e w => e = .returned (.agg #[i6 res.Lo,i6 res.Hi]) ∧ Ctx G (Lf) w) := by
 unfold gauge_times at hF
 refine fnIn Tryz.func35 rfl Tryz.ntmps35 rfl fun a hf => zS fun K h => zA hf hc zr_43 rfl fun b_1 a w hf hc => zT h ?_
 refine zS fun K h => zP hf rfl (pBuildS (cells := [i6 1,i6 1]) bt_43 rfl rfl) fun a hf => zA hf hc zr_43 rfl fun b_2 a w hf hc => zW hf hc sz_43 u0 rfl fun w hc => zT h ?_
 refine wp_seq_k fun K3 h3 => zS fun K h => sp 1 hf rfl fun a hf => zP hf rfl (pLenS Tryz.underlying37 rfl) fun a hf => sp 1 hf rfl fun a hf => zT h ?_
 refine wp_block ?_
 obtain ⟨x5,hx5,hF⟩ := bnd_some hF
 let S5 : (Int × Int × Int) → Act → World → Prop := (fun (zz : Int × Int × Int) a w => Has 50 a [(2,pq b_1),(3,pq b_2),(11,.slice l_p l.length l_c),(12,i6 ((l.length : Nat) : Int)),(13,i6 zz.1)] ∧ Ctx G (.box b_2 [i6 zz.2.1,i6 zz.2.2] 43::.box b_1 [i6 0,i6 0] 43::Lf) w)
 have hr5 : ∀ (zz : Int × Int × Int) a w,x5 = .go zz → S5 zz a w → K3 a w := by
  rintro ⟨x,x_1,x_2⟩ a w rfl ⟨hf,hc⟩
  replace hF := exK_go hF
  refine h3 _ _ ?_
  refine zS fun K h => zN hf hc ag_43 m0 rfl fun a w hf hc => zW hf hc sz_43 u1 rfl fun w hc => zT h ?_
  refine wp_ret ?_
  obtain rfl := sj hF
  replace hc := hc.drop k0
  exact fnOut1 (by simp) rfl Tryz.results35 hf hc (rv_cellN (vs := [i6 x_1,i6 x_2]) ag_43 rfl rfl (cells_box (n := 2) m0 rfl)) ⟨rfl,(hc.drop k0)⟩
 have ho5 : ∀ r,x5 = .out r → r = res := by
  rintro r rfl
  exact sj hF
 refine cLoop N (loopW (S := S5) (x := x5) ?_ N (0,1,1) _ _ ⟨hf.kp rfl,hc⟩ hx5)
 clear hF hf hc
 rintro ⟨x,x_1,x_2⟩ st5 a w KB5 ⟨hf,hc⟩ hF hfin5 hK5
 unfold gauge_times_b5 at hF
 refine zS fun K h => sp 1 hf rfl fun a hf => zT h ?_
 refine wp_seq_k fun K8 h8 => zI hf rfl hF ?_ ?_ <;> clear hF <;> intro hF
 ·refine wp_skip ?_
  refine h8 _ _ ?_
  refine wp_seq_k fun K9 h9 => wp_block ?_
  refine zS fun K h => ?_
  obtain ⟨e_1,he_1,hF⟩ := bnd_some hF
  obtain ⟨b_3,o,qa,qp⟩ := h_l.atm he_1
  refine zP hf rfl (pIA Tryz.underlying37 sz_43 rfl rfl qa) fun a hf => zE hf hc rfl (eLdN (vs := [i6 e_1.Lo,i6 e_1.Hi]) ag_43 rfl rfl (cells_pc qp (n := 2) (o' := 0) rfl)) fun a w hf hc => zA hf hc zr_43 rfl fun b_4 a w hf hc => zW hf hc sz_43 u0 rfl fun w hc => zT h ?_
  refine wp_seq_k fun K11 h11 => cQ hc follows_mx (by kernel_rfl) ?_
  refine qE hf rfl rfl rfl (Pu.ev (pFA fa_43_0 rfl)) fun a hf => qE hf rfl rfl rfl (eLd1 sc_3 rfl (cell_box m1 rfl)) fun a hf => qE hf rfl rfl rfl (Pu.ev (pFA fa_43_0 rfl)) fun a hf => qE hf rfl rfl rfl (eLd1 sc_3 rfl (cell_box m0 rfl)) fun a hf => qE hf rfl rfl rfl (Pu.ev (pMul rfl rfl)) fun a hf => qE hf rfl rfl rfl (Pu.ev (pFA fa_43_0 rfl)) fun a hf => qE hf rfl rfl rfl (eLd1 sc_3 rfl (cell_box m1 rfl)) fun a hf => qE hf rfl rfl rfl (Pu.ev (pFA fa_43_1 rfl)) fun a hf => qE hf rfl rfl rfl (eLd1 sc_3 rfl (cell_box m0 rfl)) fun a hf => qE hf rfl rfl rfl (Pu.ev (pMul rfl rfl)) fun a hf => qE hf rfl rfl rfl (Pu.ev (pFA fa_43_1 rfl)) fun a hf => qE hf rfl rfl rfl (eLd1 sc_3 rfl (cell_box m1 rfl)) fun a hf => qE hf rfl rfl rfl (Pu.ev (pFA fa_43_0 rfl)) fun a hf => ?_
  refine qE hf rfl rfl rfl (eLd1 sc_3 rfl (cell_box m0 rfl)) fun a hf => qE hf rfl rfl rfl (Pu.ev (pMul rfl rfl)) fun a hf => qE hf rfl rfl rfl (Pu.ev (pFA fa_43_1 rfl)) fun a hf => qE hf rfl rfl rfl (eLd1 sc_3 rfl (cell_box m1 rfl)) fun a hf => qE hf rfl rfl rfl (Pu.ev (pFA fa_43_1 rfl)) fun a hf => qE hf rfl rfl rfl (eLd1 sc_3 rfl (cell_box m0 rfl)) fun a hf => qE hf rfl rfl rfl (Pu.ev (pMul rfl rfl)) fun a hf => qE hf rfl rfl rfl (Pu.ev (pA rfl)) fun a hf => qE hf rfl rfl rfl (Pu.ev (pA rfl)) fun a hf => qE hf rfl rfl rfl (Pu.ev (pA rfl)) fun a hf => qE hf rfl rfl rfl (Pu.ev (pA rfl)) fun a hf => ?_
  intro w hc
  refine h11 _ _ ?_
  refine cReg ?_
  refine sp 4 hf rfl fun a hf => zP hf rfl (pMin4 rfl rfl rfl rfl) fun a hf => sp 4 hf rfl fun a hf => zP hf rfl (pMax4 rfl rfl rfl rfl) fun a hf => zP hf rfl (pBuildS (cells := [i6 (min (min (min (W (x_1 * e_1.Lo)) (W (x_1 * e_1.Hi))) (W (x_2 * e_1.Lo))) (W (x_2 * e_1.Hi))),i6 (max (max (max (W (x_1 * e_1.Lo)) (W (x_1 * e_1.Hi))) (W (x_2 * e_1.Lo))) (W (x_2 * e_1.Hi)))]) bt_43 rfl rfl) fun a hf => zW hf hc sz_43 u1 rfl fun w hc => cNil ?_
  refine h9 _ _ ?_
  refine cReg ?_
  refine sp 2 hf rfl fun a hf => cNil ?_
  replace hc := hc.drop k0
  exact hK5 (W (x + 1),min (min (min (W (x_1 * e_1.Lo)) (W (x_1 * e_1.Hi))) (W (x_2 * e_1.Lo))) (W (x_2 * e_1.Hi)),max (max (max (W (x_1 * e_1.Lo)) (W (x_1 * e_1.Hi))) (W (x_2 * e_1.Lo))) (W (x_2 * e_1.Hi))) _ _ (sj hF).symm ⟨hf.kp rfl,hc⟩
 ·refine wp_exit ?_
  refine xThen ?_
  refine xThen ?_
  have he := sj hF
  rw [← he] at hfin5
  refine cHit ?_
  exact hr5 _ _ _ hfin5 ⟨hf.kp rfl,hc⟩

def gauge_Panels_r9 (N : Nat) (x : List api_Span) (xv : gauge_Vertical) (xv_1 : Int) : Option (Rs ((List api_Span))) :=
 Option.bind (gauge_just N xv_1) fun r_2 =>
 Option.bind (gauge_times N ([r_2,xv.Depth,xv.Speed] : List api_Span)) fun r_3 =>
 Option.bind (room ((x ++ [r_3])).length) fun un =>
 some (.go (x ++ [r_3]))
def gauge_Panels (N : Nat) (g : gauge_Gauging) : Option ((List api_Span) × Int) :=
 Option.bind (gauge_Check N g) fun r =>
 cond (r != 0)
 (some (([] : List api_Span),r))
 (Option.bind (gauge_Gauging_widths N g) fun r_1 =>
 Option.bind (gauge_Gauging_widths_1 N (⟨r_1.1,r_1.2,g.Verticals⟩ : gauge_Gauging) (rY (fun (zz : (List api_Span)) (ix_ : (gauge_Vertical × Int)) => gauge_Panels_r9 N zz ix_.1 ix_.2)) (.go ([] : List api_Span))) fun x9 =>
 rsK x9 (fun zz9 => some (zz9,0)) (fun zz9 => none))
theorem gauge_Panels_ok {N : Nat} {G : Pers} {Lf : List Ent} {w : World} (g : gauge_Gauging) {g_Verticals_p : Option Addr} {g_Verticals_c : Nat} (h_g_Verticals : Rd G 5 g_Verticals_p g_Verticals_c (g.Verticals.map enc_gauge_Vertical)) (hc : Ctx G (Lf) w) {res : (List api_Span) × Int} (hF : gauge_Panels N g = some res) : Calls Tryz.prog 17 #[.agg #[i6 g.Left,i6 g.Right,.slice g_Verticals_p g.Verticals.length g_Verticals_c]] w (fun e w => ∃ (p'1 : Option Addr) (c'1 : Nat),e = .returned (.tuple #[.slice p'1 res.1.length c'1,i6 res.2]) ∧ Ctx G (.row p'1 c'1 (res.1.map enc_api_Span) 43 2::Lf) w) := by
 unfold gauge_Panels at hF
 refine fnInM Tryz.func17 rfl Tryz.ntmps17 rfl fun a hf => zS fun K h => zB hf hc rfl fun b_1 a w hf hc => sp 2 hf rfl fun a hf => zT h ?_
 refine wp_seq_k fun K2 h2 => zS fun K h => zN hf hc ag_41 m0 rfl fun a w hf hc => ?_
 obtain ⟨r,hr,hF⟩ := bnd_some hF
 refine zQ (v := i6 r) hf hc en_19 rfl (fun w hc => gauge_Check_ok g h_g_Verticals hc hr) fun a w hf hc => sp 1 hf rfl fun a hf => zT h ?_
 refine zS fun K h => sp 2 hf rfl fun a hf => zT h ?_
 refine zI hf rfl hF ?_ ?_ <;> clear hF <;> intro hF
 ·refine zS fun K h => sp 3 hf rfl fun a hf => zT h ?_
  refine wp_ret ?_
  refine xThenR ?_
  obtain rfl := sj hF
  replace hc := hc.nilRow 43 2
  replace hc := hc.drop k1
  refine outM hf ?_
  exact outM2 Tryz.results17 hf hc (show look _ 2 = _ from rfl) (show look _ 3 = _ from rfl) ⟨none,0,rfl,hc⟩
 ·refine wp_skip ?_
  refine h2 _ _ ?_
  refine zS fun K h => zA hf hc zr_37 rfl fun b_2 a w hf hc => zT h ?_
  refine wp_seq_k fun K7 h7 => zS fun K h => zN hf hc ag_41 m1 rfl fun a w hf hc => ?_
  obtain ⟨r_1,hr_1,hF⟩ := bnd_some hF
  refine zC hf en_20 rfl (gauge_Gauging_widths_ok g h_g_Verticals hc hr_1) ?_
  rintro _ w ⟨b_3,rfl,hc⟩
  refine ⟨_,rfl,fun a hf => ?_⟩
  refine zT h ?_
  obtain ⟨x9,hx9,hF⟩ := bnd_some hF
  replace hc := hc.nilRow 43 2
  replace hc := ((hc.drop k3).pick k0).pick k1
  refine cRange (C := [.box b_3 [i6 r_1.1,i6 r_1.2,.slice g_Verticals_p g.Verticals.length g_Verticals_c] 41]) (C2 := [.box b_3 [i6 r_1.1,i6 r_1.2,.slice g_Verticals_p g.Verticals.length g_Verticals_c] 41]) (L0 := [.row none 0 ((([] : List api_Span)).map enc_api_Span) 43 2,.box b_2 [.slice none (([] : List api_Span)).length 0] 37]) (Lf := Lf) (encs := fun x : (gauge_Vertical × Int) => [.agg #[i6 x.1.At,i6 x.1.Depth.Lo,i6 x.1.Depth.Hi,i6 x.1.Speed.Lo,i6 x.1.Speed.Hi],i6 x.2]) (fun (zz : (List api_Span)) L => ∃ (p_1 : Option Addr) (c_1 : Nat),L = [.row p_1 c_1 (zz.map enc_api_Span) 43 2,.box b_2 [.slice p_1 zz.length c_1] 37]) (fun (zz : (List api_Span)) (ix_ : (gauge_Vertical × Int)) => gauge_Panels_r9 N zz ix_.1 ix_.2) ([] : List api_Span) x9 hf hc rfl en_43 (fun _ => rfl) rfl ⟨none,0,rfl⟩ ?_ ?_ ?_ ?_
  ·intro lq mq J L Lx w hy hJ hc
   exact gauge_Gauging_widths_1_ok (⟨r_1.1,r_1.2,g.Verticals⟩ : gauge_Gauging) h_g_Verticals J _ hy _ hJ hc hx9
  ·clear hF hf hc
   rintro lq mq x ⟨xv,xv_1⟩ oq _ Lr Lb a w hK0 ⟨p_1,c_1,rfl⟩ hF hf hc hK
   replace hf : Has 29 a [(5,pq b_2),(15,.agg #[i6 xv.At,i6 xv.Depth.Lo,i6 xv.Depth.Hi,i6 xv.Speed.Lo,i6 xv.Speed.Hi]),(16,i6 xv_1)] := hf.kp rfl
   replace hc : Ctx G (.row p_1 c_1 (x.map enc_api_Span) 43 2::.box b_2 [.slice p_1 x.length c_1] 37::Lr) w := hc
   replace hF : gauge_Panels_r9 N x xv xv_1 = some oq := hF
   unfold gauge_Panels_r9 at hF
   refine rSeq fun K10 h10 => rReg (fun _ _ h => h) rfl ?_
   refine zA hf hc zr_49 rfl fun b_4 a w hf hc => zW hf hc sz_49 u0 rfl fun w hc => cNil ?_
   refine h10 _ _ ?_
   refine rReg (fun _ _ h => h) rfl ?_
   refine sp 1 hf rfl fun a hf => cNil ?_
   refine hK _ _ [.box b_4 [i6 xv.At,i6 xv.Depth.Lo,i6 xv.Depth.Hi,i6 xv.Speed.Lo,i6 xv.Speed.Hi] 49,.row p_1 c_1 (x.map enc_api_Span) 43 2,.box b_2 [.slice p_1 x.length c_1] 37] hc fun w hc => ?_
   replace hc : Ctx G (.box b_4 [i6 xv.At,i6 xv.Depth.Lo,i6 xv.Depth.Hi,i6 xv.Speed.Lo,i6 xv.Speed.Hi] 49::.row p_1 c_1 (x.map enc_api_Span) 43 2::.box b_2 [.slice p_1 x.length c_1] 37::Lb) w := hc
   refine rThenK fun K11 h11 => rBlock ?_
   obtain ⟨r_2,hr_2,hF⟩ := bnd_some hF
   obtain ⟨r_3,hr_3,hF⟩ := bnd_some hF
   obtain ⟨un,hun,hF⟩ := bnd_some hF
   replace hc := hc.nilRow 0 0
   replace hc := hc.nilRow 0 0
   refine rRegE (fun _ _ h => h) rfl (fun θ => [⟨none,none,5,pq b_2⟩,⟨none,none,6,pq b_4⟩,⟨none,none,7,i6 xv_1⟩,⟨some 0,none,17,.slice p_1 x.length c_1⟩,⟨some 1,none,18,i6 xv_1⟩,⟨some 2,none,19,.agg #[i6 r_2.Lo,i6 r_2.Hi]⟩,⟨some 3,none,20,.pointer (some ⟨b_4,1,none⟩)⟩,⟨some 4,none,21,.agg #[i6 xv.Depth.Lo,i6 xv.Depth.Hi]⟩,⟨some 5,none,22,.pointer (some ⟨b_4,3,none⟩)⟩,⟨some 6,none,23,.agg #[i6 xv.Speed.Lo,i6 xv.Speed.Hi]⟩,⟨some 7,none,24,.slice (some ⟨(θ 56).b,0,none⟩) 3 3⟩,⟨some 8,none,25,.agg #[i6 r_3.Lo,i6 r_3.Hi]⟩,⟨some 9,none,26,.slice (some ⟨(θ 72).b,0,none⟩) 1 1⟩,⟨some 10,none,27,.slice ((θ 80).p) ((x ++ [r_3]).length) ((θ 80).c)⟩]) (fun E θ => (bif E 9 then .row (some ⟨(θ 72).b,0,none⟩) 1 (([r_3] : List api_Span).map enc_api_Span) 43 2 else .row none 0 [] 0 0)::(bif E 7 then .row (some ⟨(θ 56).b,0,none⟩) 3 (([r_2,xv.Depth,xv.Speed] : List api_Span).map enc_api_Span) 43 2 else .row none 0 [] 0 0)::.box b_4 [i6 xv.At,i6 xv.Depth.Lo,i6 xv.Depth.Hi,i6 xv.Speed.Lo,i6 xv.Speed.Hi] 49::(bif E 10 then .row ((θ 80).p) ((θ 80).c) ((x ++ [r_3]).map enc_api_Span) 43 2 else .row p_1 c_1 (x.map enc_api_Span) 43 2)::(bif E 11 then .box b_2 [.slice ((θ 80).p) ((x ++ [r_3]).length) ((θ 80).c)] 37 else .box b_2 [.slice p_1 x.length c_1] 37)::Lb) [(11,0),(11,10)] (fun a w => ∃ (b_7 : Nat) (b_8 : Nat) (p_3 : Option Addr) (c_3 : Nat),Has 29 a [(5,pq b_2)] ∧ Ctx G (.row (some ⟨b_7,0,none⟩) 1 (([r_3] : List api_Span).map enc_api_Span) 43 2::.row (some ⟨b_8,0,none⟩) 3 (([r_2,xv.Depth,xv.Speed] : List api_Span).map enc_api_Span) 43 2::.box b_4 [i6 xv.At,i6 xv.Depth.Lo,i6 xv.Depth.Hi,i6 xv.Speed.Lo,i6 xv.Speed.Hi] 49::.row p_3 c_3 ((x ++ [r_3]).map enc_api_Span) 43 2::.box b_2 [.slice p_3 ((x ++ [r_3]).length) c_3] 37::Lb) w) follows_mx (by kernel_rfl) (by kernel_rfl) (HasE.of hf ⟨rfl,rfl,rfl,trivial,trivial,trivial,trivial,trivial,trivial,trivial,trivial,trivial,trivial,trivial,trivial⟩) hc ⟨?_,?_,?_,?_,?_,?_,?_,?_,?_,?_,?_,?_,trivial⟩ ?_ ?_
   ·intro E θ a w hD hi hp he hc
    have e11 := hD.f 0 rfl hi
    try dsimp only at hc
    rw [e11] at hc
    have hf := he.h0.mT he 0 rfl
    refine zL hf hc sc_37 m4 rfl fun a w hf hc => zD θ he hi hf 3 rfl rfl rfl ?_
    try dsimp only
    rw [updE_fls 0 e11 rfl]
    exact hc
   ·intro E θ a w hD hi hp he hc
    have hf := he.h0.mT he 2 rfl
    refine sp 1 hf rfl fun a hf => zD θ he hi hf 4 rfl rfl rfl hc
   ·intro E θ a w hD hi hp he hc
    have e1 := hp.o 1 rfl
    have hf := he.h0.mP he 4 rfl e1
    refine zQ (v := .agg #[i6 r_2.Lo,i6 r_2.Hi]) hf hc en_36 rfl (fun w hc => gauge_just_ok xv_1 hc hr_2) fun a w hf hc => zD θ he hi hf 5 rfl rfl rfl hc
   ·intro E θ a w hD hi hp he hc
    have hf := he.h0.mT he 1 rfl
    refine zP hf rfl (pFA fa_49_1 rfl) fun a hf => zD θ he hi hf 6 rfl rfl rfl hc
   ·intro E θ a w hD hi hp he hc
    have e3 := hp.o 3 rfl
    have hf := he.h0.mP he 6 rfl e3
    refine zN hf hc ag_43 m2 rfl fun a w hf hc => zD θ he hi hf 7 rfl rfl rfl hc
   ·intro E θ a w hD hi hp he hc
    have hf := he.h0.mT he 1 rfl
    refine zP hf rfl (pFA fa_49_2 rfl) fun a hf => zD θ he hi hf 8 rfl rfl rfl hc
   ·intro E θ a w hD hi hp he hc
    have e5 := hp.o 5 rfl
    have hf := he.h0.mP he 8 rfl e5
    refine zN hf hc ag_43 m2 rfl fun a w hf hc => zD θ he hi hf 9 rfl rfl rfl hc
   ·intro E θ a w hD hi hp he hc
    have e2 := hp.o 2 rfl
    have e4 := hp.o 4 rfl
    have e6 := hp.o 6 rfl
    try dsimp only at hc
    rw [hi] at hc
    have hf := ((he.h0.mP he 5 rfl e2).mP he 7 rfl e4).mP he 9 rfl e6
    refine stBS (rows := ([r_2,xv.Depth,xv.Speed] : List api_Span).map enc_api_Span) (vs := [(0,.agg #[i6 r_2.Lo,i6 r_2.Hi]),(1,.agg #[i6 xv.Depth.Lo,i6 xv.Depth.Hi]),(2,.agg #[i6 xv.Speed.Lo,i6 xv.Speed.Hi])]) hf hc rfl rfl sl_37 rfl ⟨rfl,rfl,rfl,rfl,rfl,rfl,rfl,rfl,rfl,trivial⟩ rfl rfl fun b_5 a w hf hc => cNil ?_
    refine xThenN ?_
    intro ds u hau
    replace hc := ((hc.drop k2).pick k0).pick k1
    refine ⟨(setT θ 56 ⟨b_5,none,0,(fun _ => (none,0))⟩),he.put hi hau hf rfl [] trivial ⟨qq,qq,qq,qq,qq,qq,qq,qq,qq,qq,qq,qq,qq,qq,trivial⟩,?_⟩
    try dsimp only
    rw [updE_self E 7]
    exact hc
   ·intro E θ a w hD hi hp he hc
    have e7 := hp.o 7 rfl
    try dsimp only at hc
    rw [e7] at hc
    have hf := he.h0.mP he 10 rfl e7
    refine zQ (v := .agg #[i6 r_3.Lo,i6 r_3.Hi]) hf hc en_35 rfl (fun w hc => by obtain ⟨G1,hle1,hrd1,hc,hth1⟩ := lend hc k1; exact (gauge_times_ok ([r_2,xv.Depth,xv.Speed] : List api_Span) hrd1 hc hr_3).mono fun e w h => ⟨h.1,((hth1 _ _ h.2).unpick k1)⟩) fun a w hf hc => zD θ he hi hf 11 rfl rfl rfl ?_
    try dsimp only
    rw [updE_tru 8 e7]
    exact hc
   ·intro E θ a w hD hi hp he hc
    have e8 := hp.o 8 rfl
    try dsimp only at hc
    rw [hi] at hc
    have hf := he.h0.mP he 11 rfl e8
    refine stBS (rows := ([r_3] : List api_Span).map enc_api_Span) (vs := [(0,.agg #[i6 r_3.Lo,i6 r_3.Hi])]) hf hc rfl rfl sl_37 rfl ⟨rfl,rfl,rfl,trivial⟩ rfl rfl fun b_6 a w hf hc => cNil ?_
    refine xThenN ?_
    intro ds u hau
    replace hc := hc.drop k1
    refine ⟨(setT θ 72 ⟨b_6,none,0,(fun _ => (none,0))⟩),he.put hi hau hf rfl [] trivial ⟨qq,qq,qq,qq,qq,qq,qq,qq,qq,qq,qq,qq,qq,qq,trivial⟩,?_⟩
    try dsimp only
    rw [updE_self E 9]
    exact hc
   ·intro E θ a w hD hi hp he hc
    have e0 := hp.o 0 rfl
    have e9 := hp.o 9 rfl
    have e11 := hD.f 1 rfl hi
    try dsimp only at hc
    rw [e9,hi,e11] at hc
    have hf := (he.h0.mP he 3 rfl e0).mP he 12 rfl e9
    refine stApm (xs := x) (ys := ([r_3] : List api_Span)) hf hc rfl rfl sl_37 rfl rfl rfl rfl rfl one_enc_api_Span (src_row hc m0) (fun _ _ => u3) (by simpa using room_spec hun) fun p_2 c_2 a w hf hc => cNil ?_
    refine xThenN ?_
    intro ds u hau
    refine ⟨(setT θ 80 ⟨0,p_2,c_2,(fun _ => (none,0))⟩),he.put hi hau hf rfl [] trivial ⟨qq,qq,qq,qq,qq,qq,qq,qq,qq,qq,qq,qq,qq,qq,trivial⟩,?_⟩
    try dsimp only
    rw [updE_tru 10 e9,updE_self E 10,updE_fls 10 e11 rfl]
    exact hc
   ·intro E θ a w hD hi hp he hc
    have e10 := hp.o 10 rfl
    try dsimp only at hc
    rw [hi] at hc
    have hf := (he.h0.mT he 0 rfl).mP he 13 rfl e10
    refine zW hf hc sz_37 u4 rfl fun w hc => zG θ he hi hf rfl ?_
    try dsimp only
    rw [updE_self E 11]
    exact hc
   ·intro E θ a w hall he hc
    have hf := he.h0
    have e7 := hall 7 rfl
    have e9 := hall 9 rfl
    have e10 := hall 10 rfl
    have e11 := hall 11 rfl
    replace hf := hf.more he 0 rfl (onT)
    try dsimp only at hc
    rw [e7,e9,e10,e11] at hc
    exact ⟨(θ 72).b,(θ 56).b,(θ 80).p,(θ 80).c,hf.kp rfl,hc⟩
   rintro a w ⟨b_7,b_8,p_3,c_3,hf,hc⟩
   refine h11 _ _ ?_
   replace hc := ((hc.drop k2).drop k1).drop k0
   exact ⟨(x ++ [r_3]),_,(sj hF).symm,⟨p_3,c_3,rfl⟩,hc⟩
  ·rintro D_1 x _ a w hsF ⟨p_1,c_1,rfl⟩ hf hc
   replace hf : Has ⟨29,markL (D_1::[])⟩ a [(5,pq b_2)] := hf.kp rfl
   replace hc : Ctx G (.box b_3 [i6 r_1.1,i6 r_1.2,.slice g_Verticals_p g.Verticals.length g_Verticals_c] 41::.row p_1 c_1 (x.map enc_api_Span) 43 2::.box b_2 [.slice p_1 x.length c_1] 37::(raws (D_1::[]) ++ Lf)) w := rawsIn (C := [.box b_3 [i6 r_1.1,i6 r_1.2,.slice g_Verticals_p g.Verticals.length g_Verticals_c] 41]) (L := [.row p_1 c_1 (x.map enc_api_Span) 43 2,.box b_2 [.slice p_1 x.length c_1] 37]) hc
   replace hF : (some (x,0)) = some res := by rcases hsF with rfl | rfl <;> exact hF
   refine h7 _ _ ?_
   refine zS fun K h => zL hf hc sc_37 m2 rfl fun a w hf hc => sp 2 hf rfl fun a hf => zT h ?_
   refine wp_ret ?_
   obtain rfl := sj hF
   replace hc := (hc.drop k2).drop k0
   refine outM hf ?_
   refine outML [.row p_1 c_1 (x.map enc_api_Span) 43 2] (D_1::[]) hc fun w hc => ?_
   replace hc : Ctx G (.row p_1 c_1 (x.map enc_api_Span) 43 2::Lf) w := hc
   exact outM2 Tryz.results17 hf hc (show look _ 2 = _ from rfl) (show look _ 3 = _ from rfl) ⟨p_1,c_1,rfl,hc⟩
  ·rintro D_1 x _ a w hsF ⟨p_1,c_1,rfl⟩ hf hc
   replace hf : Has ⟨29,markL (D_1::[])⟩ a [(5,pq b_2)] := hf.kp rfl
   replace hc : Ctx G (.box b_3 [i6 r_1.1,i6 r_1.2,.slice g_Verticals_p g.Verticals.length g_Verticals_c] 41::.row p_1 c_1 (x.map enc_api_Span) 43 2::.box b_2 [.slice p_1 x.length c_1] 37::(raws (D_1::[]) ++ Lf)) w := rawsIn (C := [.box b_3 [i6 r_1.1,i6 r_1.2,.slice g_Verticals_p g.Verticals.length g_Verticals_c] 41]) (L := [.row p_1 c_1 (x.map enc_api_Span) 43 2,.box b_2 [.slice p_1 x.length c_1] 37]) hc
   replace hF : (none) = some res := by subst hsF; exact hF
   cases hF

def gauge_plus (N : Nat) (a_ : api_Span) (b_ : api_Span) : Option (api_Span) :=
 some (⟨W (a_.Lo + b_.Lo),W (a_.Hi + b_.Hi)⟩ : api_Span)
theorem gauge_plus_ok {N : Nat} {G : Pers} {Lf : List Ent} {w : World} (a_ : api_Span) (b_ : api_Span)   (hc : Ctx G (Lf) w) {res : api_Span} (hF : gauge_plus N a_ b_ = some res) : Calls Tryz.prog 18 #[.agg #[i6 a_.Lo,i6 a_.Hi],.agg #[i6 b_.Lo,i6 b_.Hi]] w (fun e w => e = .returned (.agg #[i6 res.Lo,i6 res.Hi]) ∧ Ctx G (Lf) w) := by
 unfold gauge_plus at hF
 refine fnIn Tryz.func18 rfl Tryz.ntmps18 rfl fun a hf => zS fun K h => zB hf hc rfl fun b_1 a w hf hc => zB hf hc rfl fun b_2 a w hf hc => zA hf hc zr_43 rfl fun b_3 a w hf hc => zT h ?_
 refine zS fun K h => zP hf rfl (pFA fa_43_0 rfl) fun a hf => zL hf hc sc_3 m2 rfl fun a w hf hc => zP hf rfl (pFA fa_43_0 rfl) fun a hf => zL hf hc sc_3 m1 rfl fun a w hf hc => sp 1 hf rfl fun a hf => zP hf rfl (pFA fa_43_1 rfl) fun a hf => zL hf hc sc_3 m2 rfl fun a w hf hc => zP hf rfl (pFA fa_43_1 rfl) fun a hf => zL hf hc sc_3 m1 rfl fun a w hf hc => sp 1 hf rfl fun a hf => zP hf rfl (pBuildS (cells := [i6 (W (a_.Lo + b_.Lo)),i6 (W (a_.Hi + b_.Hi))]) bt_43 rfl rfl) fun a hf => zW hf hc sz_43 u0 rfl fun w hc => ?_
 refine zT h ?_
 refine wp_ret ?_
 obtain rfl := sj hF
 replace hc := (hc.drop k2).drop k1
 exact fnOut1 (by simp) rfl Tryz.results18 hf hc (rv_cellN (vs := [i6 (W (a_.Lo + b_.Lo)),i6 (W (a_.Hi + b_.Hi))]) ag_43 rfl rfl (cells_box (n := 2) m0 rfl)) ⟨rfl,(hc.drop k0)⟩

def gauge_Flow_b6 (N : Nat) (r : (List api_Span) × Int) (x : Int) (x_1 : Int) (x_2 : Int) : Option (Step (Int × Int × Int) (api_Span × Int)) :=
 cond (decide (x < ((r.1.length : Nat) : Int)))
 (Option.bind (getI r.1 x) fun e_1 =>
 Option.bind (gauge_plus N (⟨x_1,x_2⟩ : api_Span) e_1) fun r_1 =>
 some (.cont (W (x + 1),r_1.Lo,r_1.Hi)))
 (some (.brk (x,x_1,x_2)))
def gauge_Flow (N : Nat) (g : gauge_Gauging) : Option (api_Span × Int) :=
 Option.bind (gauge_Panels N g) fun r =>
 Option.bind (loopO (fun s6 => gauge_Flow_b6 N r s6.1 s6.2.1 s6.2.2) N (0,0,0)) fun x6 =>
 exK x6 (fun s6 => some ((⟨s6.2.1,s6.2.2⟩ : api_Span),r.2)) some
theorem gauge_Flow_ok {N : Nat} {G : Pers} {Lf : List Ent} {w : World} (g : gauge_Gauging) {g_Verticals_p : Option Addr} {g_Verticals_c : Nat} (h_g_Verticals : Rd G 5 g_Verticals_p g_Verticals_c (g.Verticals.map enc_gauge_Vertical)) (hc : Ctx G (Lf) w) {res : api_Span × Int} (hF : gauge_Flow N g = some res) : Calls Tryz.prog 11 #[.agg #[i6 g.Left,i6 g.Right,.slice g_Verticals_p g.Verticals.length g_Verticals_c]] w (fun e w => e = .returned (.tuple #[.agg #[i6 res.1.Lo,i6 res.1.Hi],i6 res.2]) ∧ Ctx G (Lf) w) := by
 unfold gauge_Flow at hF
 refine fnIn Tryz.func11 rfl Tryz.ntmps11 rfl fun a hf => zS fun K h => zB hf hc rfl fun b_1 a w hf hc => zA hf hc zr_43 rfl fun b_2 a w hf hc => sp 1 hf rfl fun a hf => zT h ?_
 refine zS fun K h => zN hf hc ag_41 m1 rfl fun a w hf hc => ?_
 obtain ⟨r,hr,hF⟩ := bnd_some hF
 refine zC hf en_17 rfl (gauge_Panels_ok g h_g_Verticals hc hr) ?_
 rintro _ w ⟨p_1,c_1,rfl,hc⟩
 refine ⟨_,rfl,fun a hf => ?_⟩
 refine sp 5 hf rfl fun a hf => zT h ?_
 refine zS fun K h => zA hf hc zr_43 rfl fun b_3 a w hf hc => zT h ?_
 refine wp_seq_k fun K4 h4 => zS fun K h => sp 1 hf rfl fun a hf => zP hf rfl (pLenS Tryz.underlying37 rfl) fun a hf => sp 1 hf rfl fun a hf => zT h ?_
 refine wp_block ?_
 obtain ⟨x6,hx6,hF⟩ := bnd_some hF
 let S6 : (Int × Int × Int) → Act → World → Prop := (fun (zz : Int × Int × Int) a w => ∃ (p_2 : Option Addr) (c_2 : Nat),Has 26 a [(2,pq b_2),(5,i6 r.2),(6,pq b_3),(14,.slice p_2 r.1.length c_2),(15,i6 ((r.1.length : Nat) : Int)),(16,i6 zz.1)] ∧ Ctx G (.box b_3 [i6 zz.2.1,i6 zz.2.2] 43::.row p_2 c_2 (r.1.map enc_api_Span) 43 2::.box b_2 [i6 0,i6 0] 43::Lf) w)
 have hr6 : ∀ (zz : Int × Int × Int) a w,x6 = .go zz → S6 zz a w → K4 a w := by
  rintro ⟨x,x_1,x_2⟩ a w rfl ⟨p_2,c_2,hf,hc⟩
  replace hF := exK_go hF
  refine h4 _ _ ?_
  refine zS fun K h => zN hf hc ag_43 m0 rfl fun a w hf hc => sp 1 hf rfl fun a hf => zW hf hc sz_43 u2 rfl fun w hc => sp 1 hf rfl fun a hf => zT h ?_
  refine wp_ret ?_
  obtain rfl := sj hF
  replace hc := (hc.drop k1).drop k0
  exact fnOut2 (by simp) rfl Tryz.results11 hf hc (rv_cellN (vs := [i6 x_1,i6 x_2]) ag_43 rfl rfl (cells_box (n := 2) m0 rfl)) (show look _ 3 = _ from rfl) ⟨rfl,(hc.drop k0)⟩
 have ho6 : ∀ r,x6 = .out r → r = res := by
  rintro r rfl
  exact sj hF
 replace hc := hc.drop k3
 refine cLoop N (loopW (S := S6) (x := x6) ?_ N (0,0,0) _ _ ⟨p_1,c_1,hf.kp rfl,hc⟩ hx6)
 clear hF hf hc
 rintro ⟨x,x_1,x_2⟩ st6 a w KB6 ⟨p_2,c_2,hf,hc⟩ hF hfin6 hK6
 unfold gauge_Flow_b6 at hF
 refine zS fun K h => sp 1 hf rfl fun a hf => zT h ?_
 refine wp_seq_k fun K9 h9 => zI hf rfl hF ?_ ?_ <;> clear hF <;> intro hF
 ·refine wp_skip ?_
  refine h9 _ _ ?_
  refine wp_seq_k fun K10 h10 => wp_block ?_
  refine zS fun K h => ?_
  obtain ⟨e_1,he_1,hF⟩ := bnd_some hF
  obtain ⟨g_0,rfl,qa,qr⟩ := row_atm hc m1 he_1
  refine zP hf rfl (pIA Tryz.underlying37 sz_43 rfl rfl qa) fun a hf => zE hf hc rfl (eLdN (vs := [i6 e_1.Lo,i6 e_1.Hi]) ag_43 rfl rfl (cells_rw (sz := 2) (i := x.toNat) m1 qr (n := 2) (o' := 0) rfl)) fun a w hf hc => zA hf hc zr_43 rfl fun b_4 a w hf hc => zW hf hc sz_43 u0 rfl fun w hc => zT h ?_
  refine cReg ?_
  refine zN hf hc ag_43 m1 rfl fun a w hf hc => zN hf hc ag_43 m0 rfl fun a w hf hc => ?_
  obtain ⟨r_1,hr_1,hF⟩ := bnd_some hF
  refine zQ (v := .agg #[i6 r_1.Lo,i6 r_1.Hi]) hf hc en_18 rfl (fun w hc => gauge_plus_ok (⟨x_1,x_2⟩ : api_Span) e_1 hc hr_1) fun a w hf hc => zW hf hc sz_43 u1 rfl fun w hc => cNil ?_
  refine h10 _ _ ?_
  refine cReg ?_
  refine sp 2 hf rfl fun a hf => cNil ?_
  replace hc := hc.drop k0
  exact hK6 (W (x + 1),r_1.Lo,r_1.Hi) _ _ (sj hF).symm ⟨(some ⟨g_0,0,none⟩),c_2,hf.kp rfl,hc⟩
 ·refine wp_exit ?_
  refine xThen ?_
  refine xThen ?_
  have he := sj hF
  rw [← he] at hfin6
  refine cHit ?_
  exact hr6 _ _ _ hfin6 ⟨p_2,c_2,hf.kp rfl,hc⟩

def gauge_Real_r11 (N : Nat) (depths : List Int) (speeds : List Int) (x : Int) (x_1 : Int) (x_2 : Int) (xv : gauge_Vertical) (xv_1 : Int) : Option (Rs (Int × Int × Int)) :=
 Option.bind (Option.bind (getI depths x_2) fun e_1 =>
 cond (!(gauge_in e_1 xv.Depth.Lo xv.Depth.Hi))
 (some true)
 (Option.bind (getI speeds x_2) fun e_2 =>
 some (!(gauge_in e_2 xv.Speed.Lo xv.Speed.Hi)))) fun rg =>
 cond rg
 (some (.ret (7,x_1,x_2)))
 (Option.bind (getI depths x_2) fun e_3 =>
 Option.bind (getI speeds x_2) fun e_4 =>
 some (.go (x,W (x_1 + (W ((W (xv_1 * e_3)) * e_4))),W (x_2 + 1))))
def gauge_Real (N : Nat) (g : gauge_Gauging) (depths : List Int) (speeds : List Int) : Option (Int × Int) :=
 Option.bind (gauge_Check N g) fun r =>
 cond (r != 0)
 (some (0,r))
 (cond ((((depths.length : Nat) : Int) != ((g.Verticals.length : Nat) : Int)) || (((speeds.length : Nat) : Int) != ((g.Verticals.length : Nat) : Int)))
 (some (0,2))
 (Option.bind (gauge_Gauging_widths N g) fun r_1 =>
 Option.bind (gauge_Gauging_widths_1 N (⟨r_1.1,r_1.2,g.Verticals⟩ : gauge_Gauging) (rY (fun (zz : Int × Int × Int) (ix_ : (gauge_Vertical × Int)) => gauge_Real_r11 N depths speeds zz.1 zz.2.1 zz.2.2 ix_.1 ix_.2)) (.go (0,0,0))) fun x11 =>
 rsK x11 (fun zz11 => some (zz11.2.1,0)) (fun zz11 => some (0,zz11.1))))
theorem gauge_Real_ok {N : Nat} {G : Pers} {Lf : List Ent} {w : World} (g : gauge_Gauging) (depths : List Int) (speeds : List Int) {g_Verticals_p : Option Addr} {g_Verticals_c : Nat} {depths_p : Option Addr} {depths_c : Nat} {speeds_p : Option Addr} {speeds_c : Nat} (h_g_Verticals : Rd G 5 g_Verticals_p g_Verticals_c (g.Verticals.map enc_gauge_Vertical)) (h_depths : Rd G 1 depths_p depths_c (depths.map encI_i64)) (h_speeds : Rd G 1 speeds_p speeds_c (speeds.map encI_i64)) (hc : Ctx G (Lf) w) {res : Int × Int} (hF : gauge_Real N g depths speeds = some res) : Calls Tryz.prog 12 #[.agg #[i6 g.Left,i6 g.Right,.slice g_Verticals_p g.Verticals.length g_Verticals_c],.slice depths_p depths.length depths_c,.slice speeds_p speeds.length speeds_c] w (fun e w => e = .returned (.tuple #[i6 res.1,i6 res.2]) ∧ Ctx G (Lf) w) := by
 unfold gauge_Real at hF
 refine fnInM Tryz.func12 rfl Tryz.ntmps12 rfl fun a hf => zS fun K h => zB hf hc rfl fun b_1 a w hf hc => zB hf hc rfl fun b_2 a w hf hc => zB hf hc rfl fun b_3 a w hf hc => zA hf hc zr_3 rfl fun b_4 a w hf hc => zA hf hc zr_44 rfl fun b_5 a w hf hc => zT h ?_
 refine zS fun K h => zN hf hc ag_41 m4 rfl fun a w hf hc => ?_
 obtain ⟨r,hr,hF⟩ := bnd_some hF
 refine zQ (v := i6 r) hf hc en_19 rfl (fun w hc => gauge_Check_ok g h_g_Verticals hc hr) fun a w hf hc => sp 1 hf rfl fun a hf => zT h ?_
 refine wp_seq_k fun K3 h3 => wp_block ?_
 refine zS fun K h => sp 3 hf rfl fun a hf => zT h ?_
 refine zI hf rfl hF ?_ ?_ <;> clear hF <;> intro hF
 ·refine zS fun K h => sp 1 hf rfl fun a hf => zW hf hc sz_3 u1 rfl fun w hc => zW hf hc sz_44 u0 rfl fun w hc => zT h ?_
  refine wp_ret ?_
  refine xBlkR ?_
  refine xThenR ?_
  obtain rfl := sj hF
  replace hc := ((((hc.drop k4).drop k3).drop k2).pick k0).pick k1
  refine outM hf ?_
  exact outM2 Tryz.results12 hf hc (rv_cell1 sc_3 rfl (cell_box m0 rfl)) (rv_cell1 sc_44 rfl (cell_box m1 rfl)) ⟨rfl,((hc.drop k1).drop k0)⟩
 ·refine zS fun K h => zL hf hc sc_23 m3 rfl fun a w hf hc => zP hf rfl (pLenS Tryz.underlying23 rfl) fun a hf => zP hf rfl (pFA fa_41_2 rfl) fun a hf => zL hf hc sc_39 m4 rfl fun a w hf hc => zP hf rfl (pLenS Tryz.underlying39 rfl) fun a hf => sp 2 hf rfl fun a hf => stCc 7 (fun a => Has 80 a [(3,pq b_1),(4,pq b_2),(5,pq b_3),(6,pq b_4),(7,pq b_5),(20,.slice depths_p depths.length depths_c),(21,i6 ((depths.length : Nat) : Int)),(22,.pointer (some ⟨b_1,2,none⟩)),(23,.slice g_Verticals_p g.Verticals.length g_Verticals_c),(24,i6 ((g.Verticals.length : Nat) : Int)),(25,.bool (((depths.length : Nat) : Int) != ((g.Verticals.length : Nat) : Int))),(26,.bool (((depths.length : Nat) : Int) != ((g.Verticals.length : Nat) : Int))),(33,.bool ((((depths.length : Nat) : Int) != ((g.Verticals.length : Nat) : Int)) || (((speeds.length : Nat) : Int) != ((g.Verticals.length : Nat) : Int))))]) hc ?_ ?_
  ·cases hb : (((depths.length : Nat) : Int) != ((g.Verticals.length : Nat) : Int))
   ·rw [hb] at hf
    refine zL hf hc sc_23 m2 rfl fun a w hf hc => zP hf rfl (pLenS Tryz.underlying23 rfl) fun a hf => zP hf rfl (pFA fa_41_2 rfl) fun a hf => zL hf hc sc_39 m4 rfl fun a w hf hc => zP hf rfl (pLenS Tryz.underlying39 rfl) fun a hf => sp 2 hf rfl fun a hf => cNil ⟨hf.kp rfl,hc⟩
   ·rw [hb] at hf
    refine stS hf rfl rfl rfl fun a hf => stS hf rfl rfl rfl fun a hf => stS hf rfl rfl rfl fun a hf => stS hf rfl rfl rfl fun a hf => stS hf rfl rfl rfl fun a hf => stS hf rfl rfl rfl fun a hf => sp 1 hf rfl fun a hf => cNil ⟨hf.kp rfl,hc⟩
  intro a w ⟨hf,hc⟩
  refine sp 1 hf rfl fun a hf => zT h ?_
  refine zI hf rfl hF ?_ ?_ <;> clear hF <;> intro hF
  ·refine zS fun K h => zW hf hc sz_3 u1 rfl fun w hc => zW hf hc sz_44 u0 rfl fun w hc => zT h ?_
   refine wp_ret ?_
   refine xBlkR ?_
   refine xThenR ?_
   obtain rfl := sj hF
   replace hc := ((((hc.drop k4).drop k3).drop k2).pick k0).pick k1
   refine outM hf ?_
   exact outM2 Tryz.results12 hf hc (rv_cell1 sc_3 rfl (cell_box m0 rfl)) (rv_cell1 sc_44 rfl (cell_box m1 rfl)) ⟨rfl,((hc.drop k1).drop k0)⟩
  ·refine wp_skip ?_
   refine h3 _ _ ?_
   refine zS fun K h => zA hf hc zr_3 rfl fun b_6 a w hf hc => zA hf hc zr_3 rfl fun b_7 a w hf hc => zW hf hc sz_3 u1 rfl fun w hc => zW hf hc sz_3 u0 rfl fun w hc => zT h ?_
   refine wp_seq_k fun K9 h9 => zS fun K h => zN hf hc ag_41 m6 rfl fun a w hf hc => ?_
   obtain ⟨r_1,hr_1,hF⟩ := bnd_some hF
   refine zC hf en_20 rfl (gauge_Gauging_widths_ok g h_g_Verticals hc hr_1) ?_
   rintro _ w ⟨b_8,rfl,hc⟩
   refine ⟨_,rfl,fun a hf => ?_⟩
   refine zT h ?_
   obtain ⟨x11,hx11,hF⟩ := bnd_some hF
   replace hc := hc.drop k7
   refine cRange (C := [.box b_8 [i6 r_1.1,i6 r_1.2,.slice g_Verticals_p g.Verticals.length g_Verticals_c] 41]) (C2 := [.box b_8 [i6 r_1.1,i6 r_1.2,.slice g_Verticals_p g.Verticals.length g_Verticals_c] 41]) (L0 := [.box b_7 [i6 0] 3,.box b_6 [i6 0] 3,.box b_5 [i6 0] 44,.box b_4 [i6 0] 3,.box b_3 [.slice speeds_p speeds.length speeds_c] 23,.box b_2 [.slice depths_p depths.length depths_c] 23]) (Lf := Lf) (encs := fun x : (gauge_Vertical × Int) => [.agg #[i6 x.1.At,i6 x.1.Depth.Lo,i6 x.1.Depth.Hi,i6 x.1.Speed.Lo,i6 x.1.Speed.Hi],i6 x.2]) (fun (zz : Int × Int × Int) L => L = [.box b_7 [i6 zz.2.2] 3,.box b_6 [i6 zz.2.1] 3,.box b_5 [i6 zz.1] 44,.box b_4 [i6 0] 3,.box b_3 [.slice speeds_p speeds.length speeds_c] 23,.box b_2 [.slice depths_p depths.length depths_c] 23]) (fun (zz : Int × Int × Int) (ix_ : (gauge_Vertical × Int)) => gauge_Real_r11 N depths speeds zz.1 zz.2.1 zz.2.2 ix_.1 ix_.2) (0,0,0) x11 hf hc rfl en_43 (fun _ => rfl) rfl rfl ?_ ?_ ?_ ?_
   ·intro lq mq J L Lx w hy hJ hc
    exact gauge_Gauging_widths_1_ok (⟨r_1.1,r_1.2,g.Verticals⟩ : gauge_Gauging) h_g_Verticals J _ hy _ hJ hc hx11
   ·clear hF hf hc
    rintro lq mq ⟨x,x_1,x_2⟩ ⟨xv,xv_1⟩ oq _ Lr Lb a w hK0 rfl hF hf hc hK
    replace hf : Has 80 a [(4,pq b_2),(5,pq b_3),(6,pq b_4),(7,pq b_5),(9,pq b_6),(10,pq b_7),(36,.agg #[i6 xv.At,i6 xv.Depth.Lo,i6 xv.Depth.Hi,i6 xv.Speed.Lo,i6 xv.Speed.Hi]),(37,i6 xv_1)] := hf.kp rfl
    replace hc : Ctx G (.box b_7 [i6 x_2] 3::.box b_6 [i6 x_1] 3::.box b_5 [i6 x] 44::.box b_4 [i6 0] 3::.box b_3 [.slice speeds_p speeds.length speeds_c] 23::.box b_2 [.slice depths_p depths.length depths_c] 23::Lr) w := hc
    replace hF : gauge_Real_r11 N depths speeds x x_1 x_2 xv xv_1 = some oq := hF
    unfold gauge_Real_r11 at hF
    refine rSeq fun K12 h12 => rReg (fun _ _ h => h) rfl ?_
    refine zA hf hc zr_49 rfl fun b_9 a w hf hc => zW hf hc sz_49 u0 rfl fun w hc => cNil ?_
    refine h12 _ _ ?_
    refine rReg (fun _ _ h => h) rfl ?_
    refine sp 1 hf rfl fun a hf => cNil ?_
    refine hK _ _ [.box b_9 [i6 xv.At,i6 xv.Depth.Lo,i6 xv.Depth.Hi,i6 xv.Speed.Lo,i6 xv.Speed.Hi] 49,.box b_7 [i6 x_2] 3,.box b_6 [i6 x_1] 3,.box b_5 [i6 x] 44,.box b_4 [i6 0] 3,.box b_3 [.slice speeds_p speeds.length speeds_c] 23,.box b_2 [.slice depths_p depths.length depths_c] 23] hc fun w hc => ?_
    replace hc : Ctx G (.box b_9 [i6 xv.At,i6 xv.Depth.Lo,i6 xv.Depth.Hi,i6 xv.Speed.Lo,i6 xv.Speed.Hi] 49::.box b_7 [i6 x_2] 3::.box b_6 [i6 x_1] 3::.box b_5 [i6 x] 44::.box b_4 [i6 0] 3::.box b_3 [.slice speeds_p speeds.length speeds_c] 23::.box b_2 [.slice depths_p depths.length depths_c] 23::Lb) w := hc
    refine rThenK fun K13 h13 => rBlock ?_
    refine rSeq fun K14 h14 => rSeq fun K15 h15 => ?_
    obtain ⟨rg,hrg,hF⟩ := bnd_some hF
    refine rCut (fun a w => Has 80 a [(4,pq b_2),(5,pq b_3),(6,pq b_4),(7,pq b_5),(9,pq b_6),(10,pq b_7),(12,i6 xv_1),(63,.bool rg)] ∧ Ctx G (.box b_7 [i6 x_2] 3::.box b_6 [i6 x_1] 3::.box b_5 [i6 x] 44::.box b_4 [i6 0] 3::.box b_3 [.slice speeds_p speeds.length speeds_c] 23::.box b_2 [.slice depths_p depths.length depths_c] 23::Lb) w) ?_ ?_
    ·clear hF
     have hF := hrg
     clear hrg
     obtain ⟨e_1,he_1,hF⟩ := bnd_some hF
     obtain ⟨b_10,o,qa,qp⟩ := h_depths.atm he_1
     cases hb : (!(gauge_in e_1 xv.Depth.Lo xv.Depth.Hi))
     ·replace hF := condF hb hF
      try rw [hb] at hf
      try rw [hb] at hc
      have hb1 := hb
      clear hb
      obtain ⟨e_2,he_2,hF⟩ := bnd_some hF
      obtain ⟨b_11,o_1,qa_1,qp_1⟩ := h_speeds.atm he_2
      refine rRegE (fun _ _ h => h) rfl (fun θ => (⟨none,none,4,pq b_2⟩::⟨none,none,5,pq b_3⟩::⟨none,none,6,pq b_4⟩::⟨none,none,7,pq b_5⟩::⟨none,none,9,pq b_6⟩::⟨none,none,10,pq b_7⟩::⟨none,none,11,pq b_9⟩::⟨none,none,12,i6 xv_1⟩::⟨some 0,none,38,.slice depths_p depths.length depths_c⟩::⟨some 1,none,39,i6 x_2⟩::⟨some 2,none,40,.pointer (some ⟨b_10,o,none⟩)⟩::⟨some 3,none,41,i6 e_1⟩::⟨some 4,none,42,.pointer (some ⟨b_9,1,none⟩)⟩::⟨some 5,none,43,.pointer (some ⟨b_9,1,none⟩)⟩::⟨some 6,none,44,i6 xv.Depth.Lo⟩::⟨some 7,none,45,.pointer (some ⟨b_9,1,none⟩)⟩::⟨some 8,none,46,.pointer (some ⟨b_9,2,none⟩)⟩::⟨some 9,none,47,i6 xv.Depth.Hi⟩::⟨some 10,none,48,.bool (gauge_in e_1 xv.Depth.Lo xv.Depth.Hi)⟩::⟨some 11,none,49,.bool false⟩::⟨some 12,none,50,.bool false⟩::⟨some 13,none,51,.slice speeds_p speeds.length speeds_c⟩::⟨some 14,none,52,i6 x_2⟩::⟨some 15,none,53,.pointer (some ⟨b_11,o_1,none⟩)⟩::⟨some 16,none,54,i6 e_2⟩::⟨some 17,none,55,.pointer (some ⟨b_9,3,none⟩)⟩::⟨some 18,none,56,.pointer (some ⟨b_9,3,none⟩)⟩::⟨some 19,none,57,i6 xv.Speed.Lo⟩::⟨some 20,none,58,.pointer (some ⟨b_9,3,none⟩)⟩::⟨some 21,none,59,.pointer (some ⟨b_9,4,none⟩)⟩::⟨some 22,none,60,i6 xv.Speed.Hi⟩::⟨some 23,none,61,.bool (gauge_in e_2 xv.Speed.Lo xv.Speed.Hi)⟩::⟨some 24,none,62,.bool (!(gauge_in e_2 xv.Speed.Lo xv.Speed.Hi))⟩::⟨some 25,none,63,.bool (!(gauge_in e_2 xv.Speed.Lo xv.Speed.Hi))⟩::[])) (fun E θ => .box b_9 [i6 xv.At,i6 xv.Depth.Lo,i6 xv.Depth.Hi,i6 xv.Speed.Lo,i6 xv.Speed.Hi] 49::.box b_7 [i6 x_2] 3::.box b_6 [i6 x_1] 3::.box b_5 [i6 x] 44::.box b_4 [i6 0] 3::.box b_3 [.slice speeds_p speeds.length speeds_c] 23::.box b_2 [.slice depths_p depths.length depths_c] 23::Lb) [] (fun a w => Has 80 a [(4,pq b_2),(5,pq b_3),(6,pq b_4),(7,pq b_5),(9,pq b_6),(10,pq b_7),(12,i6 xv_1),(51,.slice speeds_p speeds.length speeds_c),(52,i6 x_2),(53,.pointer (some ⟨b_11,o_1,none⟩)),(54,i6 e_2),(55,.pointer (some ⟨b_9,3,none⟩)),(56,.pointer (some ⟨b_9,3,none⟩)),(57,i6 xv.Speed.Lo),(58,.pointer (some ⟨b_9,3,none⟩)),(59,.pointer (some ⟨b_9,4,none⟩)),(60,i6 xv.Speed.Hi),(61,.bool (gauge_in e_2 xv.Speed.Lo xv.Speed.Hi)),(62,.bool (!(gauge_in e_2 xv.Speed.Lo xv.Speed.Hi))),(63,.bool (!(gauge_in e_2 xv.Speed.Lo xv.Speed.Hi)))] ∧ Ctx G (.box b_9 [i6 xv.At,i6 xv.Depth.Lo,i6 xv.Depth.Hi,i6 xv.Speed.Lo,i6 xv.Speed.Hi] 49::.box b_7 [i6 x_2] 3::.box b_6 [i6 x_1] 3::.box b_5 [i6 x] 44::.box b_4 [i6 0] 3::.box b_3 [.slice speeds_p speeds.length speeds_c] 23::.box b_2 [.slice depths_p depths.length depths_c] 23::Lb) w) follows_mx (by kernel_rfl) (by kernel_rfl) (HasE.of hf ⟨rfl,rfl,rfl,rfl,rfl,rfl,rfl,rfl,trivial,trivial,trivial,trivial,trivial,trivial,trivial,trivial,trivial,trivial,trivial,trivial,trivial,trivial,trivial,trivial,trivial,trivial,trivial,trivial,trivial,trivial,trivial,trivial,trivial,trivial,trivial⟩) hc ⟨?_,?_,?_,?_,?_,?_,?_,?_,?_,?_,?_,?_,?_,?_,?_,?_,?_,?_,?_,?_,?_,?_,?_,?_,?_,?_,trivial⟩ ?_ ?_
      ·intro E θ a w hD hi hp he hc
       have hf := he.h0.mT he 0 rfl
       refine zL hf hc sc_23 m6 rfl fun a w hf hc => zD θ he hi hf 8 rfl rfl rfl hc
      ·intro E θ a w hD hi hp he hc
       have hf := he.h0.mT he 5 rfl
       refine zL hf hc sc_3 m1 rfl fun a w hf hc => zD θ he hi hf 9 rfl rfl rfl hc
      ·intro E θ a w hD hi hp he hc
       have e0 := hp.o 0 rfl
       have e1 := hp.o 1 rfl
       have hf := (he.h0.mP he 8 rfl e0).mP he 9 rfl e1
       refine zP hf rfl (pIA Tryz.underlying23 sz_3 rfl rfl qa) fun a hf => zD θ he hi hf 10 rfl rfl rfl hc
      ·intro E θ a w hD hi hp he hc
       have e2 := hp.o 2 rfl
       have hf := he.h0.mP he 10 rfl e2
       refine zE hf hc rfl (eLd1 sc_3 rfl (cell_pc (j := 0) qp rfl)) fun a w hf hc => zD θ he hi hf 11 rfl rfl rfl hc
      ·intro E θ a w hD hi hp he hc
       have hf := he.h0.mT he 6 rfl
       refine zP hf rfl (pFA fa_49_1 rfl) fun a hf => zD θ he hi hf 12 rfl rfl rfl hc
      ·intro E θ a w hD hi hp he hc
       have e4 := hp.o 4 rfl
       have hf := he.h0.mP he 12 rfl e4
       refine zP hf rfl (pFA fa_43_0 rfl) fun a hf => zD θ he hi hf 13 rfl rfl rfl hc
      ·intro E θ a w hD hi hp he hc
       have e5 := hp.o 5 rfl
       have hf := he.h0.mP he 13 rfl e5
       refine zL hf hc sc_3 m0 rfl fun a w hf hc => zD θ he hi hf 14 rfl rfl rfl hc
      ·intro E θ a w hD hi hp he hc
       have hf := he.h0.mT he 6 rfl
       refine zP hf rfl (pFA fa_49_1 rfl) fun a hf => zD θ he hi hf 15 rfl rfl rfl hc
      ·intro E θ a w hD hi hp he hc
       have e7 := hp.o 7 rfl
       have hf := he.h0.mP he 15 rfl e7
       refine zP hf rfl (pFA fa_43_1 rfl) fun a hf => zD θ he hi hf 16 rfl rfl rfl hc
      ·intro E θ a w hD hi hp he hc
       have e8 := hp.o 8 rfl
       have hf := he.h0.mP he 16 rfl e8
       refine zL hf hc sc_3 m0 rfl fun a w hf hc => zD θ he hi hf 17 rfl rfl rfl hc
      ·intro E θ a w hD hi hp he hc
       have e3 := hp.o 3 rfl
       have e6 := hp.o 6 rfl
       have e9 := hp.o 9 rfl
       have hf := ((he.h0.mP he 11 rfl e3).mP he 14 rfl e6).mP he 17 rfl e9
       refine zQ (v := .bool (gauge_in e_1 xv.Depth.Lo xv.Depth.Hi)) hf hc en_21 rfl (fun w hc => gauge_in_ok e_1 xv.Depth.Lo xv.Depth.Hi hc rfl) fun a w hf hc => zD θ he hi hf 18 rfl rfl rfl hc
      ·intro E θ a w hD hi hp he hc
       have e10 := hp.o 10 rfl
       have hf := he.h0.mP he 18 rfl e10
       refine sp 1 hf rfl fun a hf => ?_
       rw [hb1] at hf
       exact zD θ he hi hf 19 rfl rfl rfl hc
      ·intro E θ a w hD hi hp he hc
       have e11 := hp.o 11 rfl
       have hf := he.h0.mP he 19 rfl e11
       refine sp 1 hf rfl fun a hf => zD θ he hi hf 20 rfl rfl rfl hc
      ·intro E θ a w hD hi hp he hc
       have e12 := hp.o 12 rfl
       have hf := (he.h0.mT he 1 rfl).mP he 20 rfl e12
       refine zL hf hc sc_23 m5 rfl fun a w hf hc => zD θ he hi hf 21 rfl rfl rfl hc
      ·intro E θ a w hD hi hp he hc
       have e12 := hp.o 12 rfl
       have hf := (he.h0.mT he 5 rfl).mP he 20 rfl e12
       refine zL hf hc sc_3 m1 rfl fun a w hf hc => zD θ he hi hf 22 rfl rfl rfl hc
      ·intro E θ a w hD hi hp he hc
       have e12 := hp.o 12 rfl
       have e13 := hp.o 13 rfl
       have e14 := hp.o 14 rfl
       have hf := ((he.h0.mP he 20 rfl e12).mP he 21 rfl e13).mP he 22 rfl e14
       refine zP hf rfl (pIA Tryz.underlying23 sz_3 rfl rfl qa_1) fun a hf => zD θ he hi hf 23 rfl rfl rfl hc
      ·intro E θ a w hD hi hp he hc
       have e12 := hp.o 12 rfl
       have e15 := hp.o 15 rfl
       have hf := (he.h0.mP he 20 rfl e12).mP he 23 rfl e15
       refine zE hf hc rfl (eLd1 sc_3 rfl (cell_pc (j := 0) qp_1 rfl)) fun a w hf hc => zD θ he hi hf 24 rfl rfl rfl hc
      ·intro E θ a w hD hi hp he hc
       have e12 := hp.o 12 rfl
       have hf := (he.h0.mT he 6 rfl).mP he 20 rfl e12
       refine zP hf rfl (pFA fa_49_2 rfl) fun a hf => zD θ he hi hf 25 rfl rfl rfl hc
      ·intro E θ a w hD hi hp he hc
       have e12 := hp.o 12 rfl
       have e17 := hp.o 17 rfl
       have hf := (he.h0.mP he 20 rfl e12).mP he 25 rfl e17
       refine zP hf rfl (pFA fa_43_0 rfl) fun a hf => zD θ he hi hf 26 rfl rfl rfl hc
      ·intro E θ a w hD hi hp he hc
       have e12 := hp.o 12 rfl
       have e18 := hp.o 18 rfl
       have hf := (he.h0.mP he 20 rfl e12).mP he 26 rfl e18
       refine zL hf hc sc_3 m0 rfl fun a w hf hc => zD θ he hi hf 27 rfl rfl rfl hc
      ·intro E θ a w hD hi hp he hc
       have e12 := hp.o 12 rfl
       have hf := (he.h0.mT he 6 rfl).mP he 20 rfl e12
       refine zP hf rfl (pFA fa_49_2 rfl) fun a hf => zD θ he hi hf 28 rfl rfl rfl hc
      ·intro E θ a w hD hi hp he hc
       have e12 := hp.o 12 rfl
       have e20 := hp.o 20 rfl
       have hf := (he.h0.mP he 20 rfl e12).mP he 28 rfl e20
       refine zP hf rfl (pFA fa_43_1 rfl) fun a hf => zD θ he hi hf 29 rfl rfl rfl hc
      ·intro E θ a w hD hi hp he hc
       have e12 := hp.o 12 rfl
       have e21 := hp.o 21 rfl
       have hf := (he.h0.mP he 20 rfl e12).mP he 29 rfl e21
       refine zL hf hc sc_3 m0 rfl fun a w hf hc => zD θ he hi hf 30 rfl rfl rfl hc
      ·intro E θ a w hD hi hp he hc
       have e12 := hp.o 12 rfl
       have e16 := hp.o 16 rfl
       have e19 := hp.o 19 rfl
       have e22 := hp.o 22 rfl
       have hf := (((he.h0.mP he 20 rfl e12).mP he 24 rfl e16).mP he 27 rfl e19).mP he 30 rfl e22
       refine zQ (v := .bool (gauge_in e_2 xv.Speed.Lo xv.Speed.Hi)) hf hc en_21 rfl (fun w hc => gauge_in_ok e_2 xv.Speed.Lo xv.Speed.Hi hc rfl) fun a w hf hc => zD θ he hi hf 31 rfl rfl rfl hc
      ·intro E θ a w hD hi hp he hc
       have e12 := hp.o 12 rfl
       have e23 := hp.o 23 rfl
       have hf := (he.h0.mP he 20 rfl e12).mP he 31 rfl e23
       refine sp 1 hf rfl fun a hf => zD θ he hi hf 32 rfl rfl rfl hc
      ·intro E θ a w hD hi hp he hc
       have e12 := hp.o 12 rfl
       have e24 := hp.o 24 rfl
       have hf := (he.h0.mP he 20 rfl e12).mP he 32 rfl e24
       refine sp 1 hf rfl fun a hf => zD θ he hi hf 33 rfl rfl rfl hc
      ·intro E θ a w hall he hc
       have hf := he.h0
       have e13 := hall 13 rfl
       have e14 := hall 14 rfl
       have e15 := hall 15 rfl
       have e16 := hall 16 rfl
       have e17 := hall 17 rfl
       have e18 := hall 18 rfl
       have e19 := hall 19 rfl
       have e20 := hall 20 rfl
       have e21 := hall 21 rfl
       have e22 := hall 22 rfl
       have e23 := hall 23 rfl
       have e24 := hall 24 rfl
       have e25 := hall 25 rfl
       replace hf := hf.more he 33 rfl (onP e25)
       replace hf := hf.more he 32 rfl (onP e24)
       replace hf := hf.more he 31 rfl (onP e23)
       replace hf := hf.more he 30 rfl (onP e22)
       replace hf := hf.more he 29 rfl (onP e21)
       replace hf := hf.more he 28 rfl (onP e20)
       replace hf := hf.more he 27 rfl (onP e19)
       replace hf := hf.more he 26 rfl (onP e18)
       replace hf := hf.more he 25 rfl (onP e17)
       replace hf := hf.more he 24 rfl (onP e16)
       replace hf := hf.more he 23 rfl (onP e15)
       replace hf := hf.more he 22 rfl (onP e14)
       replace hf := hf.more he 21 rfl (onP e13)
       replace hf := hf.more he 7 rfl (onT)
       replace hf := hf.more he 5 rfl (onT)
       replace hf := hf.more he 4 rfl (onT)
       replace hf := hf.more he 3 rfl (onT)
       replace hf := hf.more he 2 rfl (onT)
       replace hf := hf.more he 1 rfl (onT)
       replace hf := hf.more he 0 rfl (onT)
       exact ⟨hf.kp rfl,hc⟩
      rintro a w ⟨hf,hc⟩
      refine xThenN ?_
      obtain rfl := sj hF
      replace hc := hc.drop k0
      exact ⟨hf.kp rfl,hc⟩
     ·replace hF := condT hb hF
      try rw [hb] at hf
      try rw [hb] at hc
      have hb1 := hb
      clear hb
      refine rRegE (fun _ _ h => h) rfl (fun θ => (⟨none,none,4,pq b_2⟩::⟨none,none,5,pq b_3⟩::⟨none,none,6,pq b_4⟩::⟨none,none,7,pq b_5⟩::⟨none,none,9,pq b_6⟩::⟨none,none,10,pq b_7⟩::⟨none,none,11,pq b_9⟩::⟨none,none,12,i6 xv_1⟩::⟨some 0,none,38,.slice depths_p depths.length depths_c⟩::⟨some 1,none,39,i6 x_2⟩::⟨some 2,none,40,.pointer (some ⟨b_10,o,none⟩)⟩::⟨some 3,none,41,i6 e_1⟩::⟨some 4,none,42,.pointer (some ⟨b_9,1,none⟩)⟩::⟨some 5,none,43,.pointer (some ⟨b_9,1,none⟩)⟩::⟨some 6,none,44,i6 xv.Depth.Lo⟩::⟨some 7,none,45,.pointer (some ⟨b_9,1,none⟩)⟩::⟨some 8,none,46,.pointer (some ⟨b_9,2,none⟩)⟩::⟨some 9,none,47,i6 xv.Depth.Hi⟩::⟨some 10,none,48,.bool (gauge_in e_1 xv.Depth.Lo xv.Depth.Hi)⟩::⟨some 11,none,49,.bool true⟩::⟨some 12,none,50,.bool true⟩::⟨some 13,none,51,undef⟩::⟨some 14,none,52,undef⟩::⟨some 15,none,53,undef⟩::⟨some 16,none,54,undef⟩::⟨some 17,none,55,undef⟩::⟨some 18,none,56,undef⟩::⟨some 19,none,57,undef⟩::⟨some 20,none,58,undef⟩::⟨some 21,none,59,undef⟩::⟨some 22,none,60,undef⟩::⟨some 23,none,61,undef⟩::⟨some 24,none,62,undef⟩::⟨some 25,none,63,.bool true⟩::[])) (fun E θ => .box b_9 [i6 xv.At,i6 xv.Depth.Lo,i6 xv.Depth.Hi,i6 xv.Speed.Lo,i6 xv.Speed.Hi] 49::.box b_7 [i6 x_2] 3::.box b_6 [i6 x_1] 3::.box b_5 [i6 x] 44::.box b_4 [i6 0] 3::.box b_3 [.slice speeds_p speeds.length speeds_c] 23::.box b_2 [.slice depths_p depths.length depths_c] 23::Lb) [] (fun a w => Has 80 a [(4,pq b_2),(5,pq b_3),(6,pq b_4),(7,pq b_5),(9,pq b_6),(10,pq b_7),(12,i6 xv_1),(51,undef),(52,undef),(53,undef),(54,undef),(55,undef),(56,undef),(57,undef),(58,undef),(59,undef),(60,undef),(61,undef),(62,undef),(63,.bool true)] ∧ Ctx G (.box b_9 [i6 xv.At,i6 xv.Depth.Lo,i6 xv.Depth.Hi,i6 xv.Speed.Lo,i6 xv.Speed.Hi] 49::.box b_7 [i6 x_2] 3::.box b_6 [i6 x_1] 3::.box b_5 [i6 x] 44::.box b_4 [i6 0] 3::.box b_3 [.slice speeds_p speeds.length speeds_c] 23::.box b_2 [.slice depths_p depths.length depths_c] 23::Lb) w) follows_mx (by kernel_rfl) (by kernel_rfl) (HasE.of hf ⟨rfl,rfl,rfl,rfl,rfl,rfl,rfl,rfl,trivial,trivial,trivial,trivial,trivial,trivial,trivial,trivial,trivial,trivial,trivial,trivial,trivial,trivial,trivial,trivial,trivial,trivial,trivial,trivial,trivial,trivial,trivial,trivial,trivial,trivial,trivial⟩) hc ⟨?_,?_,?_,?_,?_,?_,?_,?_,?_,?_,?_,?_,?_,?_,?_,?_,?_,?_,?_,?_,?_,?_,?_,?_,?_,?_,trivial⟩ ?_ ?_
      ·intro E θ a w hD hi hp he hc
       have hf := he.h0.mT he 0 rfl
       refine zL hf hc sc_23 m6 rfl fun a w hf hc => zD θ he hi hf 8 rfl rfl rfl hc
      ·intro E θ a w hD hi hp he hc
       have hf := he.h0.mT he 5 rfl
       refine zL hf hc sc_3 m1 rfl fun a w hf hc => zD θ he hi hf 9 rfl rfl rfl hc
      ·intro E θ a w hD hi hp he hc
       have e0 := hp.o 0 rfl
       have e1 := hp.o 1 rfl
       have hf := (he.h0.mP he 8 rfl e0).mP he 9 rfl e1
       refine zP hf rfl (pIA Tryz.underlying23 sz_3 rfl rfl qa) fun a hf => zD θ he hi hf 10 rfl rfl rfl hc
      ·intro E θ a w hD hi hp he hc
       have e2 := hp.o 2 rfl
       have hf := he.h0.mP he 10 rfl e2
       refine zE hf hc rfl (eLd1 sc_3 rfl (cell_pc (j := 0) qp rfl)) fun a w hf hc => zD θ he hi hf 11 rfl rfl rfl hc
      ·intro E θ a w hD hi hp he hc
       have hf := he.h0.mT he 6 rfl
       refine zP hf rfl (pFA fa_49_1 rfl) fun a hf => zD θ he hi hf 12 rfl rfl rfl hc
      ·intro E θ a w hD hi hp he hc
       have e4 := hp.o 4 rfl
       have hf := he.h0.mP he 12 rfl e4
       refine zP hf rfl (pFA fa_43_0 rfl) fun a hf => zD θ he hi hf 13 rfl rfl rfl hc
      ·intro E θ a w hD hi hp he hc
       have e5 := hp.o 5 rfl
       have hf := he.h0.mP he 13 rfl e5
       refine zL hf hc sc_3 m0 rfl fun a w hf hc => zD θ he hi hf 14 rfl rfl rfl hc
      ·intro E θ a w hD hi hp he hc
       have hf := he.h0.mT he 6 rfl
       refine zP hf rfl (pFA fa_49_1 rfl) fun a hf => zD θ he hi hf 15 rfl rfl rfl hc
      ·intro E θ a w hD hi hp he hc
       have e7 := hp.o 7 rfl
       have hf := he.h0.mP he 15 rfl e7
       refine zP hf rfl (pFA fa_43_1 rfl) fun a hf => zD θ he hi hf 16 rfl rfl rfl hc
      ·intro E θ a w hD hi hp he hc
       have e8 := hp.o 8 rfl
       have hf := he.h0.mP he 16 rfl e8
       refine zL hf hc sc_3 m0 rfl fun a w hf hc => zD θ he hi hf 17 rfl rfl rfl hc
      ·intro E θ a w hD hi hp he hc
       have e3 := hp.o 3 rfl
       have e6 := hp.o 6 rfl
       have e9 := hp.o 9 rfl
       have hf := ((he.h0.mP he 11 rfl e3).mP he 14 rfl e6).mP he 17 rfl e9
       refine zQ (v := .bool (gauge_in e_1 xv.Depth.Lo xv.Depth.Hi)) hf hc en_21 rfl (fun w hc => gauge_in_ok e_1 xv.Depth.Lo xv.Depth.Hi hc rfl) fun a w hf hc => zD θ he hi hf 18 rfl rfl rfl hc
      ·intro E θ a w hD hi hp he hc
       have e10 := hp.o 10 rfl
       have hf := he.h0.mP he 18 rfl e10
       refine sp 1 hf rfl fun a hf => ?_
       rw [hb1] at hf
       exact zD θ he hi hf 19 rfl rfl rfl hc
      ·intro E θ a w hD hi hp he hc
       have e11 := hp.o 11 rfl
       have hf := he.h0.mP he 19 rfl e11
       refine sp 1 hf rfl fun a hf => zD θ he hi hf 20 rfl rfl rfl hc
      ·intro E θ a w hD hi hp he hc
       have e12 := hp.o 12 rfl
       have hf := (he.h0.mT he 1 rfl).mP he 20 rfl e12
       refine stS hf rfl rfl rfl fun a hf => zD θ he hi hf 21 rfl rfl rfl hc
      ·intro E θ a w hD hi hp he hc
       have e12 := hp.o 12 rfl
       have hf := (he.h0.mT he 5 rfl).mP he 20 rfl e12
       refine stS hf rfl rfl rfl fun a hf => zD θ he hi hf 22 rfl rfl rfl hc
      ·intro E θ a w hD hi hp he hc
       have e12 := hp.o 12 rfl
       have e13 := hp.o 13 rfl
       have e14 := hp.o 14 rfl
       have hf := ((he.h0.mP he 20 rfl e12).mP he 21 rfl e13).mP he 22 rfl e14
       refine stS hf rfl rfl rfl fun a hf => zD θ he hi hf 23 rfl rfl rfl hc
      ·intro E θ a w hD hi hp he hc
       have e12 := hp.o 12 rfl
       have e15 := hp.o 15 rfl
       have hf := (he.h0.mP he 20 rfl e12).mP he 23 rfl e15
       refine stS hf rfl rfl rfl fun a hf => zD θ he hi hf 24 rfl rfl rfl hc
      ·intro E θ a w hD hi hp he hc
       have e12 := hp.o 12 rfl
       have hf := (he.h0.mT he 6 rfl).mP he 20 rfl e12
       refine stS hf rfl rfl rfl fun a hf => zD θ he hi hf 25 rfl rfl rfl hc
      ·intro E θ a w hD hi hp he hc
       have e12 := hp.o 12 rfl
       have e17 := hp.o 17 rfl
       have hf := (he.h0.mP he 20 rfl e12).mP he 25 rfl e17
       refine stS hf rfl rfl rfl fun a hf => zD θ he hi hf 26 rfl rfl rfl hc
      ·intro E θ a w hD hi hp he hc
       have e12 := hp.o 12 rfl
       have e18 := hp.o 18 rfl
       have hf := (he.h0.mP he 20 rfl e12).mP he 26 rfl e18
       refine stS hf rfl rfl rfl fun a hf => zD θ he hi hf 27 rfl rfl rfl hc
      ·intro E θ a w hD hi hp he hc
       have e12 := hp.o 12 rfl
       have hf := (he.h0.mT he 6 rfl).mP he 20 rfl e12
       refine stS hf rfl rfl rfl fun a hf => zD θ he hi hf 28 rfl rfl rfl hc
      ·intro E θ a w hD hi hp he hc
       have e12 := hp.o 12 rfl
       have e20 := hp.o 20 rfl
       have hf := (he.h0.mP he 20 rfl e12).mP he 28 rfl e20
       refine stS hf rfl rfl rfl fun a hf => zD θ he hi hf 29 rfl rfl rfl hc
      ·intro E θ a w hD hi hp he hc
       have e12 := hp.o 12 rfl
       have e21 := hp.o 21 rfl
       have hf := (he.h0.mP he 20 rfl e12).mP he 29 rfl e21
       refine stS hf rfl rfl rfl fun a hf => zD θ he hi hf 30 rfl rfl rfl hc
      ·intro E θ a w hD hi hp he hc
       have e12 := hp.o 12 rfl
       have e16 := hp.o 16 rfl
       have e19 := hp.o 19 rfl
       have e22 := hp.o 22 rfl
       have hf := (((he.h0.mP he 20 rfl e12).mP he 24 rfl e16).mP he 27 rfl e19).mP he 30 rfl e22
       refine stS hf rfl rfl rfl fun a hf => zD θ he hi hf 31 rfl rfl rfl hc
      ·intro E θ a w hD hi hp he hc
       have e12 := hp.o 12 rfl
       have e23 := hp.o 23 rfl
       have hf := (he.h0.mP he 20 rfl e12).mP he 31 rfl e23
       refine stS hf rfl rfl rfl fun a hf => zD θ he hi hf 32 rfl rfl rfl hc
      ·intro E θ a w hD hi hp he hc
       have e12 := hp.o 12 rfl
       have e24 := hp.o 24 rfl
       have hf := (he.h0.mP he 20 rfl e12).mP he 32 rfl e24
       refine sp 1 hf rfl fun a hf => zD θ he hi hf 33 rfl rfl rfl hc
      ·intro E θ a w hall he hc
       have hf := he.h0
       have e13 := hall 13 rfl
       have e14 := hall 14 rfl
       have e15 := hall 15 rfl
       have e16 := hall 16 rfl
       have e17 := hall 17 rfl
       have e18 := hall 18 rfl
       have e19 := hall 19 rfl
       have e20 := hall 20 rfl
       have e21 := hall 21 rfl
       have e22 := hall 22 rfl
       have e23 := hall 23 rfl
       have e24 := hall 24 rfl
       have e25 := hall 25 rfl
       replace hf := hf.more he 33 rfl (onP e25)
       replace hf := hf.more he 32 rfl (onP e24)
       replace hf := hf.more he 31 rfl (onP e23)
       replace hf := hf.more he 30 rfl (onP e22)
       replace hf := hf.more he 29 rfl (onP e21)
       replace hf := hf.more he 28 rfl (onP e20)
       replace hf := hf.more he 27 rfl (onP e19)
       replace hf := hf.more he 26 rfl (onP e18)
       replace hf := hf.more he 25 rfl (onP e17)
       replace hf := hf.more he 24 rfl (onP e16)
       replace hf := hf.more he 23 rfl (onP e15)
       replace hf := hf.more he 22 rfl (onP e14)
       replace hf := hf.more he 21 rfl (onP e13)
       replace hf := hf.more he 7 rfl (onT)
       replace hf := hf.more he 5 rfl (onT)
       replace hf := hf.more he 4 rfl (onT)
       replace hf := hf.more he 3 rfl (onT)
       replace hf := hf.more he 2 rfl (onT)
       replace hf := hf.more he 1 rfl (onT)
       replace hf := hf.more he 0 rfl (onT)
       exact ⟨hf.kp rfl,hc⟩
      rintro a w ⟨hf,hc⟩
      refine xThenN ?_
      obtain rfl := sj hF
      replace hc := hc.drop k0
      exact ⟨hf.kp rfl,hc⟩
    rintro a w ⟨hf,hc⟩
    refine h15 _ _ ?_
    refine rCond (b := rg) hf rfl (fun hb => ?_) (fun hb => ?_)
    ·replace hF := condT hb hF
     clear hb
     refine rSeq fun K16 h16 => rReg (fun _ _ h => h) rfl ?_
     refine zW hf hc sz_3 u3 rfl fun w hc => zW hf hc sz_44 u2 rfl fun w hc => cNil ?_
     refine h16 _ _ ?_
     refine rRet ?_
     refine xThenR ?_
     refine xBlkR ?_
     refine xThenR ?_
     exact ⟨(7,x_1,x_2),_,(sj hF).symm,rfl,hc⟩
    ·replace hF := condF hb hF
     clear hb
     refine rSkip ?_
     refine h14 _ _ ?_
     refine rSeq fun K17 h17 => ?_
     obtain ⟨e_3,he_3,hF⟩ := bnd_some hF
     obtain ⟨b_12,o_2,qa_2,qp_2⟩ := h_depths.atm he_3
     obtain ⟨e_4,he_4,hF⟩ := bnd_some hF
     obtain ⟨b_13,o_3,qa_3,qp_3⟩ := h_speeds.atm he_4
     refine rRegE (fun _ _ h => h) rfl (fun θ => [⟨none,none,4,pq b_2⟩,⟨none,none,5,pq b_3⟩,⟨none,none,6,pq b_4⟩,⟨none,none,7,pq b_5⟩,⟨none,none,9,pq b_6⟩,⟨none,none,10,pq b_7⟩,⟨none,none,12,i6 xv_1⟩,⟨some 0,none,64,i6 x_1⟩,⟨some 1,none,65,i6 xv_1⟩,⟨some 2,none,66,.slice depths_p depths.length depths_c⟩,⟨some 3,none,67,i6 x_2⟩,⟨some 4,none,68,.pointer (some ⟨b_12,o_2,none⟩)⟩,⟨some 5,none,69,i6 e_3⟩,⟨some 6,none,70,i6 (W (xv_1 * e_3))⟩,⟨some 7,none,71,.slice speeds_p speeds.length speeds_c⟩,⟨some 8,none,72,i6 x_2⟩,⟨some 9,none,73,.pointer (some ⟨b_13,o_3,none⟩)⟩,⟨some 10,none,74,i6 e_4⟩,⟨some 11,none,75,i6 (W ((W (xv_1 * e_3)) * e_4))⟩,⟨some 12,none,76,i6 (W (x_1 + (W ((W (xv_1 * e_3)) * e_4))))⟩]) (fun E θ => .box b_7 [i6 x_2] 3::(bif E 13 then .box b_6 [i6 (W (x_1 + (W ((W (xv_1 * e_3)) * e_4))))] 3 else .box b_6 [i6 x_1] 3)::.box b_5 [i6 x] 44::.box b_4 [i6 0] 3::.box b_3 [.slice speeds_p speeds.length speeds_c] 23::.box b_2 [.slice depths_p depths.length depths_c] 23::Lb) [(13,0)] (fun a w => Has 80 a [(4,pq b_2),(5,pq b_3),(6,pq b_4),(7,pq b_5),(9,pq b_6),(10,pq b_7)] ∧ Ctx G (.box b_7 [i6 x_2] 3::.box b_6 [i6 (W (x_1 + (W ((W (xv_1 * e_3)) * e_4))))] 3::.box b_5 [i6 x] 44::.box b_4 [i6 0] 3::.box b_3 [.slice speeds_p speeds.length speeds_c] 23::.box b_2 [.slice depths_p depths.length depths_c] 23::Lb) w) follows_mx (by kernel_rfl) (by kernel_rfl) (HasE.of hf ⟨rfl,rfl,rfl,rfl,rfl,rfl,rfl,trivial,trivial,trivial,trivial,trivial,trivial,trivial,trivial,trivial,trivial,trivial,trivial,trivial,trivial⟩) hc ⟨?_,?_,?_,?_,?_,?_,?_,?_,?_,?_,?_,?_,?_,?_,trivial⟩ ?_ ?_
     ·intro E θ a w hD hi hp he hc
      have e13 := hD.f 0 rfl hi
      try dsimp only at hc
      rw [e13] at hc
      have hf := he.h0.mT he 4 rfl
      refine zL hf hc sc_3 m1 rfl fun a w hf hc => zD θ he hi hf 7 rfl rfl rfl ?_
      try dsimp only
      rw [updE_fls 0 e13 rfl]
      exact hc
     ·intro E θ a w hD hi hp he hc
      have hf := he.h0.mT he 6 rfl
      refine sp 1 hf rfl fun a hf => zD θ he hi hf 8 rfl rfl rfl hc
     ·intro E θ a w hD hi hp he hc
      have hf := he.h0.mT he 0 rfl
      refine zL hf hc sc_23 m5 rfl fun a w hf hc => zD θ he hi hf 9 rfl rfl rfl hc
     ·intro E θ a w hD hi hp he hc
      have hf := he.h0.mT he 5 rfl
      refine zL hf hc sc_3 m0 rfl fun a w hf hc => zD θ he hi hf 10 rfl rfl rfl hc
     ·intro E θ a w hD hi hp he hc
      have e2 := hp.o 2 rfl
      have e3 := hp.o 3 rfl
      have hf := (he.h0.mP he 9 rfl e2).mP he 10 rfl e3
      refine zP hf rfl (pIA Tryz.underlying23 sz_3 rfl rfl qa_2) fun a hf => zD θ he hi hf 11 rfl rfl rfl hc
     ·intro E θ a w hD hi hp he hc
      have e4 := hp.o 4 rfl
      have hf := he.h0.mP he 11 rfl e4
      refine zE hf hc rfl (eLd1 sc_3 rfl (cell_pc (j := 0) qp_2 rfl)) fun a w hf hc => zD θ he hi hf 12 rfl rfl rfl hc
     ·intro E θ a w hD hi hp he hc
      have e1 := hp.o 1 rfl
      have e5 := hp.o 5 rfl
      have hf := (he.h0.mP he 8 rfl e1).mP he 12 rfl e5
      refine sp 1 hf rfl fun a hf => zD θ he hi hf 13 rfl rfl rfl hc
     ·intro E θ a w hD hi hp he hc
      have hf := he.h0.mT he 1 rfl
      refine zL hf hc sc_23 m4 rfl fun a w hf hc => zD θ he hi hf 14 rfl rfl rfl hc
     ·intro E θ a w hD hi hp he hc
      have hf := he.h0.mT he 5 rfl
      refine zL hf hc sc_3 m0 rfl fun a w hf hc => zD θ he hi hf 15 rfl rfl rfl hc
     ·intro E θ a w hD hi hp he hc
      have e7 := hp.o 7 rfl
      have e8 := hp.o 8 rfl
      have hf := (he.h0.mP he 14 rfl e7).mP he 15 rfl e8
      refine zP hf rfl (pIA Tryz.underlying23 sz_3 rfl rfl qa_3) fun a hf => zD θ he hi hf 16 rfl rfl rfl hc
     ·intro E θ a w hD hi hp he hc
      have e9 := hp.o 9 rfl
      have hf := he.h0.mP he 16 rfl e9
      refine zE hf hc rfl (eLd1 sc_3 rfl (cell_pc (j := 0) qp_3 rfl)) fun a w hf hc => zD θ he hi hf 17 rfl rfl rfl hc
     ·intro E θ a w hD hi hp he hc
      have e6 := hp.o 6 rfl
      have e10 := hp.o 10 rfl
      have hf := (he.h0.mP he 13 rfl e6).mP he 17 rfl e10
      refine sp 1 hf rfl fun a hf => zD θ he hi hf 18 rfl rfl rfl hc
     ·intro E θ a w hD hi hp he hc
      have e0 := hp.o 0 rfl
      have e11 := hp.o 11 rfl
      have hf := (he.h0.mP he 7 rfl e0).mP he 18 rfl e11
      refine sp 1 hf rfl fun a hf => zD θ he hi hf 19 rfl rfl rfl hc
     ·intro E θ a w hD hi hp he hc
      have e12 := hp.o 12 rfl
      try dsimp only at hc
      rw [hi] at hc
      have hf := (he.h0.mT he 4 rfl).mP he 19 rfl e12
      refine zW hf hc sz_3 u1 rfl fun w hc => zG θ he hi hf rfl ?_
      try dsimp only
      rw [updE_self E 13]
      exact hc
     ·intro E θ a w hall he hc
      have hf := he.h0
      have e13 := hall 13 rfl
      replace hf := hf.more he 5 rfl (onT)
      replace hf := hf.more he 4 rfl (onT)
      replace hf := hf.more he 3 rfl (onT)
      replace hf := hf.more he 2 rfl (onT)
      replace hf := hf.more he 1 rfl (onT)
      replace hf := hf.more he 0 rfl (onT)
      try dsimp only at hc
      rw [e13] at hc
      exact ⟨hf.kp rfl,hc⟩
     rintro a w ⟨hf,hc⟩
     refine h17 _ _ ?_
     refine rReg (fun _ _ h => h) rfl ?_
     refine zL hf hc sc_3 m0 rfl fun a w hf hc => sp 1 hf rfl fun a hf => zW hf hc sz_3 u0 rfl fun w hc => cNil ?_
     refine h13 _ _ ?_
     exact ⟨(x,W (x_1 + (W ((W (xv_1 * e_3)) * e_4))),W (x_2 + 1)),_,(sj hF).symm,rfl,hc⟩
   ·rintro D_1 ⟨x,x_1,x_2⟩ _ a w hsF rfl hf hc
    replace hf : Has ⟨80,markL (D_1::[])⟩ a [(4,pq b_2),(5,pq b_3),(6,pq b_4),(7,pq b_5),(9,pq b_6),(10,pq b_7)] := hf.kp rfl
    replace hc : Ctx G (.box b_8 [i6 r_1.1,i6 r_1.2,.slice g_Verticals_p g.Verticals.length g_Verticals_c] 41::.box b_7 [i6 x_2] 3::.box b_6 [i6 x_1] 3::.box b_5 [i6 x] 44::.box b_4 [i6 0] 3::.box b_3 [.slice speeds_p speeds.length speeds_c] 23::.box b_2 [.slice depths_p depths.length depths_c] 23::(raws (D_1::[]) ++ Lf)) w := rawsIn (C := [.box b_8 [i6 r_1.1,i6 r_1.2,.slice g_Verticals_p g.Verticals.length g_Verticals_c] 41]) (L := [.box b_7 [i6 x_2] 3,.box b_6 [i6 x_1] 3,.box b_5 [i6 x] 44,.box b_4 [i6 0] 3,.box b_3 [.slice speeds_p speeds.length speeds_c] 23,.box b_2 [.slice depths_p depths.length depths_c] 23]) hc
    replace hF : (some (x_1,0)) = some res := by rcases hsF with rfl | rfl <;> exact hF
    refine h9 _ _ ?_
    refine zS fun K h => zL hf hc sc_3 m2 rfl fun a w hf hc => zW hf hc sz_3 u4 rfl fun w hc => zW hf hc sz_44 u3 rfl fun w hc => zT h ?_
    refine wp_ret ?_
    obtain rfl := sj hF
    replace hc := ((((((hc.drop k6).drop k5).drop k2).drop k1).drop k0).pick k0).pick k1
    refine outM hf ?_
    refine outML [.box b_4 [i6 x_1] 3,.box b_5 [i6 0] 44] (D_1::[]) hc fun w hc => ?_
    replace hc : Ctx G (.box b_4 [i6 x_1] 3::.box b_5 [i6 0] 44::Lf) w := hc
    exact outM2 Tryz.results12 hf hc (rv_cell1 sc_3 rfl (cell_box m0 rfl)) (rv_cell1 sc_44 rfl (cell_box m1 rfl)) ⟨rfl,((hc.drop k1).drop k0)⟩
   ·rintro D_1 ⟨x,x_1,x_2⟩ _ a w hsF rfl hf hc
    replace hf : Has ⟨80,markL (D_1::[])⟩ a [(4,pq b_2),(5,pq b_3),(6,pq b_4),(7,pq b_5),(9,pq b_6),(10,pq b_7)] := hf.kp rfl
    replace hc : Ctx G (.box b_8 [i6 r_1.1,i6 r_1.2,.slice g_Verticals_p g.Verticals.length g_Verticals_c] 41::.box b_7 [i6 x_2] 3::.box b_6 [i6 x_1] 3::.box b_5 [i6 x] 44::.box b_4 [i6 0] 3::.box b_3 [.slice speeds_p speeds.length speeds_c] 23::.box b_2 [.slice depths_p depths.length depths_c] 23::(raws (D_1::[]) ++ Lf)) w := rawsIn (C := [.box b_8 [i6 r_1.1,i6 r_1.2,.slice g_Verticals_p g.Verticals.length g_Verticals_c] 41]) (L := [.box b_7 [i6 x_2] 3,.box b_6 [i6 x_1] 3,.box b_5 [i6 x] 44,.box b_4 [i6 0] 3,.box b_3 [.slice speeds_p speeds.length speeds_c] 23,.box b_2 [.slice depths_p depths.length depths_c] 23]) hc
    replace hF : (some (0,x)) = some res := by subst hsF; exact hF
    refine xThenR ?_
    obtain rfl := sj hF
    replace hc := ((((((hc.drop k6).drop k5).drop k2).drop k1).drop k0).pick k0).pick k1
    refine outM hf ?_
    refine outML [.box b_4 [i6 0] 3,.box b_5 [i6 x] 44] (D_1::[]) hc fun w hc => ?_
    replace hc : Ctx G (.box b_4 [i6 0] 3::.box b_5 [i6 x] 44::Lf) w := hc
    exact outM2 Tryz.results12 hf hc (rv_cell1 sc_3 rfl (cell_box m0 rfl)) (rv_cell1 sc_44 rfl (cell_box m1 rfl)) ⟨rfl,((hc.drop k1).drop k0)⟩

def law03_Two (N : Nat)  : Option (gauge_Gauging) :=
 Option.bind (law03_span N 10 10) fun r =>
 Option.bind (law03_span N 100 110) fun r_1 =>
 Option.bind (law03_span N 20 21) fun r_2 =>
 Option.bind (law03_span N (-5) 200) fun r_3 =>
 some (⟨0,100,([(⟨20,r,r_1⟩ : gauge_Vertical),(⟨60,r_2,r_3⟩ : gauge_Vertical)] : List gauge_Vertical)⟩ : gauge_Gauging)
theorem law03_Two_ok {N : Nat} {G : Pers} {Lf : List Ent} {w : World}    (hc : Ctx G (Lf) w) {res : gauge_Gauging} (hF : law03_Two N = some res) : Calls Tryz.prog 22 #[] w (fun e w => ∃ (p'1 : Option Addr) (c'1 : Nat),e = .returned (.agg #[i6 res.Left,i6 res.Right,.slice p'1 res.Verticals.length c'1]) ∧ Ctx G (.row p'1 c'1 (res.Verticals.map enc_gauge_Vertical) 49 5::Lf) w) := by
 unfold law03_Two at hF
 refine fnIn Tryz.func22 rfl Tryz.ntmps22 rfl fun a hf => zS fun K h => zA hf hc zr_41 rfl fun b_1 a w hf hc => zT h ?_
 refine zS fun K h => ?_
 obtain ⟨r,hr,hF⟩ := bnd_some hF
 refine zQ (v := .agg #[i6 r.Lo,i6 r.Hi]) hf hc en_10 rfl (fun w hc => law03_span_ok 10 10 hc hr) fun a w hf hc => ?_
 obtain ⟨r_1,hr_1,hF⟩ := bnd_some hF
 refine zQ (v := .agg #[i6 r_1.Lo,i6 r_1.Hi]) hf hc en_10 rfl (fun w hc => law03_span_ok 100 110 hc hr_1) fun a w hf hc => zP hf rfl (pBuildS (cells := [i6 20,i6 r.Lo,i6 r.Hi,i6 r_1.Lo,i6 r_1.Hi]) bt_49 rfl rfl) fun a hf => ?_
 obtain ⟨r_2,hr_2,hF⟩ := bnd_some hF
 refine zQ (v := .agg #[i6 r_2.Lo,i6 r_2.Hi]) hf hc en_10 rfl (fun w hc => law03_span_ok 20 21 hc hr_2) fun a w hf hc => ?_
 obtain ⟨r_3,hr_3,hF⟩ := bnd_some hF
 refine zQ (v := .agg #[i6 r_3.Lo,i6 r_3.Hi]) hf hc en_10 rfl (fun w hc => law03_span_ok (-5) 200 hc hr_3) fun a w hf hc => zP hf rfl (pBuildS (cells := [i6 60,i6 r_2.Lo,i6 r_2.Hi,i6 r_3.Lo,i6 r_3.Hi]) bt_49 rfl rfl) fun a hf => stBS (rows := ([(⟨20,r,r_1⟩ : gauge_Vertical),(⟨60,r_2,r_3⟩ : gauge_Vertical)] : List gauge_Vertical).map enc_gauge_Vertical) (vs := [(0,.agg #[i6 20,i6 r.Lo,i6 r.Hi,i6 r_1.Lo,i6 r_1.Hi]),(1,.agg #[i6 60,i6 r_2.Lo,i6 r_2.Hi,i6 r_3.Lo,i6 r_3.Hi])]) hf hc rfl rfl sl_39 rfl ⟨rfl,rfl,rfl,rfl,rfl,rfl,trivial⟩ rfl rfl fun b_2 a w hf hc => zP hf rfl (pBuildS (cells := [i6 0,i6 100,.slice (some ⟨b_2,0,none⟩) 2 2]) bt_41 rfl rfl) fun a hf => zW hf hc sz_41 u1 rfl fun w hc => zT h ?_
 refine wp_ret ?_
 obtain rfl := sj hF
 exact fnOut1 (by simp) rfl Tryz.results22 hf hc (rv_cellN (vs := [i6 0,i6 100,.slice (some ⟨b_2,0,none⟩) 2 2]) ag_41 rfl rfl (cells_box (n := 3) m1 rfl)) ⟨(some ⟨b_2,0,none⟩),2,rfl,(hc.drop k1)⟩

def gauge_high  : Unit :=
 ()
theorem gauge_high_ok {G : Pers} {Lf : List Ent} {w : World}    (hc : Ctx G (Lf) w) {res : Unit} (hF : gauge_high = res) : Calls Tryz.prog 45 #[] w (fun e w => e = .returned (.agg #[.func (.func 68) #[] #[]]) ∧ Ctx G (Lf) w) := by
 unfold gauge_high at hF
 refine fnIn Tryz.func45 rfl Tryz.ntmps45 rfl fun a hf => zS fun K h => zA hf hc zr_114 rfl fun b_1 a w hf hc => zT h ?_
 refine zS fun K h => zP hf rfl (pBuildS (cells := [.func (.func 68) #[] #[]]) bt_114 rfl rfl) fun a hf => zW hf hc sz_114 u0 rfl fun w hc => zT h ?_
 refine wp_ret ?_
 obtain rfl := hF
 exact fnOut1 (by simp) rfl Tryz.results45 hf hc (rv_cellN (vs := [.func (.func 68) #[] #[]]) ag_114 rfl rfl (cells_box (n := 1) m0 rfl)) ⟨rfl,(hc.drop k0)⟩

def gauge_low  : Unit :=
 ()
theorem gauge_low_ok {G : Pers} {Lf : List Ent} {w : World}    (hc : Ctx G (Lf) w) {res : Unit} (hF : gauge_low = res) : Calls Tryz.prog 46 #[] w (fun e w => e = .returned (.agg #[.func (.func 69) #[] #[]]) ∧ Ctx G (Lf) w) := by
 unfold gauge_low at hF
 refine fnIn Tryz.func46 rfl Tryz.ntmps46 rfl fun a hf => zS fun K h => zA hf hc zr_114 rfl fun b_1 a w hf hc => zT h ?_
 refine zS fun K h => zP hf rfl (pBuildS (cells := [.func (.func 69) #[] #[]]) bt_114 rfl rfl) fun a hf => zW hf hc sz_114 u0 rfl fun w hc => zT h ?_
 refine wp_ret ?_
 obtain rfl := hF
 exact fnOut1 (by simp) rfl Tryz.results46 hf hc (rv_cellN (vs := [.func (.func 69) #[] #[]]) ag_114 rfl rfl (cells_box (n := 1) m0 rfl)) ⟨rfl,(hc.drop k0)⟩

def gauge_high_1 (s_ : api_Span) : Int :=
 s_.Hi
theorem gauge_high_1_ok {G : Pers} {Lf : List Ent} {w : World} (s_ : api_Span)   (hc : Ctx G (Lf) w) {res : Int} (hF : gauge_high_1 s_ = res) : Calls Tryz.prog 68 #[.agg #[i6 s_.Lo,i6 s_.Hi]] w (fun e w => e = .returned (i6 res) ∧ Ctx G (Lf) w) := by
 unfold gauge_high_1 at hF
 refine fnIn Tryz.func68 rfl Tryz.ntmps68 rfl fun a hf => zS fun K h => zB hf hc rfl fun b_1 a w hf hc => sp 1 hf rfl fun a hf => zT h ?_
 refine zS fun K h => zP hf rfl (pFA fa_43_1 rfl) fun a hf => zL hf hc sc_3 m0 rfl fun a w hf hc => sp 1 hf rfl fun a hf => zT h ?_
 refine wp_ret ?_
 obtain rfl := hF
 replace hc := hc.drop k0
 exact zO1 Tryz.results68 hf rfl ⟨rfl,hc⟩

def gauge_low_1 (s_ : api_Span) : Int :=
 s_.Lo
theorem gauge_low_1_ok {G : Pers} {Lf : List Ent} {w : World} (s_ : api_Span)   (hc : Ctx G (Lf) w) {res : Int} (hF : gauge_low_1 s_ = res) : Calls Tryz.prog 69 #[.agg #[i6 s_.Lo,i6 s_.Hi]] w (fun e w => e = .returned (i6 res) ∧ Ctx G (Lf) w) := by
 unfold gauge_low_1 at hF
 refine fnIn Tryz.func69 rfl Tryz.ntmps69 rfl fun a hf => zS fun K h => zB hf hc rfl fun b_1 a w hf hc => sp 1 hf rfl fun a hf => zT h ?_
 refine zS fun K h => zP hf rfl (pFA fa_43_0 rfl) fun a hf => zL hf hc sc_3 m0 rfl fun a w hf hc => sp 1 hf rfl fun a hf => zT h ?_
 refine wp_ret ?_
 obtain rfl := hF
 replace hc := hc.drop k0
 exact zO1 Tryz.results69 hf rfl ⟨rfl,hc⟩

def gauge_heavy_j9 (N : Nat) (x : Int) (out_1 : List Int) : Option (Step ((List Int) × Int) ((List Int))) :=
 some (.cont (out_1,W (x + 1)))
def gauge_heavy_j18 (N : Nat) (x_1 : Int) (all_1 : Int) : Option (Step (Int × Int) (Step ((List Int) × Int) ((List Int)))) :=
 some (.cont (all_1,W (x_1 + 1)))
def gauge_heavy_b14 (N : Nat) (l : List api_Span) (x : Int) (all : Int) (x_1 : Int) : Option (Step (Int × Int) (Step ((List Int) × Int) ((List Int)))) :=
 cond (decide (x_1 < ((l.length : Nat) : Int)))
 (Option.bind (getI l x_1) fun e_2 =>
 cond (x_1 == x)
 (gauge_heavy_j18 N x_1 (W (all + (gauge_high_1 e_2))))
 (gauge_heavy_j18 N x_1 (W (all + (gauge_low_1 e_2)))))
 (some (.brk (all,x_1)))
def gauge_heavy_b5 (N : Nat) (l : List api_Span) (permille : Int) (out : List Int) (x : Int) : Option (Step ((List Int) × Int) ((List Int))) :=
 cond (decide (x < ((l.length : Nat) : Int)))
 (Option.bind (loopO (fun s14 => gauge_heavy_b14 N l x s14.1 s14.2) N (0,0)) fun x14 =>
 exK x14 (fun s14 => Option.bind (getI l x) fun e_1 =>
 cond (decide ((W (permille * s14.1)) < (W (1000 * (gauge_high_1 e_1)))))
 (Option.bind (room ((out ++ [x])).length) fun un =>
 gauge_heavy_j9 N x (out ++ [x]))
 (gauge_heavy_j9 N x out)) some)
 (some (.brk (out,x)))
def gauge_heavy (N : Nat) (l : List api_Span) (permille : Int) : Option ((List Int)) :=
 Option.bind (loopO (fun s5 => gauge_heavy_b5 N l permille s5.1 s5.2) N (([] : List Int),0)) fun x5 =>
 exK x5 (fun s5 => some s5.1) some
theorem gauge_heavy_ok {N : Nat} {G : Pers} {Lf : List Ent} {w : World} (l : List api_Span) (permille : Int) {l_p : Option Addr} {l_c : Nat} (h_l : Rd G 2 l_p l_c (l.map enc_api_Span)) (hc : Ctx G (Lf) w) {res : (List Int)} (hF : gauge_heavy N l permille = some res) : Calls Tryz.prog 44 #[.slice l_p l.length l_c,i6 permille,.agg #[.func (.func 68) #[] #[]],.agg #[.func (.func 69) #[] #[]]] w (fun e w => ∃ (p'1 : Option Addr) (c'1 : Nat),e = .returned (.slice p'1 res.length c'1) ∧ Ctx G (.row p'1 c'1 (res.map encI_i64) 3 1::Lf) w) := by
 unfold gauge_heavy at hF
 refine fnIn Tryz.func44 rfl Tryz.ntmps44 rfl fun a hf => zS fun K h => zB hf hc rfl fun b_1 a w hf hc => zB hf hc rfl fun b_2 a w hf hc => sp 1 hf rfl fun a hf => zT h ?_
 refine zS fun K h => sp 1 hf rfl fun a hf => zT h ?_
 refine wp_seq_k fun K3 h3 => zS fun K h => sp 1 hf rfl fun a hf => zP hf rfl (pLenS Tryz.underlying37 rfl) fun a hf => sp 1 hf rfl fun a hf => zT h ?_
 refine wp_block ?_
 obtain ⟨x5,hx5,hF⟩ := bnd_some hF
 let S5 : ((List Int) × Int) → Act → World → Prop := (fun (zz : (List Int) × Int) a w => ∃ (p_1 : Option Addr) (c_1 : Nat),Has 60 a [(0,.slice l_p l.length l_c),(1,i6 permille),(6,pq b_1),(7,pq b_2),(9,.slice p_1 zz.1.length c_1),(15,i6 ((l.length : Nat) : Int)),(16,i6 zz.2)] ∧ Ctx G (.row p_1 c_1 (zz.1.map encI_i64) 3 1::.box b_2 [.func (.func 69) #[] #[]] 114::.box b_1 [.func (.func 68) #[] #[]] 114::Lf) w)
 have hr5 : ∀ (zz : (List Int) × Int) a w,x5 = .go zz → S5 zz a w → K3 a w := by
  rintro ⟨out,x⟩ a w rfl ⟨p_1,c_1,hf,hc⟩
  replace hF := exK_go hF
  refine h3 _ _ ?_
  refine zS fun K h => sp 2 hf rfl fun a hf => zT h ?_
  refine wp_ret ?_
  obtain rfl := sj hF
  replace hc := (hc.drop k2).drop k1
  exact zO1 Tryz.results44 hf rfl ⟨p_1,c_1,rfl,hc⟩
 have ho5 : ∀ r,x5 = .out r → r = res := by
  rintro r rfl
  exact sj hF
 replace hc := hc.nilRow 3 1
 refine cLoop N (loopW (S := S5) (x := x5) ?_ N (([] : List Int),0) _ _ ⟨none,0,hf.kp rfl,hc⟩ hx5)
 clear hF hf hc
 rintro ⟨out,x⟩ st5 a w KB5 ⟨p_1,c_1,hf,hc⟩ hF hfin5 hK5
 unfold gauge_heavy_b5 at hF
 refine zS fun K h => sp 1 hf rfl fun a hf => zT h ?_
 refine wp_seq_k fun K8 h8 => zI hf rfl hF ?_ ?_ <;> clear hF <;> intro hF
 ·refine wp_skip ?_
  refine h8 _ _ ?_
  refine wp_seq_k fun K9 h9 => ?_
  have hj9 : ∀ (out_1 : List Int) (p_2 : Option Addr) (c_2 : Nat) a w,Has 60 a [(0,.slice l_p l.length l_c),(1,i6 permille),(6,pq b_1),(7,pq b_2),(9,.slice p_2 out_1.length c_2),(15,i6 ((l.length : Nat) : Int)),(16,i6 x)] → Ctx G (.row p_2 c_2 (out_1.map encI_i64) 3 1::.box b_2 [.func (.func 69) #[] #[]] 114::.box b_1 [.func (.func 68) #[] #[]] 114::Lf) w → gauge_heavy_j9 N x out_1 = some st5 → K9 a w := by
   repeat (clear hF)
   repeat (clear hc)
   repeat (clear hf)
   intro out_1 p_2 c_2 a w hf hc hF
   unfold gauge_heavy_j9 at hF
   refine h9 _ _ ?_
   refine cReg ?_
   refine sp 2 hf rfl fun a hf => cNil ?_
   exact hK5 (out_1,W (x + 1)) _ _ (sj hF).symm ⟨p_2,c_2,hf.kp rfl,hc⟩
  refine wp_block ?_
  refine zS fun K h => sp 2 hf rfl fun a hf => zT h ?_
  refine zS fun K h => sp 1 hf rfl fun a hf => zT h ?_
  refine wp_seq_k fun K12 h12 => zS fun K h => sp 1 hf rfl fun a hf => zP hf rfl (pLenS Tryz.underlying37 rfl) fun a hf => sp 1 hf rfl fun a hf => zT h ?_
  refine wp_block ?_
  obtain ⟨x14,hx14,hF⟩ := bnd_some hF
  let S14 : (Int × Int) → Act → World → Prop := (fun (zz : Int × Int) a w => Has 60 a [(0,.slice l_p l.length l_c),(1,i6 permille),(6,pq b_1),(7,pq b_2),(9,.slice p_1 out.length c_1),(10,i6 x),(11,i6 zz.1),(15,i6 ((l.length : Nat) : Int)),(16,i6 x),(19,.slice l_p l.length l_c),(20,i6 ((l.length : Nat) : Int)),(21,i6 zz.2)] ∧ Ctx G (.row p_1 c_1 (out.map encI_i64) 3 1::.box b_2 [.func (.func 69) #[] #[]] 114::.box b_1 [.func (.func 68) #[] #[]] 114::Lf) w)
  have hr14 : ∀ (zz : Int × Int) a w,x14 = .go zz → S14 zz a w → K12 a w := by
   rintro ⟨all,x_1⟩ a w rfl ⟨hf,hc⟩
   replace hF := exK_go hF
   refine h12 _ _ ?_
   refine wp_seq_k fun K15 h15 => ?_
   obtain ⟨e_1,he_1,hF⟩ := bnd_some hF
   obtain ⟨b_3,o,qa,qp⟩ := h_l.atm he_1
   refine cQ hc follows_mx (by kernel_rfl) ?_
   refine qE hf rfl rfl rfl (Pu.ev (pFA fa_114_0 rfl)) fun a hf => qE hf rfl rfl rfl (eLd1 sc_112 rfl (cell_box m2 rfl)) fun a hf => qE hf rfl rfl rfl (Pu.ev (pM rfl)) fun a hf => qE hf rfl rfl rfl (Pu.ev (pM rfl)) fun a hf => qE hf rfl rfl rfl (Pu.ev (pIA Tryz.underlying37 sz_43 rfl rfl qa)) fun a hf => qE hf rfl rfl rfl (eLdN (vs := [i6 e_1.Lo,i6 e_1.Hi]) ag_43 rfl rfl (cells_pc qp (n := 2) (o' := 0) rfl)) fun a hf => qE hf rfl rfl rfl (eC (v := i6 (gauge_high_1 e_1)) (vs := [.agg #[i6 e_1.Lo,i6 e_1.Hi]]) (caps := []) en_68 rfl rfl rfl rfl (fun w hc => gauge_high_1_ok e_1 hc rfl)) fun a hf => qE hf rfl rfl rfl (Pu.ev (pMul rfl rfl)) fun a hf => qE hf rfl rfl rfl (Pu.ev (pM rfl)) fun a hf => qE hf rfl rfl rfl (Pu.ev (pM rfl)) fun a hf => qE hf rfl rfl rfl (Pu.ev (pMul rfl rfl)) fun a hf => qE hf rfl rfl rfl (Pu.ev (pGt rfl rfl)) fun a hf => ?_
   intro w hc
   refine h15 _ _ ?_
   refine zI hf rfl hF ?_ ?_ <;> clear hF <;> intro hF
   ·refine cReg ?_
    refine sp 2 hf rfl fun a hf => stBS (rows := ([x] : List Int).map encI_i64) (vs := [(0,i6 x)]) hf hc rfl rfl sl_23 rfl ⟨rfl,rfl,rfl,trivial⟩ rfl rfl fun b_4 a w hf hc => ?_
    obtain ⟨un,hun,hF⟩ := bnd_some hF
    refine stApm (xs := out) (ys := ([x] : List Int)) hf hc rfl rfl sl_23 rfl rfl rfl rfl rfl one_encI_i64 (src_row hc m0) (fun _ _ => u1) (by simpa using room_spec hun) fun p_3 c_3 a w hf hc => sp 1 hf rfl fun a hf => cNil ?_
    replace hc := hc.drop k0
    exact hj9 (out ++ [x]) p_3 c_3 _ _  (hf.kp rfl) hc hF
   ·refine wp_skip ?_
    exact hj9 out p_1 c_1 _ _  (hf.kp rfl) hc hF
  have ho14 : ∀ r,x14 = .out r → r = st5 := by
   rintro r rfl
   exact sj hF
  refine cLoop N (loopW (S := S14) (x := x14) ?_ N (0,0) _ _ ⟨hf.kp rfl,hc⟩ hx14)
  clear hF hf hc
  rintro ⟨all,x_1⟩ st14 a w KB14 ⟨hf,hc⟩ hF hfin14 hK14
  unfold gauge_heavy_b14 at hF
  refine zS fun K h => sp 1 hf rfl fun a hf => zT h ?_
  refine wp_seq_k fun K17 h17 => zI hf rfl hF ?_ ?_ <;> clear hF <;> intro hF
  ·refine wp_skip ?_
   refine h17 _ _ ?_
   refine wp_seq_k fun K18 h18 => ?_
   have hj18 : ∀ (all_1 : Int) a w,Has 60 a [(0,.slice l_p l.length l_c),(1,i6 permille),(6,pq b_1),(7,pq b_2),(9,.slice p_1 out.length c_1),(10,i6 x),(11,i6 all_1),(15,i6 ((l.length : Nat) : Int)),(16,i6 x),(19,.slice l_p l.length l_c),(20,i6 ((l.length : Nat) : Int)),(21,i6 x_1)] → Ctx G (.row p_1 c_1 (out.map encI_i64) 3 1::.box b_2 [.func (.func 69) #[] #[]] 114::.box b_1 [.func (.func 68) #[] #[]] 114::Lf) w → gauge_heavy_j18 N x_1 all_1 = some st14 → K18 a w := by
    repeat (clear hF)
    repeat (clear hc)
    repeat (clear hf)
    intro all_1 a w hf hc hF
    unfold gauge_heavy_j18 at hF
    refine h18 _ _ ?_
    refine cReg ?_
    refine sp 2 hf rfl fun a hf => cNil ?_
    exact hK14 (all_1,W (x_1 + 1)) _ _ (sj hF).symm ⟨hf.kp rfl,hc⟩
   refine wp_block ?_
   refine zS fun K h => sp 1 hf rfl fun a hf => ?_
   obtain ⟨e_2,he_2,hF⟩ := bnd_some hF
   obtain ⟨b_5,o_1,qa_1,qp_1⟩ := h_l.atm he_2
   refine zP hf rfl (pIA Tryz.underlying37 sz_43 rfl rfl qa_1) fun a hf => zE hf hc rfl (eLdN (vs := [i6 e_2.Lo,i6 e_2.Hi]) ag_43 rfl rfl (cells_pc qp_1 (n := 2) (o' := 0) rfl)) fun a w hf hc => zA hf hc zr_43 rfl fun b_6 a w hf hc => sp 1 hf rfl fun a hf => zW hf hc sz_43 u0 rfl fun w hc => zT h ?_
   refine zS fun K h => sp 3 hf rfl fun a hf => zT h ?_
   refine zI hf rfl hF ?_ ?_ <;> clear hF <;> intro hF
   ·refine cReg ?_
    refine sp 1 hf rfl fun a hf => zP hf rfl (pFA fa_114_0 rfl) fun a hf => zL hf hc sc_112 m3 rfl fun a w hf hc => zN hf hc ag_43 m0 rfl fun a w hf hc => zQ (v := i6 (gauge_high_1 e_2)) hf hc en_68 rfl (fun w hc => gauge_high_1_ok e_2 hc rfl) fun a w hf hc => sp 2 hf rfl fun a hf => cNil ?_
    replace hc := hc.drop k0
    exact hj18 (W (all + (gauge_high_1 e_2))) _ _  (hf.kp rfl) hc hF
   ·refine cReg ?_
    refine sp 1 hf rfl fun a hf => zP hf rfl (pFA fa_114_0 rfl) fun a hf => zL hf hc sc_112 m2 rfl fun a w hf hc => zN hf hc ag_43 m0 rfl fun a w hf hc => zQ (v := i6 (gauge_low_1 e_2)) hf hc en_69 rfl (fun w hc => gauge_low_1_ok e_2 hc rfl) fun a w hf hc => sp 2 hf rfl fun a hf => cNil ?_
    replace hc := hc.drop k0
    exact hj18 (W (all + (gauge_low_1 e_2))) _ _  (hf.kp rfl) hc hF
  ·refine wp_exit ?_
   refine xThen ?_
   refine xThen ?_
   have he := sj hF
   rw [← he] at hfin14
   refine cHit ?_
   exact hr14 _ _ _ hfin14 ⟨hf.kp rfl,hc⟩
 ·refine wp_exit ?_
  refine xThen ?_
  refine xThen ?_
  have he := sj hF
  rw [← he] at hfin5
  refine cHit ?_
  exact hr5 _ _ _ hfin5 ⟨p_1,c_1,hf.kp rfl,hc⟩

def gauge_heavy_s2_j9 (N : Nat) (x : Int) (out_1 : List Int) : Option (Step ((List Int) × Int) ((List Int))) :=
 some (.cont (out_1,W (x + 1)))
def gauge_heavy_s2_j18 (N : Nat) (x_1 : Int) (all_1 : Int) : Option (Step (Int × Int) (Step ((List Int) × Int) ((List Int)))) :=
 some (.cont (all_1,W (x_1 + 1)))
def gauge_heavy_s2_b14 (N : Nat) (l : List api_Span) (x : Int) (all : Int) (x_1 : Int) : Option (Step (Int × Int) (Step ((List Int) × Int) ((List Int)))) :=
 cond (decide (x_1 < ((l.length : Nat) : Int)))
 (Option.bind (getI l x_1) fun e_2 =>
 cond (x_1 == x)
 (gauge_heavy_s2_j18 N x_1 (W (all + (gauge_low_1 e_2))))
 (gauge_heavy_s2_j18 N x_1 (W (all + (gauge_high_1 e_2)))))
 (some (.brk (all,x_1)))
def gauge_heavy_s2_b5 (N : Nat) (l : List api_Span) (permille : Int) (out : List Int) (x : Int) : Option (Step ((List Int) × Int) ((List Int))) :=
 cond (decide (x < ((l.length : Nat) : Int)))
 (Option.bind (loopO (fun s14 => gauge_heavy_s2_b14 N l x s14.1 s14.2) N (0,0)) fun x14 =>
 exK x14 (fun s14 => Option.bind (getI l x) fun e_1 =>
 cond (decide ((W (permille * s14.1)) < (W (1000 * (gauge_low_1 e_1)))))
 (Option.bind (room ((out ++ [x])).length) fun un =>
 gauge_heavy_s2_j9 N x (out ++ [x]))
 (gauge_heavy_s2_j9 N x out)) some)
 (some (.brk (out,x)))
def gauge_heavy_s2 (N : Nat) (l : List api_Span) (permille : Int) : Option ((List Int)) :=
 Option.bind (loopO (fun s5 => gauge_heavy_s2_b5 N l permille s5.1 s5.2) N (([] : List Int),0)) fun x5 =>
 exK x5 (fun s5 => some s5.1) some
theorem gauge_heavy_s2_ok {N : Nat} {G : Pers} {Lf : List Ent} {w : World} (l : List api_Span) (permille : Int) {l_p : Option Addr} {l_c : Nat} (h_l : Rd G 2 l_p l_c (l.map enc_api_Span)) (hc : Ctx G (Lf) w) {res : (List Int)} (hF : gauge_heavy_s2 N l permille = some res) : Calls Tryz.prog 44 #[.slice l_p l.length l_c,i6 permille,.agg #[.func (.func 69) #[] #[]],.agg #[.func (.func 68) #[] #[]]] w (fun e w => ∃ (p'1 : Option Addr) (c'1 : Nat),e = .returned (.slice p'1 res.length c'1) ∧ Ctx G (.row p'1 c'1 (res.map encI_i64) 3 1::Lf) w) := by
 unfold gauge_heavy_s2 at hF
 refine fnIn Tryz.func44 rfl Tryz.ntmps44 rfl fun a hf => zS fun K h => zB hf hc rfl fun b_1 a w hf hc => zB hf hc rfl fun b_2 a w hf hc => sp 1 hf rfl fun a hf => zT h ?_
 refine zS fun K h => sp 1 hf rfl fun a hf => zT h ?_
 refine wp_seq_k fun K3 h3 => zS fun K h => sp 1 hf rfl fun a hf => zP hf rfl (pLenS Tryz.underlying37 rfl) fun a hf => sp 1 hf rfl fun a hf => zT h ?_
 refine wp_block ?_
 obtain ⟨x5,hx5,hF⟩ := bnd_some hF
 let S5 : ((List Int) × Int) → Act → World → Prop := (fun (zz : (List Int) × Int) a w => ∃ (p_1 : Option Addr) (c_1 : Nat),Has 60 a [(0,.slice l_p l.length l_c),(1,i6 permille),(6,pq b_1),(7,pq b_2),(9,.slice p_1 zz.1.length c_1),(15,i6 ((l.length : Nat) : Int)),(16,i6 zz.2)] ∧ Ctx G (.row p_1 c_1 (zz.1.map encI_i64) 3 1::.box b_2 [.func (.func 68) #[] #[]] 114::.box b_1 [.func (.func 69) #[] #[]] 114::Lf) w)
 have hr5 : ∀ (zz : (List Int) × Int) a w,x5 = .go zz → S5 zz a w → K3 a w := by
  rintro ⟨out,x⟩ a w rfl ⟨p_1,c_1,hf,hc⟩
  replace hF := exK_go hF
  refine h3 _ _ ?_
  refine zS fun K h => sp 2 hf rfl fun a hf => zT h ?_
  refine wp_ret ?_
  obtain rfl := sj hF
  replace hc := (hc.drop k2).drop k1
  exact zO1 Tryz.results44 hf rfl ⟨p_1,c_1,rfl,hc⟩
 have ho5 : ∀ r,x5 = .out r → r = res := by
  rintro r rfl
  exact sj hF
 replace hc := hc.nilRow 3 1
 refine cLoop N (loopW (S := S5) (x := x5) ?_ N (([] : List Int),0) _ _ ⟨none,0,hf.kp rfl,hc⟩ hx5)
 clear hF hf hc
 rintro ⟨out,x⟩ st5 a w KB5 ⟨p_1,c_1,hf,hc⟩ hF hfin5 hK5
 unfold gauge_heavy_s2_b5 at hF
 refine zS fun K h => sp 1 hf rfl fun a hf => zT h ?_
 refine wp_seq_k fun K8 h8 => zI hf rfl hF ?_ ?_ <;> clear hF <;> intro hF
 ·refine wp_skip ?_
  refine h8 _ _ ?_
  refine wp_seq_k fun K9 h9 => ?_
  have hj9 : ∀ (out_1 : List Int) (p_2 : Option Addr) (c_2 : Nat) a w,Has 60 a [(0,.slice l_p l.length l_c),(1,i6 permille),(6,pq b_1),(7,pq b_2),(9,.slice p_2 out_1.length c_2),(15,i6 ((l.length : Nat) : Int)),(16,i6 x)] → Ctx G (.row p_2 c_2 (out_1.map encI_i64) 3 1::.box b_2 [.func (.func 68) #[] #[]] 114::.box b_1 [.func (.func 69) #[] #[]] 114::Lf) w → gauge_heavy_s2_j9 N x out_1 = some st5 → K9 a w := by
   repeat (clear hF)
   repeat (clear hc)
   repeat (clear hf)
   intro out_1 p_2 c_2 a w hf hc hF
   unfold gauge_heavy_s2_j9 at hF
   refine h9 _ _ ?_
   refine cReg ?_
   refine sp 2 hf rfl fun a hf => cNil ?_
   exact hK5 (out_1,W (x + 1)) _ _ (sj hF).symm ⟨p_2,c_2,hf.kp rfl,hc⟩
  refine wp_block ?_
  refine zS fun K h => sp 2 hf rfl fun a hf => zT h ?_
  refine zS fun K h => sp 1 hf rfl fun a hf => zT h ?_
  refine wp_seq_k fun K12 h12 => zS fun K h => sp 1 hf rfl fun a hf => zP hf rfl (pLenS Tryz.underlying37 rfl) fun a hf => sp 1 hf rfl fun a hf => zT h ?_
  refine wp_block ?_
  obtain ⟨x14,hx14,hF⟩ := bnd_some hF
  let S14 : (Int × Int) → Act → World → Prop := (fun (zz : Int × Int) a w => Has 60 a [(0,.slice l_p l.length l_c),(1,i6 permille),(6,pq b_1),(7,pq b_2),(9,.slice p_1 out.length c_1),(10,i6 x),(11,i6 zz.1),(15,i6 ((l.length : Nat) : Int)),(16,i6 x),(19,.slice l_p l.length l_c),(20,i6 ((l.length : Nat) : Int)),(21,i6 zz.2)] ∧ Ctx G (.row p_1 c_1 (out.map encI_i64) 3 1::.box b_2 [.func (.func 68) #[] #[]] 114::.box b_1 [.func (.func 69) #[] #[]] 114::Lf) w)
  have hr14 : ∀ (zz : Int × Int) a w,x14 = .go zz → S14 zz a w → K12 a w := by
   rintro ⟨all,x_1⟩ a w rfl ⟨hf,hc⟩
   replace hF := exK_go hF
   refine h12 _ _ ?_
   refine wp_seq_k fun K15 h15 => ?_
   obtain ⟨e_1,he_1,hF⟩ := bnd_some hF
   obtain ⟨b_3,o,qa,qp⟩ := h_l.atm he_1
   refine cQ hc follows_mx (by kernel_rfl) ?_
   refine qE hf rfl rfl rfl (Pu.ev (pFA fa_114_0 rfl)) fun a hf => qE hf rfl rfl rfl (eLd1 sc_112 rfl (cell_box m2 rfl)) fun a hf => qE hf rfl rfl rfl (Pu.ev (pM rfl)) fun a hf => qE hf rfl rfl rfl (Pu.ev (pM rfl)) fun a hf => qE hf rfl rfl rfl (Pu.ev (pIA Tryz.underlying37 sz_43 rfl rfl qa)) fun a hf => qE hf rfl rfl rfl (eLdN (vs := [i6 e_1.Lo,i6 e_1.Hi]) ag_43 rfl rfl (cells_pc qp (n := 2) (o' := 0) rfl)) fun a hf => qE hf rfl rfl rfl (eC (v := i6 (gauge_low_1 e_1)) (vs := [.agg #[i6 e_1.Lo,i6 e_1.Hi]]) (caps := []) en_69 rfl rfl rfl rfl (fun w hc => gauge_low_1_ok e_1 hc rfl)) fun a hf => qE hf rfl rfl rfl (Pu.ev (pMul rfl rfl)) fun a hf => qE hf rfl rfl rfl (Pu.ev (pM rfl)) fun a hf => qE hf rfl rfl rfl (Pu.ev (pM rfl)) fun a hf => qE hf rfl rfl rfl (Pu.ev (pMul rfl rfl)) fun a hf => qE hf rfl rfl rfl (Pu.ev (pGt rfl rfl)) fun a hf => ?_
   intro w hc
   refine h15 _ _ ?_
   refine zI hf rfl hF ?_ ?_ <;> clear hF <;> intro hF
   ·refine cReg ?_
    refine sp 2 hf rfl fun a hf => stBS (rows := ([x] : List Int).map encI_i64) (vs := [(0,i6 x)]) hf hc rfl rfl sl_23 rfl ⟨rfl,rfl,rfl,trivial⟩ rfl rfl fun b_4 a w hf hc => ?_
    obtain ⟨un,hun,hF⟩ := bnd_some hF
    refine stApm (xs := out) (ys := ([x] : List Int)) hf hc rfl rfl sl_23 rfl rfl rfl rfl rfl one_encI_i64 (src_row hc m0) (fun _ _ => u1) (by simpa using room_spec hun) fun p_3 c_3 a w hf hc => sp 1 hf rfl fun a hf => cNil ?_
    replace hc := hc.drop k0
    exact hj9 (out ++ [x]) p_3 c_3 _ _  (hf.kp rfl) hc hF
   ·refine wp_skip ?_
    exact hj9 out p_1 c_1 _ _  (hf.kp rfl) hc hF
  have ho14 : ∀ r,x14 = .out r → r = st5 := by
   rintro r rfl
   exact sj hF
  refine cLoop N (loopW (S := S14) (x := x14) ?_ N (0,0) _ _ ⟨hf.kp rfl,hc⟩ hx14)
  clear hF hf hc
  rintro ⟨all,x_1⟩ st14 a w KB14 ⟨hf,hc⟩ hF hfin14 hK14
  unfold gauge_heavy_s2_b14 at hF
  refine zS fun K h => sp 1 hf rfl fun a hf => zT h ?_
  refine wp_seq_k fun K17 h17 => zI hf rfl hF ?_ ?_ <;> clear hF <;> intro hF
  ·refine wp_skip ?_
   refine h17 _ _ ?_
   refine wp_seq_k fun K18 h18 => ?_
   have hj18 : ∀ (all_1 : Int) a w,Has 60 a [(0,.slice l_p l.length l_c),(1,i6 permille),(6,pq b_1),(7,pq b_2),(9,.slice p_1 out.length c_1),(10,i6 x),(11,i6 all_1),(15,i6 ((l.length : Nat) : Int)),(16,i6 x),(19,.slice l_p l.length l_c),(20,i6 ((l.length : Nat) : Int)),(21,i6 x_1)] → Ctx G (.row p_1 c_1 (out.map encI_i64) 3 1::.box b_2 [.func (.func 68) #[] #[]] 114::.box b_1 [.func (.func 69) #[] #[]] 114::Lf) w → gauge_heavy_s2_j18 N x_1 all_1 = some st14 → K18 a w := by
    repeat (clear hF)
    repeat (clear hc)
    repeat (clear hf)
    intro all_1 a w hf hc hF
    unfold gauge_heavy_s2_j18 at hF
    refine h18 _ _ ?_
    refine cReg ?_
    refine sp 2 hf rfl fun a hf => cNil ?_
    exact hK14 (all_1,W (x_1 + 1)) _ _ (sj hF).symm ⟨hf.kp rfl,hc⟩
   refine wp_block ?_
   refine zS fun K h => sp 1 hf rfl fun a hf => ?_
   obtain ⟨e_2,he_2,hF⟩ := bnd_some hF
   obtain ⟨b_5,o_1,qa_1,qp_1⟩ := h_l.atm he_2
   refine zP hf rfl (pIA Tryz.underlying37 sz_43 rfl rfl qa_1) fun a hf => zE hf hc rfl (eLdN (vs := [i6 e_2.Lo,i6 e_2.Hi]) ag_43 rfl rfl (cells_pc qp_1 (n := 2) (o' := 0) rfl)) fun a w hf hc => zA hf hc zr_43 rfl fun b_6 a w hf hc => sp 1 hf rfl fun a hf => zW hf hc sz_43 u0 rfl fun w hc => zT h ?_
   refine zS fun K h => sp 3 hf rfl fun a hf => zT h ?_
   refine zI hf rfl hF ?_ ?_ <;> clear hF <;> intro hF
   ·refine cReg ?_
    refine sp 1 hf rfl fun a hf => zP hf rfl (pFA fa_114_0 rfl) fun a hf => zL hf hc sc_112 m3 rfl fun a w hf hc => zN hf hc ag_43 m0 rfl fun a w hf hc => zQ (v := i6 (gauge_low_1 e_2)) hf hc en_69 rfl (fun w hc => gauge_low_1_ok e_2 hc rfl) fun a w hf hc => sp 2 hf rfl fun a hf => cNil ?_
    replace hc := hc.drop k0
    exact hj18 (W (all + (gauge_low_1 e_2))) _ _  (hf.kp rfl) hc hF
   ·refine cReg ?_
    refine sp 1 hf rfl fun a hf => zP hf rfl (pFA fa_114_0 rfl) fun a hf => zL hf hc sc_112 m2 rfl fun a w hf hc => zN hf hc ag_43 m0 rfl fun a w hf hc => zQ (v := i6 (gauge_high_1 e_2)) hf hc en_68 rfl (fun w hc => gauge_high_1_ok e_2 hc rfl) fun a w hf hc => sp 2 hf rfl fun a hf => cNil ?_
    replace hc := hc.drop k0
    exact hj18 (W (all + (gauge_high_1 e_2))) _ _  (hf.kp rfl) hc hF
  ·refine wp_exit ?_
   refine xThen ?_
   refine xThen ?_
   have he := sj hF
   rw [← he] at hfin14
   refine cHit ?_
   exact hr14 _ _ _ hfin14 ⟨hf.kp rfl,hc⟩
 ·refine wp_exit ?_
  refine xThen ?_
  refine xThen ?_
  have he := sj hF
  rw [← he] at hfin5
  refine cHit ?_
  exact hr5 _ _ _ hfin5 ⟨p_1,c_1,hf.kp rfl,hc⟩

def gauge_Heavy_j3 (N : Nat) (permille : Int) (r : (List api_Span) × Int) (e_1 : Int) : Option ((List Int) × (List Int) × Int) :=
 cond (e_1 != 0)
 (some (([] : List Int),([] : List Int),e_1))
 (Option.bind (gauge_heavy N r.1 permille) fun r_1 =>
 Option.bind (gauge_heavy_s2 N r.1 permille) fun r_2 =>
 some (r_1,r_2,0))
def gauge_Heavy (N : Nat) (g : gauge_Gauging) (permille : Int) : Option ((List Int) × (List Int) × Int) :=
 Option.bind (gauge_Panels N g) fun r =>
 cond ((r.2 == 0) && (!(gauge_in permille 0 1000)))
 (gauge_Heavy_j3 N permille r 4)
 (gauge_Heavy_j3 N permille r r.2)
theorem gauge_Heavy_ok {N : Nat} {G : Pers} {Lf : List Ent} {w : World} (g : gauge_Gauging) (permille : Int) {g_Verticals_p : Option Addr} {g_Verticals_c : Nat} (h_g_Verticals : Rd G 5 g_Verticals_p g_Verticals_c (g.Verticals.map enc_gauge_Vertical)) (hc : Ctx G (Lf) w) {res : (List Int) × (List Int) × Int} (hF : gauge_Heavy N g permille = some res) : Calls Tryz.prog 23 #[.agg #[i6 g.Left,i6 g.Right,.slice g_Verticals_p g.Verticals.length g_Verticals_c],i6 permille] w (fun e w => ∃ (p'1 : Option Addr) (c'1 : Nat) (p'2 : Option Addr) (c'2 : Nat),e = .returned (.tuple #[.slice p'1 res.1.length c'1,.slice p'2 res.2.1.length c'2,i6 res.2.2]) ∧ Ctx G (.row p'1 c'1 (res.1.map encI_i64) 3 1::.row p'2 c'2 (res.2.1.map encI_i64) 3 1::Lf) w) := by
 unfold gauge_Heavy at hF
 refine fnIn Tryz.func23 rfl Tryz.ntmps23 rfl fun a hf => zS fun K h => zB hf hc rfl fun b_1 a w hf hc => sp 3 hf rfl fun a hf => zT h ?_
 refine zS fun K h => zN hf hc ag_41 m0 rfl fun a w hf hc => ?_
 obtain ⟨r,hr,hF⟩ := bnd_some hF
 refine zC hf en_17 rfl (gauge_Panels_ok g h_g_Verticals hc hr) ?_
 rintro _ w ⟨p_1,c_1,rfl,hc⟩
 refine ⟨_,rfl,fun a hf => ?_⟩
 refine sp 5 hf rfl fun a hf => zT h ?_
 refine wp_seq_k fun K3 h3 => ?_
 have hj3 : ∀ (e_1 : Int) a w,Has 33 a [(1,i6 permille),(6,i6 e_1),(7,.slice p_1 r.1.length c_1)] → Ctx G (.row p_1 c_1 (r.1.map enc_api_Span) 43 2::Lf) w → gauge_Heavy_j3 N permille r e_1 = some res → K3 a w := by
  repeat (clear hF)
  repeat (clear hc)
  repeat (clear hf)
  intro e_1 a w hf hc hF
  unfold gauge_Heavy_j3 at hF
  refine h3 _ _ ?_
  refine wp_seq_k fun K4 h4 => zS fun K h => sp 2 hf rfl fun a hf => zT h ?_
  refine zI hf rfl hF ?_ ?_ <;> clear hF <;> intro hF
  ·refine zS fun K h => sp 4 hf rfl fun a hf => zT h ?_
   refine wp_ret ?_
   refine xThenR ?_
   obtain rfl := sj hF
   replace hc := hc.nilRow 3 1
   replace hc := hc.nilRow 3 1
   replace hc := ((hc.drop k2).pick k0).pick k1
   exact zO3 Tryz.results23 hf rfl rfl rfl ⟨none,0,none,0,rfl,hc⟩
  ·refine wp_skip ?_
   refine h4 _ _ ?_
   refine zS fun K h => sp 2 hf rfl fun a hf => zQ (v := .agg #[.func (.func 68) #[] #[]]) hf hc en_45 rfl (fun w hc => gauge_high_ok hc rfl) fun a w hf hc => zQ (v := .agg #[.func (.func 69) #[] #[]]) hf hc en_46 rfl (fun w hc => gauge_low_ok hc rfl) fun a w hf hc => ?_
   obtain ⟨r_1,hr_1,hF⟩ := bnd_some hF
   obtain ⟨G1,hle1,hrd1,hc,hth1⟩ := lend hc k0
   refine zC hf en_44 rfl (gauge_heavy_ok r.1 permille hrd1 hc hr_1) ?_
   rintro _ w ⟨p_2,c_2,rfl,hc⟩
   refine ⟨_,rfl,fun a hf => ?_⟩
   replace hc := hth1 _ _ hc
   refine sp 2 hf rfl fun a hf => zQ (v := .agg #[.func (.func 69) #[] #[]]) hf hc en_46 rfl (fun w hc => gauge_low_ok hc rfl) fun a w hf hc => zQ (v := .agg #[.func (.func 68) #[] #[]]) hf hc en_45 rfl (fun w hc => gauge_high_ok hc rfl) fun a w hf hc => ?_
   obtain ⟨r_2,hr_2,hF⟩ := bnd_some hF
   obtain ⟨G1,hle1,hrd1,hc,hth1⟩ := lend hc k0
   refine zC hf en_44 rfl (gauge_heavy_s2_ok r.1 permille hrd1 hc hr_2) ?_
   rintro _ w ⟨p_3,c_3,rfl,hc⟩
   refine ⟨_,rfl,fun a hf => ?_⟩
   replace hc := hth1 _ _ hc
   refine sp 3 hf rfl fun a hf => zT h ?_
   refine wp_ret ?_
   obtain rfl := sj hF
   replace hc := ((hc.drop k0).pick k0).pick k1
   exact zO3 Tryz.results23 hf rfl rfl rfl ⟨p_2,c_2,p_3,c_3,rfl,hc⟩
 refine zS fun K h => sp 3 hf rfl fun a hf => stCc 4 (fun a => Has 33 a [(1,i6 permille),(6,i6 r.2),(7,.slice p_1 r.1.length c_1),(13,i6 r.2),(14,.bool (r.2 == 0)),(15,.bool (r.2 == 0)),(19,.bool ((r.2 == 0) && (!(gauge_in permille 0 1000))))]) hc ?_ ?_
 ·cases hb : (r.2 == 0)
  ·rw [hb] at hf
   refine stS hf rfl rfl rfl fun a hf => stS hf rfl rfl rfl fun a hf => stS hf rfl rfl rfl fun a hf => sp 1 hf rfl fun a hf => cNil ⟨hf.kp rfl,hc⟩
  ·rw [hb] at hf
   refine sp 1 hf rfl fun a hf => zQ (v := .bool (gauge_in permille 0 1000)) hf hc en_21 rfl (fun w hc => gauge_in_ok permille 0 1000 hc rfl) fun a w hf hc => sp 2 hf rfl fun a hf => cNil ⟨hf.kp rfl,hc⟩
 intro a w ⟨hf,hc⟩
 refine zT h ?_
 refine zI hf rfl hF ?_ ?_ <;> clear hF <;> intro hF
 ·refine cReg ?_
  refine sp 1 hf rfl fun a hf => cNil ?_
  replace hc := hc.drop k1
  exact hj3 4 _ _  (hf.kp rfl) hc hF
 ·refine wp_skip ?_
  replace hc := hc.drop k1
  exact hj3 r.2 _ _  (hf.kp rfl) hc hF

def gauge_Cross_1 (g : gauge_Leg) : Bool :=
 (((((gauge_right g.X (-10000) 10000) && (gauge_right g.Y (-10000) 10000)) && (gauge_right g.Depth 0 2000)) && (gauge_right g.East (-5000) 5000)) && (gauge_right g.North (-5000) 5000))
theorem gauge_Cross_1_ok {G : Pers} {Lf : List Ent} {w : World} (g : gauge_Leg)   (hc : Ctx G (Lf) w) {res : Bool} (hF : gauge_Cross_1 g = res) : Calls Tryz.prog 48 #[.agg #[i6 g.X.Lo,i6 g.X.Hi,i6 g.Y.Lo,i6 g.Y.Hi,i6 g.Depth.Lo,i6 g.Depth.Hi,i6 g.East.Lo,i6 g.East.Hi,i6 g.North.Lo,i6 g.North.Hi]] w (fun e w => e = .returned (.bool res) ∧ Ctx G (Lf) w) := by
 unfold gauge_Cross_1 at hF
 refine fnIn Tryz.func48 rfl Tryz.ntmps48 rfl fun a hf => zS fun K h => zB hf hc rfl fun b_1 a w hf hc => sp 1 hf rfl fun a hf => zT h ?_
 refine zS fun K h => zP hf rfl (pFA fa_83_0 rfl) fun a hf => zN hf hc ag_43 m0 rfl fun a w hf hc => zQ (v := .bool (gauge_right g.X (-10000) 10000)) hf hc en_40 rfl (fun w hc => gauge_right_ok g.X (-10000) 10000 hc rfl) fun a w hf hc => sp 1 hf rfl fun a hf => stCc 4 (fun a => Has 26 a [(1,pq b_1),(2,.bool false),(3,pq b_1),(4,.agg #[i6 g.X.Lo,i6 g.X.Hi]),(5,.bool (gauge_right g.X (-10000) 10000)),(6,.bool (gauge_right g.X (-10000) 10000)),(10,.bool ((gauge_right g.X (-10000) 10000) && (gauge_right g.Y (-10000) 10000)))]) hc ?_ ?_
 ·cases hb : (gauge_right g.X (-10000) 10000)
  ·rw [hb] at hf
   refine stS hf rfl rfl rfl fun a hf => stS hf rfl rfl rfl fun a hf => stS hf rfl rfl rfl fun a hf => sp 1 hf rfl fun a hf => cNil ⟨hf.kp rfl,hc⟩
  ·rw [hb] at hf
   refine zP hf rfl (pFA fa_83_1 rfl) fun a hf => zN hf hc ag_43 m0 rfl fun a w hf hc => zQ (v := .bool (gauge_right g.Y (-10000) 10000)) hf hc en_40 rfl (fun w hc => gauge_right_ok g.Y (-10000) 10000 hc rfl) fun a w hf hc => sp 1 hf rfl fun a hf => cNil ⟨hf.kp rfl,hc⟩
 intro a w ⟨hf,hc⟩
 refine sp 1 hf rfl fun a hf => stCc 4 (fun a => Has 26 a [(1,pq b_1),(2,.bool false),(3,pq b_1),(4,.agg #[i6 g.X.Lo,i6 g.X.Hi]),(5,.bool (gauge_right g.X (-10000) 10000)),(6,.bool (gauge_right g.X (-10000) 10000)),(10,.bool ((gauge_right g.X (-10000) 10000) && (gauge_right g.Y (-10000) 10000))),(11,.bool ((gauge_right g.X (-10000) 10000) && (gauge_right g.Y (-10000) 10000))),(15,.bool (((gauge_right g.X (-10000) 10000) && (gauge_right g.Y (-10000) 10000)) && (gauge_right g.Depth 0 2000)))]) hc ?_ ?_
 ·cases hb : ((gauge_right g.X (-10000) 10000) && (gauge_right g.Y (-10000) 10000))
  ·rw [hb] at hf
   refine stS hf rfl rfl rfl fun a hf => stS hf rfl rfl rfl fun a hf => stS hf rfl rfl rfl fun a hf => sp 1 hf rfl fun a hf => cNil ⟨hf.kp rfl,hc⟩
  ·rw [hb] at hf
   refine zP hf rfl (pFA fa_83_2 rfl) fun a hf => zN hf hc ag_43 m0 rfl fun a w hf hc => zQ (v := .bool (gauge_right g.Depth 0 2000)) hf hc en_40 rfl (fun w hc => gauge_right_ok g.Depth 0 2000 hc rfl) fun a w hf hc => sp 1 hf rfl fun a hf => cNil ⟨hf.kp rfl,hc⟩
 intro a w ⟨hf,hc⟩
 refine sp 1 hf rfl fun a hf => stCc 4 (fun a => Has 26 a [(1,pq b_1),(2,.bool false),(3,pq b_1),(4,.agg #[i6 g.X.Lo,i6 g.X.Hi]),(5,.bool (gauge_right g.X (-10000) 10000)),(6,.bool (gauge_right g.X (-10000) 10000)),(10,.bool ((gauge_right g.X (-10000) 10000) && (gauge_right g.Y (-10000) 10000))),(11,.bool ((gauge_right g.X (-10000) 10000) && (gauge_right g.Y (-10000) 10000))),(15,.bool (((gauge_right g.X (-10000) 10000) && (gauge_right g.Y (-10000) 10000)) && (gauge_right g.Depth 0 2000))),(16,.bool (((gauge_right g.X (-10000) 10000) && (gauge_right g.Y (-10000) 10000)) && (gauge_right g.Depth 0 2000))),(20,.bool ((((gauge_right g.X (-10000) 10000) && (gauge_right g.Y (-10000) 10000)) && (gauge_right g.Depth 0 2000)) && (gauge_right g.East (-5000) 5000)))]) hc ?_ ?_
 ·cases hb : (((gauge_right g.X (-10000) 10000) && (gauge_right g.Y (-10000) 10000)) && (gauge_right g.Depth 0 2000))
  ·rw [hb] at hf
   refine stS hf rfl rfl rfl fun a hf => stS hf rfl rfl rfl fun a hf => stS hf rfl rfl rfl fun a hf => sp 1 hf rfl fun a hf => cNil ⟨hf.kp rfl,hc⟩
  ·rw [hb] at hf
   refine zP hf rfl (pFA fa_83_3 rfl) fun a hf => zN hf hc ag_43 m0 rfl fun a w hf hc => zQ (v := .bool (gauge_right g.East (-5000) 5000)) hf hc en_40 rfl (fun w hc => gauge_right_ok g.East (-5000) 5000 hc rfl) fun a w hf hc => sp 1 hf rfl fun a hf => cNil ⟨hf.kp rfl,hc⟩
 intro a w ⟨hf,hc⟩
 refine sp 1 hf rfl fun a hf => stCc 4 (fun a => Has 26 a [(1,pq b_1),(2,.bool false),(3,pq b_1),(4,.agg #[i6 g.X.Lo,i6 g.X.Hi]),(5,.bool (gauge_right g.X (-10000) 10000)),(6,.bool (gauge_right g.X (-10000) 10000)),(10,.bool ((gauge_right g.X (-10000) 10000) && (gauge_right g.Y (-10000) 10000))),(11,.bool ((gauge_right g.X (-10000) 10000) && (gauge_right g.Y (-10000) 10000))),(15,.bool (((gauge_right g.X (-10000) 10000) && (gauge_right g.Y (-10000) 10000)) && (gauge_right g.Depth 0 2000))),(16,.bool (((gauge_right g.X (-10000) 10000) && (gauge_right g.Y (-10000) 10000)) && (gauge_right g.Depth 0 2000))),(20,.bool ((((gauge_right g.X (-10000) 10000) && (gauge_right g.Y (-10000) 10000)) && (gauge_right g.Depth 0 2000)) && (gauge_right g.East (-5000) 5000))),(21,.bool ((((gauge_right g.X (-10000) 10000) && (gauge_right g.Y (-10000) 10000)) && (gauge_right g.Depth 0 2000)) && (gauge_right g.East (-5000) 5000))),(25,.bool (((((gauge_right g.X (-10000) 10000) && (gauge_right g.Y (-10000) 10000)) && (gauge_right g.Depth 0 2000)) && (gauge_right g.East (-5000) 5000)) && (gauge_right g.North (-5000) 5000)))]) hc ?_ ?_
 ·cases hb : ((((gauge_right g.X (-10000) 10000) && (gauge_right g.Y (-10000) 10000)) && (gauge_right g.Depth 0 2000)) && (gauge_right g.East (-5000) 5000))
  ·rw [hb] at hf
   refine stS hf rfl rfl rfl fun a hf => stS hf rfl rfl rfl fun a hf => stS hf rfl rfl rfl fun a hf => sp 1 hf rfl fun a hf => cNil ⟨hf.kp rfl,hc⟩
  ·rw [hb] at hf
   refine zP hf rfl (pFA fa_83_4 rfl) fun a hf => zN hf hc ag_43 m0 rfl fun a w hf hc => zQ (v := .bool (gauge_right g.North (-5000) 5000)) hf hc en_40 rfl (fun w hc => gauge_right_ok g.North (-5000) 5000 hc rfl) fun a w hf hc => sp 1 hf rfl fun a hf => cNil ⟨hf.kp rfl,hc⟩
 intro a w ⟨hf,hc⟩
 refine sp 1 hf rfl fun a hf => zT h ?_
 refine wp_ret ?_
 obtain rfl := hF
 replace hc := hc.drop k0
 exact zO1 Tryz.results48 hf rfl ⟨rfl,hc⟩

def gauge_every_gauge_Leg_1 (x : gauge_Leg) : Bool :=
 (!(gauge_Cross_1 (⟨x.X,x.Y,x.Depth,x.East,x.North⟩ : gauge_Leg)))
theorem gauge_every_gauge_Leg_1_ok {G : Pers} {Lf : List Ent} {w : World} (x : gauge_Leg) {b_ : Nat}  (hc : Ctx G (.box b_ [.func (.func 48) #[] #[]] 117::Lf) w) {res : Bool} (hF : gauge_every_gauge_Leg_1 x = res) : Calls Tryz.prog 71 #[.agg #[i6 x.X.Lo,i6 x.X.Hi,i6 x.Y.Lo,i6 x.Y.Hi,i6 x.Depth.Lo,i6 x.Depth.Hi,i6 x.East.Lo,i6 x.East.Hi,i6 x.North.Lo,i6 x.North.Hi],pq b_] w (fun e w => e = .returned (.bool res) ∧ Ctx G (.box b_ [.func (.func 48) #[] #[]] 117::Lf) w) := by
 unfold gauge_every_gauge_Leg_1 at hF
 refine fnIn Tryz.func71 rfl Tryz.ntmps71 rfl fun a hf => zS fun K h => zB hf hc rfl fun b_1 a w hf hc => sp 1 hf rfl fun a hf => zT h ?_
 refine zS fun K h => zL hf hc sc_117 m1 rfl fun a w hf hc => zN hf hc ag_83 m0 rfl fun a w hf hc => zQ (v := .bool (gauge_Cross_1 (⟨x.X,x.Y,x.Depth,x.East,x.North⟩ : gauge_Leg))) hf hc en_48 rfl (fun w hc => gauge_Cross_1_ok (⟨x.X,x.Y,x.Depth,x.East,x.North⟩ : gauge_Leg) hc rfl) fun a w hf hc => sp 2 hf rfl fun a hf => zT h ?_
 refine wp_ret ?_
 obtain rfl := hF
 replace hc := hc.drop k0
 exact zO1 Tryz.results71 hf rfl ⟨rfl,hc⟩

def slices_IndexFunc_Lgauge_Leg_gauge_Leg_b4 (N : Nat) (s_ : List gauge_Leg) (x : Int) : Option (Step (Int) (Int)) :=
 cond (decide (x < ((s_.length : Nat) : Int)))
 (Option.bind (getI s_ x) fun e_1 =>
 cond (gauge_every_gauge_Leg_1 e_1)
 (some (.ret x))
 (some (.cont (W (x + 1)))))
 (some (.brk x))
def slices_IndexFunc_Lgauge_Leg_gauge_Leg (N : Nat) (s_ : List gauge_Leg) : Option (Int) :=
 Option.bind (loopO (fun s4 => slices_IndexFunc_Lgauge_Leg_gauge_Leg_b4 N s_ s4) N 0) fun x4 =>
 exK x4 (fun s4 => some (-1)) some
theorem slices_IndexFunc_Lgauge_Leg_gauge_Leg_ok {N : Nat} {G : Pers} {Lf : List Ent} {w : World} (s_ : List gauge_Leg) {s__p : Option Addr} {s__c : Nat} {b_ : Nat} (h_s_ : Rd G 10 s__p s__c (s_.map enc_gauge_Leg)) (hc : Ctx G (.box b_ [.func (.func 48) #[] #[]] 117::Lf) w) {res : Int} (hF : slices_IndexFunc_Lgauge_Leg_gauge_Leg N s_ = some res) : Calls Tryz.prog 88 #[.slice s__p s_.length s__c,.func (.func 71) #[] #[pq b_]] w (fun e w => e = .returned (i6 res) ∧ Ctx G (.box b_ [.func (.func 48) #[] #[]] 117::Lf) w) := by
 unfold slices_IndexFunc_Lgauge_Leg_gauge_Leg at hF
 refine fnIn Tryz.func88 rfl Tryz.ntmps88 rfl fun a hf => zS fun K h => sp 1 hf rfl fun a hf => zT h ?_
 refine wp_seq_k fun K2 h2 => zS fun K h => sp 1 hf rfl fun a hf => zP hf rfl (pLenS Tryz.underlying85 rfl) fun a hf => sp 1 hf rfl fun a hf => zT h ?_
 refine wp_block ?_
 obtain ⟨x4,hx4,hF⟩ := bnd_some hF
 let S4 : Int → Act → World → Prop := (fun (zz : Int) a w => Has 19 a [(0,.slice s__p s_.length s__c),(1,.func (.func 71) #[] #[pq b_]),(7,i6 ((s_.length : Nat) : Int)),(8,i6 zz)] ∧ Ctx G (.box b_ [.func (.func 48) #[] #[]] 117::Lf) w)
 have hr4 : ∀ (zz : Int) a w,x4 = .go zz → S4 zz a w → K2 a w := by
  rintro x a w rfl ⟨hf,hc⟩
  replace hF := exK_go hF
  refine h2 _ _ ?_
  refine zS fun K h => sp 1 hf rfl fun a hf => zT h ?_
  refine wp_ret ?_
  obtain rfl := sj hF
  exact zO1 Tryz.results88 hf rfl ⟨rfl,hc⟩
 have ho4 : ∀ r,x4 = .out r → r = res := by
  rintro r rfl
  exact sj hF
 refine cLoop N (loopW (S := S4) (x := x4) ?_ N 0 _ _ ⟨hf.kp rfl,hc⟩ hx4)
 clear hF hf hc
 rintro x st4 a w KB4 ⟨hf,hc⟩ hF hfin4 hK4
 unfold slices_IndexFunc_Lgauge_Leg_gauge_Leg_b4 at hF
 refine zS fun K h => sp 1 hf rfl fun a hf => zT h ?_
 refine wp_seq_k fun K7 h7 => zI hf rfl hF ?_ ?_ <;> clear hF <;> intro hF
 ·refine wp_skip ?_
  refine h7 _ _ ?_
  refine wp_seq_k fun K8 h8 => wp_block ?_
  refine zS fun K h => sp 2 hf rfl fun a hf => zT h ?_
  refine zS fun K h => sp 3 hf rfl fun a hf => ?_
  obtain ⟨e_1,he_1,hF⟩ := bnd_some hF
  obtain ⟨b_1,o,qa,qp⟩ := h_s_.atm he_1
  refine zP hf rfl (pIA Tryz.underlying85 sz_83 rfl rfl qa) fun a hf => zE hf hc rfl (eLdN (vs := [i6 e_1.X.Lo,i6 e_1.X.Hi,i6 e_1.Y.Lo,i6 e_1.Y.Hi,i6 e_1.Depth.Lo,i6 e_1.Depth.Hi,i6 e_1.East.Lo,i6 e_1.East.Hi,i6 e_1.North.Lo,i6 e_1.North.Hi]) ag_83 rfl rfl (cells_pc qp (n := 10) (o' := 0) rfl)) fun a w hf hc => zQ (v := .bool (gauge_every_gauge_Leg_1 e_1)) hf hc en_71 rfl (fun w hc => (gauge_every_gauge_Leg_1_ok e_1 (hc.pick k0) rfl).mono fun e w h => ⟨h.1,(h.2.unpick k0)⟩) fun a w hf hc => zT h ?_
  refine zI hf rfl hF ?_ ?_ <;> clear hF <;> intro hF
  ·refine zS fun K h => sp 2 hf rfl fun a hf => zT h ?_
   refine wp_ret ?_
   refine xBlkR ?_
   refine xThenR ?_
   refine xThenR ?_
   have he := sj hF
   rw [← he] at hfin4
   replace hF := ho4 _ hfin4
   refine xBlkR ?_
   refine xThenR ?_
   obtain rfl := hF
   exact zO1 Tryz.results88 hf rfl ⟨rfl,hc⟩
  ·refine wp_skip ?_
   refine h8 _ _ ?_
   refine cReg ?_
   refine sp 2 hf rfl fun a hf => cNil ?_
   exact hK4 (W (x + 1)) _ _ (sj hF).symm ⟨hf.kp rfl,hc⟩
 ·refine wp_exit ?_
  refine xThen ?_
  refine xThen ?_
  have he := sj hF
  rw [← he] at hfin4
  refine cHit ?_
  exact hr4 _ _ _ hfin4 ⟨hf.kp rfl,hc⟩

def slices_ContainsFunc_Lgauge_Leg_gauge_Leg (N : Nat) (s_ : List gauge_Leg) : Option (Bool) :=
 Option.bind (slices_IndexFunc_Lgauge_Leg_gauge_Leg N s_) fun r =>
 some (decide (0 ≤ r))
theorem slices_ContainsFunc_Lgauge_Leg_gauge_Leg_ok {N : Nat} {G : Pers} {Lf : List Ent} {w : World} (s_ : List gauge_Leg) {s__p : Option Addr} {s__c : Nat} {b_ : Nat} (h_s_ : Rd G 10 s__p s__c (s_.map enc_gauge_Leg)) (hc : Ctx G (.box b_ [.func (.func 48) #[] #[]] 117::Lf) w) {res : Bool} (hF : slices_ContainsFunc_Lgauge_Leg_gauge_Leg N s_ = some res) : Calls Tryz.prog 70 #[.slice s__p s_.length s__c,.func (.func 71) #[] #[pq b_]] w (fun e w => e = .returned (.bool res) ∧ Ctx G (.box b_ [.func (.func 48) #[] #[]] 117::Lf) w) := by
 unfold slices_ContainsFunc_Lgauge_Leg_gauge_Leg at hF
 refine fnIn Tryz.func70 rfl Tryz.ntmps70 rfl fun a hf => zS fun K h => sp 1 hf rfl fun a hf => zT h ?_
 refine zS fun K h => sp 2 hf rfl fun a hf => ?_
 obtain ⟨r,hr,hF⟩ := bnd_some hF
 refine zQ (v := i6 r) hf hc en_88 rfl (fun w hc => (slices_IndexFunc_Lgauge_Leg_gauge_Leg_ok s_ h_s_ (hc.pick k0) hr).mono fun e w h => ⟨h.1,(h.2.unpick k0)⟩) fun a w hf hc => sp 2 hf rfl fun a hf => zT h ?_
 refine wp_ret ?_
 obtain rfl := sj hF
 exact zO1 Tryz.results70 hf rfl ⟨rfl,hc⟩

def gauge_every_gauge_Leg (N : Nat) (l : List gauge_Leg) : Option (Bool) :=
 Option.bind (slices_ContainsFunc_Lgauge_Leg_gauge_Leg N l) fun r =>
 some (!r)
theorem gauge_every_gauge_Leg_ok {N : Nat} {G : Pers} {Lf : List Ent} {w : World} (l : List gauge_Leg) {l_p : Option Addr} {l_c : Nat} (h_l : Rd G 10 l_p l_c (l.map enc_gauge_Leg)) (hc : Ctx G (Lf) w) {res : Bool} (hF : gauge_every_gauge_Leg N l = some res) : Calls Tryz.prog 47 #[.slice l_p l.length l_c,.func (.func 48) #[] #[]] w (fun e w => e = .returned (.bool res) ∧ Ctx G (Lf) w) := by
 unfold gauge_every_gauge_Leg at hF
 refine fnIn Tryz.func47 rfl Tryz.ntmps47 rfl fun a hf => zS fun K h => zB hf hc rfl fun b_1 a w hf hc => sp 1 hf rfl fun a hf => zT h ?_
 refine zS fun K h => sp 1 hf rfl fun a hf => zP hf rfl (pMF (us := [pq b_1]) rfl rfl) fun a hf => ?_
 obtain ⟨r,hr,hF⟩ := bnd_some hF
 refine zQ (v := .bool r) hf hc en_70 rfl (fun w hc => (slices_ContainsFunc_Lgauge_Leg_gauge_Leg_ok l h_l (hc.pick k0) hr).mono fun e w h => ⟨h.1,(h.2.unpick k0)⟩) fun a w hf hc => sp 2 hf rfl fun a hf => zT h ?_
 refine wp_ret ?_
 obtain rfl := sj hF
 replace hc := hc.drop k0
 exact zO1 Tryz.results47 hf rfl ⟨rfl,hc⟩

def gauge_less (N : Nat) (a_ : api_Span) (b_ : api_Span) : Option (api_Span) :=
 some (⟨W (a_.Lo - b_.Hi),W (a_.Hi - b_.Lo)⟩ : api_Span)
theorem gauge_less_ok {N : Nat} {G : Pers} {Lf : List Ent} {w : World} (a_ : api_Span) (b_ : api_Span)   (hc : Ctx G (Lf) w) {res : api_Span} (hF : gauge_less N a_ b_ = some res) : Calls Tryz.prog 49 #[.agg #[i6 a_.Lo,i6 a_.Hi],.agg #[i6 b_.Lo,i6 b_.Hi]] w (fun e w => e = .returned (.agg #[i6 res.Lo,i6 res.Hi]) ∧ Ctx G (Lf) w) := by
 unfold gauge_less at hF
 refine fnIn Tryz.func49 rfl Tryz.ntmps49 rfl fun a hf => zS fun K h => zB hf hc rfl fun b_1 a w hf hc => zB hf hc rfl fun b_2 a w hf hc => zA hf hc zr_43 rfl fun b_3 a w hf hc => zT h ?_
 refine zS fun K h => zP hf rfl (pFA fa_43_0 rfl) fun a hf => zL hf hc sc_3 m2 rfl fun a w hf hc => zP hf rfl (pFA fa_43_1 rfl) fun a hf => zL hf hc sc_3 m1 rfl fun a w hf hc => sp 1 hf rfl fun a hf => zP hf rfl (pFA fa_43_1 rfl) fun a hf => zL hf hc sc_3 m2 rfl fun a w hf hc => zP hf rfl (pFA fa_43_0 rfl) fun a hf => zL hf hc sc_3 m1 rfl fun a w hf hc => sp 1 hf rfl fun a hf => zP hf rfl (pBuildS (cells := [i6 (W (a_.Lo - b_.Hi)),i6 (W (a_.Hi - b_.Lo))]) bt_43 rfl rfl) fun a hf => zW hf hc sz_43 u0 rfl fun w hc => ?_
 refine zT h ?_
 refine wp_ret ?_
 obtain rfl := sj hF
 replace hc := (hc.drop k2).drop k1
 exact fnOut1 (by simp) rfl Tryz.results49 hf hc (rv_cellN (vs := [i6 (W (a_.Lo - b_.Hi)),i6 (W (a_.Hi - b_.Lo))]) ag_43 rfl rfl (cells_box (n := 2) m0 rfl)) ⟨rfl,(hc.drop k0)⟩

def gauge_Cross_b10 (N : Nat) (l : List gauge_Leg) (x : Int) (x_1 : Int) (x_2 : Int) : Option (Step (Int × Int × Int) (api_Span × Int)) :=
 cond (decide (x < ((l.length : Nat) : Int)))
 (Option.bind (getI l x) fun e_1 =>
 Option.bind (gauge_times N ([e_1.East,e_1.Y] : List api_Span)) fun r_1 =>
 Option.bind (gauge_times N ([e_1.North,e_1.X] : List api_Span)) fun r_2 =>
 Option.bind (gauge_less N r_1 r_2) fun r_3 =>
 Option.bind (gauge_times N ([e_1.Depth,r_3] : List api_Span)) fun r_4 =>
 Option.bind (gauge_plus N (⟨x_1,x_2⟩ : api_Span) r_4) fun r_5 =>
 some (.cont (W (x + 1),r_5.Lo,r_5.Hi)))
 (some (.brk (x,x_1,x_2)))
def gauge_Cross (N : Nat) (l : List gauge_Leg) : Option (api_Span × Int) :=
 cond (!(gauge_in ((l.length : Nat) : Int) 1 30))
 (some ((⟨0,0⟩ : api_Span),3))
 (Option.bind (gauge_every_gauge_Leg N l) fun r =>
 cond (!r)
 (some ((⟨0,0⟩ : api_Span),40))
 (Option.bind (loopO (fun s10 => gauge_Cross_b10 N l s10.1 s10.2.1 s10.2.2) N (0,0,0)) fun x10 =>
 exK x10 (fun s10 => some ((⟨s10.2.1,s10.2.2⟩ : api_Span),0)) some))
theorem gauge_Cross_ok {N : Nat} {G : Pers} {Lf : List Ent} {w : World} (l : List gauge_Leg) {l_p : Option Addr} {l_c : Nat} (h_l : Rd G 10 l_p l_c (l.map enc_gauge_Leg)) (hc : Ctx G (Lf) w) {res : api_Span × Int} (hF : gauge_Cross N l = some res) : Calls Tryz.prog 24 #[.slice l_p l.length l_c] w (fun e w => e = .returned (.tuple #[.agg #[i6 res.1.Lo,i6 res.1.Hi],i6 res.2]) ∧ Ctx G (Lf) w) := by
 unfold gauge_Cross at hF
 refine fnIn Tryz.func24 rfl Tryz.ntmps24 rfl fun a hf => zS fun K h => zA hf hc zr_43 rfl fun b_1 a w hf hc => sp 1 hf rfl fun a hf => zT h ?_
 refine wp_seq_k fun K2 h2 => wp_block ?_
 refine zS fun K h => sp 1 hf rfl fun a hf => zP hf rfl (pLenS Tryz.underlying85 rfl) fun a hf => zQ (v := .bool (gauge_in ((l.length : Nat) : Int) 1 30)) hf hc en_21 rfl (fun w hc => gauge_in_ok ((l.length : Nat) : Int) 1 30 hc rfl) fun a w hf hc => sp 2 hf rfl fun a hf => zT h ?_
 refine zI hf rfl hF ?_ ?_ <;> clear hF <;> intro hF
 ·refine zS fun K h => zP hf rfl (pBuildS (cells := [i6 0,i6 0]) bt_43 rfl rfl) fun a hf => zW hf hc sz_43 u0 rfl fun w hc => sp 1 hf rfl fun a hf => zT h ?_
  refine wp_ret ?_
  refine xBlkR ?_
  refine xThenR ?_
  obtain rfl := sj hF
  exact fnOut2 (by simp) rfl Tryz.results24 hf hc (rv_cellN (vs := [i6 0,i6 0]) ag_43 rfl rfl (cells_box (n := 2) m0 rfl)) (show look _ 3 = _ from rfl) ⟨rfl,(hc.drop k0)⟩
 ·refine zS fun K h => sp 1 hf rfl fun a hf => ?_
  obtain ⟨r,hr,hF⟩ := bnd_some hF
  refine zQ (v := .bool r) hf hc en_47 rfl (fun w hc => gauge_every_gauge_Leg_ok l h_l hc hr) fun a w hf hc => sp 2 hf rfl fun a hf => zT h ?_
  refine zI hf rfl hF ?_ ?_ <;> clear hF <;> intro hF
  ·refine zS fun K h => zP hf rfl (pBuildS (cells := [i6 0,i6 0]) bt_43 rfl rfl) fun a hf => zW hf hc sz_43 u0 rfl fun w hc => sp 1 hf rfl fun a hf => zT h ?_
   refine wp_ret ?_
   refine xBlkR ?_
   refine xThenR ?_
   obtain rfl := sj hF
   exact fnOut2 (by simp) rfl Tryz.results24 hf hc (rv_cellN (vs := [i6 0,i6 0]) ag_43 rfl rfl (cells_box (n := 2) m0 rfl)) (show look _ 3 = _ from rfl) ⟨rfl,(hc.drop k0)⟩
  ·refine wp_skip ?_
   refine h2 _ _ ?_
   refine zS fun K h => zA hf hc zr_43 rfl fun b_2 a w hf hc => zT h ?_
   refine wp_seq_k fun K8 h8 => zS fun K h => sp 1 hf rfl fun a hf => zP hf rfl (pLenS Tryz.underlying85 rfl) fun a hf => sp 1 hf rfl fun a hf => zT h ?_
   refine wp_block ?_
   obtain ⟨x10,hx10,hF⟩ := bnd_some hF
   let S10 : (Int × Int × Int) → Act → World → Prop := (fun (zz : Int × Int × Int) a w => Has 45 a [(2,pq b_1),(4,pq b_2),(18,.slice l_p l.length l_c),(19,i6 ((l.length : Nat) : Int)),(20,i6 zz.1)] ∧ Ctx G (.box b_2 [i6 zz.2.1,i6 zz.2.2] 43::.box b_1 [i6 0,i6 0] 43::Lf) w)
   have hr10 : ∀ (zz : Int × Int × Int) a w,x10 = .go zz → S10 zz a w → K8 a w := by
    rintro ⟨x,x_1,x_2⟩ a w rfl ⟨hf,hc⟩
    replace hF := exK_go hF
    refine h8 _ _ ?_
    refine zS fun K h => zN hf hc ag_43 m0 rfl fun a w hf hc => zW hf hc sz_43 u1 rfl fun w hc => sp 1 hf rfl fun a hf => zT h ?_
    refine wp_ret ?_
    obtain rfl := sj hF
    replace hc := hc.drop k0
    exact fnOut2 (by simp) rfl Tryz.results24 hf hc (rv_cellN (vs := [i6 x_1,i6 x_2]) ag_43 rfl rfl (cells_box (n := 2) m0 rfl)) (show look _ 3 = _ from rfl) ⟨rfl,(hc.drop k0)⟩
   have ho10 : ∀ r,x10 = .out r → r = res := by
    rintro r rfl
    exact sj hF
   refine cLoop N (loopW (S := S10) (x := x10) ?_ N (0,0,0) _ _ ⟨hf.kp rfl,hc⟩ hx10)
   clear hF hf hc
   rintro ⟨x,x_1,x_2⟩ st10 a w KB10 ⟨hf,hc⟩ hF hfin10 hK10
   unfold gauge_Cross_b10 at hF
   refine zS fun K h => sp 1 hf rfl fun a hf => zT h ?_
   refine wp_seq_k fun K13 h13 => zI hf rfl hF ?_ ?_ <;> clear hF <;> intro hF
   ·refine wp_skip ?_
    refine h13 _ _ ?_
    refine wp_seq_k fun K14 h14 => wp_block ?_
    refine zS fun K h => ?_
    obtain ⟨e_1,he_1,hF⟩ := bnd_some hF
    obtain ⟨b_3,o,qa,qp⟩ := h_l.atm he_1
    refine zP hf rfl (pIA Tryz.underlying85 sz_83 rfl rfl qa) fun a hf => zE hf hc rfl (eLdN (vs := [i6 e_1.X.Lo,i6 e_1.X.Hi,i6 e_1.Y.Lo,i6 e_1.Y.Hi,i6 e_1.Depth.Lo,i6 e_1.Depth.Hi,i6 e_1.East.Lo,i6 e_1.East.Hi,i6 e_1.North.Lo,i6 e_1.North.Hi]) ag_83 rfl rfl (cells_pc qp (n := 10) (o' := 0) rfl)) fun a w hf hc => zA hf hc zr_83 rfl fun b_4 a w hf hc => zW hf hc sz_83 u0 rfl fun w hc => zT h ?_
    obtain ⟨r_1,hr_1,hF⟩ := bnd_some hF
    obtain ⟨r_2,hr_2,hF⟩ := bnd_some hF
    obtain ⟨r_3,hr_3,hF⟩ := bnd_some hF
    obtain ⟨r_4,hr_4,hF⟩ := bnd_some hF
    obtain ⟨r_5,hr_5,hF⟩ := bnd_some hF
    replace hc := hc.nilRow 0 0
    replace hc := hc.nilRow 0 0
    replace hc := hc.nilRow 0 0
    refine regionE (fun θ => [⟨none,none,2,pq b_1⟩,⟨none,none,4,pq b_2⟩,⟨none,none,6,pq b_4⟩,⟨none,none,18,.slice l_p l.length l_c⟩,⟨none,none,19,i6 ((l.length : Nat) : Int)⟩,⟨none,none,20,i6 x⟩,⟨some 0,none,24,.agg #[i6 x_1,i6 x_2]⟩,⟨some 1,none,25,.pointer (some ⟨b_4,4,none⟩)⟩,⟨some 2,none,26,.agg #[i6 e_1.Depth.Lo,i6 e_1.Depth.Hi]⟩,⟨some 3,none,27,.pointer (some ⟨b_4,6,none⟩)⟩,⟨some 4,none,28,.agg #[i6 e_1.East.Lo,i6 e_1.East.Hi]⟩,⟨some 5,none,29,.pointer (some ⟨b_4,2,none⟩)⟩,⟨some 6,none,30,.agg #[i6 e_1.Y.Lo,i6 e_1.Y.Hi]⟩,⟨some 7,none,31,.slice (some ⟨(θ 56).b,0,none⟩) 2 2⟩,⟨some 8,none,32,.agg #[i6 r_1.Lo,i6 r_1.Hi]⟩,⟨some 9,none,33,.pointer (some ⟨b_4,8,none⟩)⟩,⟨some 10,none,34,.agg #[i6 e_1.North.Lo,i6 e_1.North.Hi]⟩,⟨some 11,none,35,pq b_4⟩,⟨some 12,none,36,.agg #[i6 e_1.X.Lo,i6 e_1.X.Hi]⟩,⟨some 13,none,37,.slice (some ⟨(θ 104).b,0,none⟩) 2 2⟩,⟨some 14,none,38,.agg #[i6 r_2.Lo,i6 r_2.Hi]⟩,⟨some 15,none,39,.agg #[i6 r_3.Lo,i6 r_3.Hi]⟩,⟨some 16,none,40,.slice (some ⟨(θ 128).b,0,none⟩) 2 2⟩,⟨some 17,none,41,.agg #[i6 r_4.Lo,i6 r_4.Hi]⟩,⟨some 18,none,42,.agg #[i6 r_5.Lo,i6 r_5.Hi]⟩]) (fun E θ => (bif E 16 then .row (some ⟨(θ 128).b,0,none⟩) 2 (([e_1.Depth,r_3] : List api_Span).map enc_api_Span) 43 2 else .row none 0 [] 0 0)::(bif E 13 then .row (some ⟨(θ 104).b,0,none⟩) 2 (([e_1.North,e_1.X] : List api_Span).map enc_api_Span) 43 2 else .row none 0 [] 0 0)::(bif E 7 then .row (some ⟨(θ 56).b,0,none⟩) 2 (([e_1.East,e_1.Y] : List api_Span).map enc_api_Span) 43 2 else .row none 0 [] 0 0)::.box b_4 [i6 e_1.X.Lo,i6 e_1.X.Hi,i6 e_1.Y.Lo,i6 e_1.Y.Hi,i6 e_1.Depth.Lo,i6 e_1.Depth.Hi,i6 e_1.East.Lo,i6 e_1.East.Hi,i6 e_1.North.Lo,i6 e_1.North.Hi] 83::(bif E 19 then .box b_2 [i6 r_5.Lo,i6 r_5.Hi] 43 else .box b_2 [i6 x_1,i6 x_2] 43)::.box b_1 [i6 0,i6 0] 43::Lf) [(19,0)] (fun a w => ∃ (b_8 : Nat) (b_9 : Nat) (b_10 : Nat),Has 45 a [(2,pq b_1),(4,pq b_2),(18,.slice l_p l.length l_c),(19,i6 ((l.length : Nat) : Int)),(20,i6 x)] ∧ Ctx G (.row (some ⟨b_8,0,none⟩) 2 (([e_1.Depth,r_3] : List api_Span).map enc_api_Span) 43 2::.row (some ⟨b_9,0,none⟩) 2 (([e_1.North,e_1.X] : List api_Span).map enc_api_Span) 43 2::.row (some ⟨b_10,0,none⟩) 2 (([e_1.East,e_1.Y] : List api_Span).map enc_api_Span) 43 2::.box b_4 [i6 e_1.X.Lo,i6 e_1.X.Hi,i6 e_1.Y.Lo,i6 e_1.Y.Hi,i6 e_1.Depth.Lo,i6 e_1.Depth.Hi,i6 e_1.East.Lo,i6 e_1.East.Hi,i6 e_1.North.Lo,i6 e_1.North.Hi] 83::.box b_2 [i6 r_5.Lo,i6 r_5.Hi] 43::.box b_1 [i6 0,i6 0] 43::Lf) w) follows_mx (by kernel_rfl) (by kernel_rfl) (HasE.of hf ⟨rfl,rfl,rfl,rfl,rfl,rfl,trivial,trivial,trivial,trivial,trivial,trivial,trivial,trivial,trivial,trivial,trivial,trivial,trivial,trivial,trivial,trivial,trivial,trivial,trivial,trivial⟩) hc ⟨?_,?_,?_,?_,?_,?_,?_,?_,?_,?_,?_,?_,?_,?_,?_,?_,?_,?_,?_,?_,trivial⟩ ?_ ?_
    ·intro E θ a w hD hi hp he hc
     have e19 := hD.f 0 rfl hi
     try dsimp only at hc
     rw [e19] at hc
     have hf := he.h0.mT he 1 rfl
     refine zN hf hc ag_43 m4 rfl fun a w hf hc => zD θ he hi hf 6 rfl rfl rfl ?_
     try dsimp only
     rw [updE_fls 0 e19 rfl]
     exact hc
    ·intro E θ a w hD hi hp he hc
     have hf := he.h0.mT he 2 rfl
     refine zP hf rfl (pFA fa_83_2 rfl) fun a hf => zD θ he hi hf 7 rfl rfl rfl hc
    ·intro E θ a w hD hi hp he hc
     have e1 := hp.o 1 rfl
     have hf := he.h0.mP he 7 rfl e1
     refine zN hf hc ag_43 m3 rfl fun a w hf hc => zD θ he hi hf 8 rfl rfl rfl hc
    ·intro E θ a w hD hi hp he hc
     have hf := he.h0.mT he 2 rfl
     refine zP hf rfl (pFA fa_83_3 rfl) fun a hf => zD θ he hi hf 9 rfl rfl rfl hc
    ·intro E θ a w hD hi hp he hc
     have e3 := hp.o 3 rfl
     have hf := he.h0.mP he 9 rfl e3
     refine zN hf hc ag_43 m3 rfl fun a w hf hc => zD θ he hi hf 10 rfl rfl rfl hc
    ·intro E θ a w hD hi hp he hc
     have hf := he.h0.mT he 2 rfl
     refine zP hf rfl (pFA fa_83_1 rfl) fun a hf => zD θ he hi hf 11 rfl rfl rfl hc
    ·intro E θ a w hD hi hp he hc
     have e5 := hp.o 5 rfl
     have hf := he.h0.mP he 11 rfl e5
     refine zN hf hc ag_43 m3 rfl fun a w hf hc => zD θ he hi hf 12 rfl rfl rfl hc
    ·intro E θ a w hD hi hp he hc
     have e4 := hp.o 4 rfl
     have e6 := hp.o 6 rfl
     try dsimp only at hc
     rw [hi] at hc
     have hf := (he.h0.mP he 10 rfl e4).mP he 12 rfl e6
     refine stBS (rows := ([e_1.East,e_1.Y] : List api_Span).map enc_api_Span) (vs := [(0,.agg #[i6 e_1.East.Lo,i6 e_1.East.Hi]),(1,.agg #[i6 e_1.Y.Lo,i6 e_1.Y.Hi])]) hf hc rfl rfl sl_37 rfl ⟨rfl,rfl,rfl,rfl,rfl,rfl,trivial⟩ rfl rfl fun b_5 a w hf hc => cNil ?_
     refine xThenN ?_
     intro ds u hau
     replace hc := (((hc.drop k3).pick k0).pick k2).pick k2
     refine ⟨(setT θ 56 ⟨b_5,none,0,(fun _ => (none,0))⟩),he.put hi hau hf rfl [] trivial ⟨qq,qq,qq,qq,qq,qq,qq,qq,qq,qq,qq,qq,qq,qq,qq,qq,qq,qq,qq,qq,qq,qq,qq,qq,qq,trivial⟩,?_⟩
     try dsimp only
     rw [updE_self E 7]
     exact hc
    ·intro E θ a w hD hi hp he hc
     have e7 := hp.o 7 rfl
     try dsimp only at hc
     rw [e7] at hc
     have hf := he.h0.mP he 13 rfl e7
     refine zQ (v := .agg #[i6 r_1.Lo,i6 r_1.Hi]) hf hc en_35 rfl (fun w hc => by obtain ⟨G1,hle1,hrd1,hc,hth1⟩ := lend hc k2; exact (gauge_times_ok ([e_1.East,e_1.Y] : List api_Span) hrd1 hc hr_1).mono fun e w h => ⟨h.1,((hth1 _ _ h.2).unpick k2)⟩) fun a w hf hc => zD θ he hi hf 14 rfl rfl rfl ?_
     try dsimp only
     rw [updE_tru 8 e7]
     exact hc
    ·intro E θ a w hD hi hp he hc
     have hf := he.h0.mT he 2 rfl
     refine zP hf rfl (pFA fa_83_4 rfl) fun a hf => zD θ he hi hf 15 rfl rfl rfl hc
    ·intro E θ a w hD hi hp he hc
     have e9 := hp.o 9 rfl
     have hf := he.h0.mP he 15 rfl e9
     refine zN hf hc ag_43 m3 rfl fun a w hf hc => zD θ he hi hf 16 rfl rfl rfl hc
    ·intro E θ a w hD hi hp he hc
     have hf := he.h0.mT he 2 rfl
     refine zP hf rfl (pFA fa_83_0 rfl) fun a hf => zD θ he hi hf 17 rfl rfl rfl hc
    ·intro E θ a w hD hi hp he hc
     have e11 := hp.o 11 rfl
     have hf := he.h0.mP he 17 rfl e11
     refine zN hf hc ag_43 m3 rfl fun a w hf hc => zD θ he hi hf 18 rfl rfl rfl hc
    ·intro E θ a w hD hi hp he hc
     have e10 := hp.o 10 rfl
     have e12 := hp.o 12 rfl
     try dsimp only at hc
     rw [hi] at hc
     have hf := (he.h0.mP he 16 rfl e10).mP he 18 rfl e12
     refine stBS (rows := ([e_1.North,e_1.X] : List api_Span).map enc_api_Span) (vs := [(0,.agg #[i6 e_1.North.Lo,i6 e_1.North.Hi]),(1,.agg #[i6 e_1.X.Lo,i6 e_1.X.Hi])]) hf hc rfl rfl sl_37 rfl ⟨rfl,rfl,rfl,rfl,rfl,rfl,trivial⟩ rfl rfl fun b_6 a w hf hc => cNil ?_
     refine xThenN ?_
     intro ds u hau
     replace hc := ((hc.drop k2).pick k0).pick k1
     refine ⟨(setT θ 104 ⟨b_6,none,0,(fun _ => (none,0))⟩),he.put hi hau hf rfl [] trivial ⟨qq,qq,qq,qq,qq,qq,qq,qq,qq,qq,qq,qq,qq,qq,qq,qq,qq,qq,qq,qq,qq,qq,qq,qq,qq,trivial⟩,?_⟩
     try dsimp only
     rw [updE_self E 13]
     exact hc
    ·intro E θ a w hD hi hp he hc
     have e13 := hp.o 13 rfl
     try dsimp only at hc
     rw [e13] at hc
     have hf := he.h0.mP he 19 rfl e13
     refine zQ (v := .agg #[i6 r_2.Lo,i6 r_2.Hi]) hf hc en_35 rfl (fun w hc => by obtain ⟨G1,hle1,hrd1,hc,hth1⟩ := lend hc k1; exact (gauge_times_ok ([e_1.North,e_1.X] : List api_Span) hrd1 hc hr_2).mono fun e w h => ⟨h.1,((hth1 _ _ h.2).unpick k1)⟩) fun a w hf hc => zD θ he hi hf 20 rfl rfl rfl ?_
     try dsimp only
     rw [updE_tru 14 e13]
     exact hc
    ·intro E θ a w hD hi hp he hc
     have e8 := hp.o 8 rfl
     have e14 := hp.o 14 rfl
     have hf := (he.h0.mP he 14 rfl e8).mP he 20 rfl e14
     refine zQ (v := .agg #[i6 r_3.Lo,i6 r_3.Hi]) hf hc en_49 rfl (fun w hc => gauge_less_ok r_1 r_2 hc hr_3) fun a w hf hc => zD θ he hi hf 21 rfl rfl rfl hc
    ·intro E θ a w hD hi hp he hc
     have e2 := hp.o 2 rfl
     have e15 := hp.o 15 rfl
     try dsimp only at hc
     rw [hi] at hc
     have hf := (he.h0.mP he 8 rfl e2).mP he 21 rfl e15
     refine stBS (rows := ([e_1.Depth,r_3] : List api_Span).map enc_api_Span) (vs := [(0,.agg #[i6 e_1.Depth.Lo,i6 e_1.Depth.Hi]),(1,.agg #[i6 r_3.Lo,i6 r_3.Hi])]) hf hc rfl rfl sl_37 rfl ⟨rfl,rfl,rfl,rfl,rfl,rfl,trivial⟩ rfl rfl fun b_7 a w hf hc => cNil ?_
     refine xThenN ?_
     intro ds u hau
     replace hc := hc.drop k1
     refine ⟨(setT θ 128 ⟨b_7,none,0,(fun _ => (none,0))⟩),he.put hi hau hf rfl [] trivial ⟨qq,qq,qq,qq,qq,qq,qq,qq,qq,qq,qq,qq,qq,qq,qq,qq,qq,qq,qq,qq,qq,qq,qq,qq,qq,trivial⟩,?_⟩
     try dsimp only
     rw [updE_self E 16]
     exact hc
    ·intro E θ a w hD hi hp he hc
     have e16 := hp.o 16 rfl
     try dsimp only at hc
     rw [e16] at hc
     have hf := he.h0.mP he 22 rfl e16
     refine zQ (v := .agg #[i6 r_4.Lo,i6 r_4.Hi]) hf hc en_35 rfl (fun w hc => by obtain ⟨G1,hle1,hrd1,hc,hth1⟩ := lend hc k0; exact (gauge_times_ok ([e_1.Depth,r_3] : List api_Span) hrd1 hc hr_4).mono fun e w h => ⟨h.1,((hth1 _ _ h.2).unpick k0)⟩) fun a w hf hc => zD θ he hi hf 23 rfl rfl rfl ?_
     try dsimp only
     rw [updE_tru 17 e16]
     exact hc
    ·intro E θ a w hD hi hp he hc
     have e0 := hp.o 0 rfl
     have e17 := hp.o 17 rfl
     have hf := (he.h0.mP he 6 rfl e0).mP he 23 rfl e17
     refine zQ (v := .agg #[i6 r_5.Lo,i6 r_5.Hi]) hf hc en_18 rfl (fun w hc => gauge_plus_ok (⟨x_1,x_2⟩ : api_Span) r_4 hc hr_5) fun a w hf hc => zD θ he hi hf 24 rfl rfl rfl hc
    ·intro E θ a w hD hi hp he hc
     have e18 := hp.o 18 rfl
     try dsimp only at hc
     rw [hi] at hc
     have hf := (he.h0.mT he 1 rfl).mP he 24 rfl e18
     refine zW hf hc sz_43 u4 rfl fun w hc => zG θ he hi hf rfl ?_
     try dsimp only
     rw [updE_self E 19]
     exact hc
    ·intro E θ a w hall he hc
     have hf := he.h0
     have e7 := hall 7 rfl
     have e13 := hall 13 rfl
     have e16 := hall 16 rfl
     have e19 := hall 19 rfl
     replace hf := hf.more he 5 rfl (onT)
     replace hf := hf.more he 4 rfl (onT)
     replace hf := hf.more he 3 rfl (onT)
     replace hf := hf.more he 1 rfl (onT)
     replace hf := hf.more he 0 rfl (onT)
     try dsimp only at hc
     rw [e7,e13,e16,e19] at hc
     exact ⟨(θ 128).b,(θ 104).b,(θ 56).b,hf.kp rfl,hc⟩
    rintro a w ⟨b_8,b_9,b_10,hf,hc⟩
    refine h14 _ _ ?_
    refine cReg ?_
    refine sp 2 hf rfl fun a hf => cNil ?_
    replace hc := (((hc.drop k3).drop k2).drop k1).drop k0
    exact hK10 (W (x + 1),r_5.Lo,r_5.Hi) _ _ (sj hF).symm ⟨hf.kp rfl,hc⟩
   ·refine wp_exit ?_
    refine xThen ?_
    refine xThen ?_
    have he := sj hF
    rw [← he] at hfin10
    refine cHit ?_
    exact hr10 _ _ _ hfin10 ⟨hf.kp rfl,hc⟩

def gauge_Thinned_1 (s_ : api_Span) : Bool :=
 (gauge_right s_ 0 1000000)
theorem gauge_Thinned_1_ok {G : Pers} {Lf : List Ent} {w : World} (s_ : api_Span)   (hc : Ctx G (Lf) w) {res : Bool} (hF : gauge_Thinned_1 s_ = res) : Calls Tryz.prog 51 #[.agg #[i6 s_.Lo,i6 s_.Hi]] w (fun e w => e = .returned (.bool res) ∧ Ctx G (Lf) w) := by
 unfold gauge_Thinned_1 at hF
 refine fnIn Tryz.func51 rfl Tryz.ntmps51 rfl fun a hf => zS fun K h => zB hf hc rfl fun b_1 a w hf hc => sp 1 hf rfl fun a hf => zT h ?_
 refine zS fun K h => zN hf hc ag_43 m0 rfl fun a w hf hc => zQ (v := .bool (gauge_right s_ 0 1000000)) hf hc en_40 rfl (fun w hc => gauge_right_ok s_ 0 1000000 hc rfl) fun a w hf hc => sp 1 hf rfl fun a hf => zT h ?_
 refine wp_ret ?_
 obtain rfl := hF
 replace hc := hc.drop k0
 exact zO1 Tryz.results51 hf rfl ⟨rfl,hc⟩

def gauge_every_api_Span_1 (x : api_Span) : Bool :=
 (!(gauge_Thinned_1 (⟨x.Lo,x.Hi⟩ : api_Span)))
theorem gauge_every_api_Span_1_ok {G : Pers} {Lf : List Ent} {w : World} (x : api_Span) {b_ : Nat}  (hc : Ctx G (.box b_ [.func (.func 51) #[] #[]] 119::Lf) w) {res : Bool} (hF : gauge_every_api_Span_1 x = res) : Calls Tryz.prog 73 #[.agg #[i6 x.Lo,i6 x.Hi],pq b_] w (fun e w => e = .returned (.bool res) ∧ Ctx G (.box b_ [.func (.func 51) #[] #[]] 119::Lf) w) := by
 unfold gauge_every_api_Span_1 at hF
 refine fnIn Tryz.func73 rfl Tryz.ntmps73 rfl fun a hf => zS fun K h => zB hf hc rfl fun b_1 a w hf hc => sp 1 hf rfl fun a hf => zT h ?_
 refine zS fun K h => zL hf hc sc_119 m1 rfl fun a w hf hc => zN hf hc ag_43 m0 rfl fun a w hf hc => zQ (v := .bool (gauge_Thinned_1 (⟨x.Lo,x.Hi⟩ : api_Span))) hf hc en_51 rfl (fun w hc => gauge_Thinned_1_ok (⟨x.Lo,x.Hi⟩ : api_Span) hc rfl) fun a w hf hc => sp 2 hf rfl fun a hf => zT h ?_
 refine wp_ret ?_
 obtain rfl := hF
 replace hc := hc.drop k0
 exact zO1 Tryz.results73 hf rfl ⟨rfl,hc⟩

def slices_IndexFunc_Lapi_Span_api_Span_b4 (N : Nat) (s_ : List api_Span) (x : Int) : Option (Step (Int) (Int)) :=
 cond (decide (x < ((s_.length : Nat) : Int)))
 (Option.bind (getI s_ x) fun e_1 =>
 cond (gauge_every_api_Span_1 e_1)
 (some (.ret x))
 (some (.cont (W (x + 1)))))
 (some (.brk x))
def slices_IndexFunc_Lapi_Span_api_Span (N : Nat) (s_ : List api_Span) : Option (Int) :=
 Option.bind (loopO (fun s4 => slices_IndexFunc_Lapi_Span_api_Span_b4 N s_ s4) N 0) fun x4 =>
 exK x4 (fun s4 => some (-1)) some
theorem slices_IndexFunc_Lapi_Span_api_Span_ok {N : Nat} {G : Pers} {Lf : List Ent} {w : World} (s_ : List api_Span) {s__p : Option Addr} {s__c : Nat} {b_ : Nat} (h_s_ : Rd G 2 s__p s__c (s_.map enc_api_Span)) (hc : Ctx G (.box b_ [.func (.func 51) #[] #[]] 119::Lf) w) {res : Int} (hF : slices_IndexFunc_Lapi_Span_api_Span N s_ = some res) : Calls Tryz.prog 89 #[.slice s__p s_.length s__c,.func (.func 73) #[] #[pq b_]] w (fun e w => e = .returned (i6 res) ∧ Ctx G (.box b_ [.func (.func 51) #[] #[]] 119::Lf) w) := by
 unfold slices_IndexFunc_Lapi_Span_api_Span at hF
 refine fnIn Tryz.func89 rfl Tryz.ntmps89 rfl fun a hf => zS fun K h => sp 1 hf rfl fun a hf => zT h ?_
 refine wp_seq_k fun K2 h2 => zS fun K h => sp 1 hf rfl fun a hf => zP hf rfl (pLenS Tryz.underlying37 rfl) fun a hf => sp 1 hf rfl fun a hf => zT h ?_
 refine wp_block ?_
 obtain ⟨x4,hx4,hF⟩ := bnd_some hF
 let S4 : Int → Act → World → Prop := (fun (zz : Int) a w => Has 19 a [(0,.slice s__p s_.length s__c),(1,.func (.func 73) #[] #[pq b_]),(7,i6 ((s_.length : Nat) : Int)),(8,i6 zz)] ∧ Ctx G (.box b_ [.func (.func 51) #[] #[]] 119::Lf) w)
 have hr4 : ∀ (zz : Int) a w,x4 = .go zz → S4 zz a w → K2 a w := by
  rintro x a w rfl ⟨hf,hc⟩
  replace hF := exK_go hF
  refine h2 _ _ ?_
  refine zS fun K h => sp 1 hf rfl fun a hf => zT h ?_
  refine wp_ret ?_
  obtain rfl := sj hF
  exact zO1 Tryz.results89 hf rfl ⟨rfl,hc⟩
 have ho4 : ∀ r,x4 = .out r → r = res := by
  rintro r rfl
  exact sj hF
 refine cLoop N (loopW (S := S4) (x := x4) ?_ N 0 _ _ ⟨hf.kp rfl,hc⟩ hx4)
 clear hF hf hc
 rintro x st4 a w KB4 ⟨hf,hc⟩ hF hfin4 hK4
 unfold slices_IndexFunc_Lapi_Span_api_Span_b4 at hF
 refine zS fun K h => sp 1 hf rfl fun a hf => zT h ?_
 refine wp_seq_k fun K7 h7 => zI hf rfl hF ?_ ?_ <;> clear hF <;> intro hF
 ·refine wp_skip ?_
  refine h7 _ _ ?_
  refine wp_seq_k fun K8 h8 => wp_block ?_
  refine zS fun K h => sp 2 hf rfl fun a hf => zT h ?_
  refine zS fun K h => sp 3 hf rfl fun a hf => ?_
  obtain ⟨e_1,he_1,hF⟩ := bnd_some hF
  obtain ⟨b_1,o,qa,qp⟩ := h_s_.atm he_1
  refine zP hf rfl (pIA Tryz.underlying37 sz_43 rfl rfl qa) fun a hf => zE hf hc rfl (eLdN (vs := [i6 e_1.Lo,i6 e_1.Hi]) ag_43 rfl rfl (cells_pc qp (n := 2) (o' := 0) rfl)) fun a w hf hc => zQ (v := .bool (gauge_every_api_Span_1 e_1)) hf hc en_73 rfl (fun w hc => (gauge_every_api_Span_1_ok e_1 (hc.pick k0) rfl).mono fun e w h => ⟨h.1,(h.2.unpick k0)⟩) fun a w hf hc => zT h ?_
  refine zI hf rfl hF ?_ ?_ <;> clear hF <;> intro hF
  ·refine zS fun K h => sp 2 hf rfl fun a hf => zT h ?_
   refine wp_ret ?_
   refine xBlkR ?_
   refine xThenR ?_
   refine xThenR ?_
   have he := sj hF
   rw [← he] at hfin4
   replace hF := ho4 _ hfin4
   refine xBlkR ?_
   refine xThenR ?_
   obtain rfl := hF
   exact zO1 Tryz.results89 hf rfl ⟨rfl,hc⟩
  ·refine wp_skip ?_
   refine h8 _ _ ?_
   refine cReg ?_
   refine sp 2 hf rfl fun a hf => cNil ?_
   exact hK4 (W (x + 1)) _ _ (sj hF).symm ⟨hf.kp rfl,hc⟩
 ·refine wp_exit ?_
  refine xThen ?_
  refine xThen ?_
  have he := sj hF
  rw [← he] at hfin4
  refine cHit ?_
  exact hr4 _ _ _ hfin4 ⟨hf.kp rfl,hc⟩

def slices_ContainsFunc_Lapi_Span_api_Span (N : Nat) (s_ : List api_Span) : Option (Bool) :=
 Option.bind (slices_IndexFunc_Lapi_Span_api_Span N s_) fun r =>
 some (decide (0 ≤ r))
theorem slices_ContainsFunc_Lapi_Span_api_Span_ok {N : Nat} {G : Pers} {Lf : List Ent} {w : World} (s_ : List api_Span) {s__p : Option Addr} {s__c : Nat} {b_ : Nat} (h_s_ : Rd G 2 s__p s__c (s_.map enc_api_Span)) (hc : Ctx G (.box b_ [.func (.func 51) #[] #[]] 119::Lf) w) {res : Bool} (hF : slices_ContainsFunc_Lapi_Span_api_Span N s_ = some res) : Calls Tryz.prog 72 #[.slice s__p s_.length s__c,.func (.func 73) #[] #[pq b_]] w (fun e w => e = .returned (.bool res) ∧ Ctx G (.box b_ [.func (.func 51) #[] #[]] 119::Lf) w) := by
 unfold slices_ContainsFunc_Lapi_Span_api_Span at hF
 refine fnIn Tryz.func72 rfl Tryz.ntmps72 rfl fun a hf => zS fun K h => sp 1 hf rfl fun a hf => zT h ?_
 refine zS fun K h => sp 2 hf rfl fun a hf => ?_
 obtain ⟨r,hr,hF⟩ := bnd_some hF
 refine zQ (v := i6 r) hf hc en_89 rfl (fun w hc => (slices_IndexFunc_Lapi_Span_api_Span_ok s_ h_s_ (hc.pick k0) hr).mono fun e w h => ⟨h.1,(h.2.unpick k0)⟩) fun a w hf hc => sp 2 hf rfl fun a hf => zT h ?_
 refine wp_ret ?_
 obtain rfl := sj hF
 exact zO1 Tryz.results72 hf rfl ⟨rfl,hc⟩

def gauge_every_api_Span (N : Nat) (l : List api_Span) : Option (Bool) :=
 Option.bind (slices_ContainsFunc_Lapi_Span_api_Span N l) fun r =>
 some (!r)
theorem gauge_every_api_Span_ok {N : Nat} {G : Pers} {Lf : List Ent} {w : World} (l : List api_Span) {l_p : Option Addr} {l_c : Nat} (h_l : Rd G 2 l_p l_c (l.map enc_api_Span)) (hc : Ctx G (Lf) w) {res : Bool} (hF : gauge_every_api_Span N l = some res) : Calls Tryz.prog 50 #[.slice l_p l.length l_c,.func (.func 51) #[] #[]] w (fun e w => e = .returned (.bool res) ∧ Ctx G (Lf) w) := by
 unfold gauge_every_api_Span at hF
 refine fnIn Tryz.func50 rfl Tryz.ntmps50 rfl fun a hf => zS fun K h => zB hf hc rfl fun b_1 a w hf hc => sp 1 hf rfl fun a hf => zT h ?_
 refine zS fun K h => sp 1 hf rfl fun a hf => zP hf rfl (pMF (us := [pq b_1]) rfl rfl) fun a hf => ?_
 obtain ⟨r,hr,hF⟩ := bnd_some hF
 refine zQ (v := .bool r) hf hc en_72 rfl (fun w hc => (slices_ContainsFunc_Lapi_Span_api_Span_ok l h_l (hc.pick k0) hr).mono fun e w h => ⟨h.1,(h.2.unpick k0)⟩) fun a w hf hc => sp 2 hf rfl fun a hf => zT h ?_
 refine wp_ret ?_
 obtain rfl := sj hF
 replace hc := hc.drop k0
 exact zO1 Tryz.results50 hf rfl ⟨rfl,hc⟩

def gauge_Thinned (N : Nat) (d : gauge_Dye) : Option (api_Span × Int) :=
 Option.bind (gauge_every_api_Span N ([d.Rate,d.Strong,d.Found,d.Clean] : List api_Span)) fun r =>
 cond (!r)
 (some ((⟨0,0⟩ : api_Span),40))
 (cond ((decide (d.Found.Lo ≤ d.Clean.Hi)) || (decide (d.Strong.Lo < d.Found.Hi)))
 (some ((⟨0,0⟩ : api_Span),7))
 (Option.bind (nz (W (d.Found.Hi - d.Clean.Lo))) fun un =>
 Option.bind (nz (W (d.Found.Lo - d.Clean.Hi))) fun un_1 =>
 some ((⟨W ((W (d.Rate.Lo * (W (d.Strong.Lo - d.Found.Hi)))).tdiv (W (d.Found.Hi - d.Clean.Lo))),W ((W ((W ((W (d.Rate.Hi * (W (d.Strong.Hi - d.Found.Lo)))) + (W (d.Found.Lo - d.Clean.Hi)))) - 1)).tdiv (W (d.Found.Lo - d.Clean.Hi)))⟩ : api_Span),0)))
theorem gauge_Thinned_ok {N : Nat} {G : Pers} {Lf : List Ent} {w : World} (d : gauge_Dye)   (hc : Ctx G (Lf) w) {res : api_Span × Int} (hF : gauge_Thinned N d = some res) : Calls Tryz.prog 25 #[.agg #[i6 d.Rate.Lo,i6 d.Rate.Hi,i6 d.Strong.Lo,i6 d.Strong.Hi,i6 d.Found.Lo,i6 d.Found.Hi,i6 d.Clean.Lo,i6 d.Clean.Hi]] w (fun e w => e = .returned (.tuple #[.agg #[i6 res.1.Lo,i6 res.1.Hi],i6 res.2]) ∧ Ctx G (Lf) w) := by
 unfold gauge_Thinned at hF
 refine fnIn Tryz.func25 rfl Tryz.ntmps25 rfl fun a hf => zS fun K h => zB hf hc rfl fun b_1 a w hf hc => zA hf hc zr_43 rfl fun b_2 a w hf hc => sp 1 hf rfl fun a hf => zT h ?_
 refine wp_seq_k fun K2 h2 => wp_block ?_
 refine zS fun K h => zP hf rfl (pFA fa_88_0 rfl) fun a hf => zN hf hc ag_43 m1 rfl fun a w hf hc => zP hf rfl (pFA fa_88_1 rfl) fun a hf => zN hf hc ag_43 m1 rfl fun a w hf hc => zP hf rfl (pFA fa_88_2 rfl) fun a hf => zN hf hc ag_43 m1 rfl fun a w hf hc => zP hf rfl (pFA fa_88_3 rfl) fun a hf => zN hf hc ag_43 m1 rfl fun a w hf hc => stBS (rows := ([d.Rate,d.Strong,d.Found,d.Clean] : List api_Span).map enc_api_Span) (vs := [(0,.agg #[i6 d.Rate.Lo,i6 d.Rate.Hi]),(1,.agg #[i6 d.Strong.Lo,i6 d.Strong.Hi]),(2,.agg #[i6 d.Found.Lo,i6 d.Found.Hi]),(3,.agg #[i6 d.Clean.Lo,i6 d.Clean.Hi])]) hf hc rfl rfl sl_37 rfl ⟨rfl,rfl,rfl,rfl,rfl,rfl,rfl,rfl,rfl,rfl,rfl,rfl,trivial⟩ rfl rfl fun b_3 a w hf hc => ?_
 obtain ⟨r,hr,hF⟩ := bnd_some hF
 refine zQ (v := .bool r) hf hc en_50 rfl (fun w hc => by obtain ⟨G1,hle1,hrd1,hc,hth1⟩ := lend hc k0; exact (gauge_every_api_Span_ok ([d.Rate,d.Strong,d.Found,d.Clean] : List api_Span) hrd1 hc hr).mono fun e w h => ⟨h.1,((hth1 _ _ h.2).unpick k0)⟩) fun a w hf hc => sp 2 hf rfl fun a hf => zT h ?_
 refine zI hf rfl hF ?_ ?_ <;> clear hF <;> intro hF
 ·refine zS fun K h => zP hf rfl (pBuildS (cells := [i6 0,i6 0]) bt_43 rfl rfl) fun a hf => zW hf hc sz_43 u1 rfl fun w hc => sp 1 hf rfl fun a hf => zT h ?_
  refine wp_ret ?_
  refine xBlkR ?_
  refine xThenR ?_
  obtain rfl := sj hF
  replace hc := (hc.drop k2).drop k0
  exact fnOut2 (by simp) rfl Tryz.results25 hf hc (rv_cellN (vs := [i6 0,i6 0]) ag_43 rfl rfl (cells_box (n := 2) m0 rfl)) (show look _ 3 = _ from rfl) ⟨rfl,(hc.drop k0)⟩
 ·refine zS fun K h => zP hf rfl (pFA fa_88_3 rfl) fun a hf => zP hf rfl (pFA fa_43_1 rfl) fun a hf => zL hf hc sc_3 m2 rfl fun a w hf hc => zP hf rfl (pFA fa_88_2 rfl) fun a hf => zP hf rfl (pFA fa_43_0 rfl) fun a hf => zL hf hc sc_3 m2 rfl fun a w hf hc => sp 2 hf rfl fun a hf => stCc 8 (fun a => Has 81 a [(1,pq b_1),(2,pq b_2),(20,.pointer (some ⟨b_1,6,none⟩)),(21,.pointer (some ⟨b_1,7,none⟩)),(22,i6 d.Clean.Hi),(23,.pointer (some ⟨b_1,4,none⟩)),(24,.pointer (some ⟨b_1,4,none⟩)),(25,i6 d.Found.Lo),(26,.bool (decide (d.Found.Lo ≤ d.Clean.Hi))),(27,.bool (decide (d.Found.Lo ≤ d.Clean.Hi))),(35,.bool ((decide (d.Found.Lo ≤ d.Clean.Hi)) || (decide (d.Strong.Lo < d.Found.Hi))))]) hc ?_ ?_
  ·cases hb : (decide (d.Found.Lo ≤ d.Clean.Hi))
   ·rw [hb] at hf
    refine zP hf rfl (pFA fa_88_2 rfl) fun a hf => zP hf rfl (pFA fa_43_1 rfl) fun a hf => zL hf hc sc_3 m2 rfl fun a w hf hc => zP hf rfl (pFA fa_88_1 rfl) fun a hf => zP hf rfl (pFA fa_43_0 rfl) fun a hf => zL hf hc sc_3 m2 rfl fun a w hf hc => sp 2 hf rfl fun a hf => cNil ⟨hf.kp rfl,hc⟩
   ·rw [hb] at hf
    refine stS hf rfl rfl rfl fun a hf => stS hf rfl rfl rfl fun a hf => stS hf rfl rfl rfl fun a hf => stS hf rfl rfl rfl fun a hf => stS hf rfl rfl rfl fun a hf => stS hf rfl rfl rfl fun a hf => stS hf rfl rfl rfl fun a hf => sp 1 hf rfl fun a hf => cNil ⟨hf.kp rfl,hc⟩
  intro a w ⟨hf,hc⟩
  refine sp 1 hf rfl fun a hf => zT h ?_
  refine zI hf rfl hF ?_ ?_ <;> clear hF <;> intro hF
  ·refine zS fun K h => zP hf rfl (pBuildS (cells := [i6 0,i6 0]) bt_43 rfl rfl) fun a hf => zW hf hc sz_43 u1 rfl fun w hc => sp 1 hf rfl fun a hf => zT h ?_
   refine wp_ret ?_
   refine xBlkR ?_
   refine xThenR ?_
   obtain rfl := sj hF
   replace hc := (hc.drop k2).drop k0
   exact fnOut2 (by simp) rfl Tryz.results25 hf hc (rv_cellN (vs := [i6 0,i6 0]) ag_43 rfl rfl (cells_box (n := 2) m0 rfl)) (show look _ 3 = _ from rfl) ⟨rfl,(hc.drop k0)⟩
  ·refine wp_skip ?_
   refine h2 _ _ ?_
   refine wp_seq_k fun K7 h7 => cQ hc follows_mx (by kernel_rfl) ?_
   refine qE hf rfl rfl rfl (Pu.ev (pFA fa_88_2 rfl)) fun a hf => qE hf rfl rfl rfl (Pu.ev (pFA fa_43_1 rfl)) fun a hf => qE hf rfl rfl rfl (eLd1 sc_3 rfl (cell_box m2 rfl)) fun a hf => qE hf rfl rfl rfl (Pu.ev (pFA fa_88_3 rfl)) fun a hf => qE hf rfl rfl rfl (Pu.ev (pFA fa_43_0 rfl)) fun a hf => qE hf rfl rfl rfl (eLd1 sc_3 rfl (cell_box m2 rfl)) fun a hf => qE hf rfl rfl rfl (Pu.ev (pSub rfl rfl)) fun a hf => qE hf rfl rfl rfl (Pu.ev (pFA fa_88_2 rfl)) fun a hf => qE hf rfl rfl rfl (Pu.ev (pFA fa_43_0 rfl)) fun a hf => qE hf rfl rfl rfl (eLd1 sc_3 rfl (cell_box m2 rfl)) fun a hf => qE hf rfl rfl rfl (Pu.ev (pFA fa_88_3 rfl)) fun a hf => qE hf rfl rfl rfl (Pu.ev (pFA fa_43_1 rfl)) fun a hf => qE hf rfl rfl rfl (eLd1 sc_3 rfl (cell_box m2 rfl)) fun a hf => ?_
   refine qE hf rfl rfl rfl (Pu.ev (pSub rfl rfl)) fun a hf => qE hf rfl rfl rfl (Pu.ev (pA rfl)) fun a hf => qE hf rfl rfl rfl (Pu.ev (pA rfl)) fun a hf => ?_
   intro w hc
   refine h7 _ _ ?_
   refine wp_seq_k fun K8 h8 => ?_
   obtain ⟨un,hun,hF⟩ := bnd_some hF
   obtain ⟨un_1,hun_1,hF⟩ := bnd_some hF
   refine regionE (fun θ => (⟨none,none,1,pq b_1⟩::⟨none,none,2,pq b_2⟩::⟨none,none,4,i6 (W (d.Found.Hi - d.Clean.Lo))⟩::⟨none,none,5,i6 (W (d.Found.Lo - d.Clean.Hi))⟩::⟨some 0,none,51,pq b_1⟩::⟨some 1,none,52,pq b_1⟩::⟨some 2,none,53,i6 d.Rate.Lo⟩::⟨some 3,none,54,.pointer (some ⟨b_1,2,none⟩)⟩::⟨some 4,none,55,.pointer (some ⟨b_1,2,none⟩)⟩::⟨some 5,none,56,i6 d.Strong.Lo⟩::⟨some 6,none,57,.pointer (some ⟨b_1,4,none⟩)⟩::⟨some 7,none,58,.pointer (some ⟨b_1,5,none⟩)⟩::⟨some 8,none,59,i6 d.Found.Hi⟩::⟨some 9,none,60,i6 (W (d.Strong.Lo - d.Found.Hi))⟩::⟨some 10,none,61,i6 (W (d.Rate.Lo * (W (d.Strong.Lo - d.Found.Hi))))⟩::⟨some 11,none,62,i6 (W (d.Found.Hi - d.Clean.Lo))⟩::⟨some 12,none,63,i6 (W ((W (d.Rate.Lo * (W (d.Strong.Lo - d.Found.Hi)))).tdiv (W (d.Found.Hi - d.Clean.Lo))))⟩::⟨some 13,none,64,pq b_1⟩::⟨some 14,none,65,.pointer (some ⟨b_1,1,none⟩)⟩::⟨some 15,none,66,i6 d.Rate.Hi⟩::⟨some 16,none,67,.pointer (some ⟨b_1,2,none⟩)⟩::⟨some 17,none,68,.pointer (some ⟨b_1,3,none⟩)⟩::⟨some 18,none,69,i6 d.Strong.Hi⟩::⟨some 19,none,70,.pointer (some ⟨b_1,4,none⟩)⟩::⟨some 20,none,71,.pointer (some ⟨b_1,4,none⟩)⟩::⟨some 21,none,72,i6 d.Found.Lo⟩::⟨some 22,none,73,i6 (W (d.Strong.Hi - d.Found.Lo))⟩::⟨some 23,none,74,i6 (W (d.Rate.Hi * (W (d.Strong.Hi - d.Found.Lo))))⟩::⟨some 24,none,75,i6 (W (d.Found.Lo - d.Clean.Hi))⟩::⟨some 25,none,76,i6 (W ((W (d.Rate.Hi * (W (d.Strong.Hi - d.Found.Lo)))) + (W (d.Found.Lo - d.Clean.Hi))))⟩::⟨some 26,none,77,i6 (W ((W ((W (d.Rate.Hi * (W (d.Strong.Hi - d.Found.Lo)))) + (W (d.Found.Lo - d.Clean.Hi)))) - 1))⟩::⟨some 27,none,78,i6 (W (d.Found.Lo - d.Clean.Hi))⟩::⟨some 28,none,79,i6 (W ((W ((W ((W (d.Rate.Hi * (W (d.Strong.Hi - d.Found.Lo)))) + (W (d.Found.Lo - d.Clean.Hi)))) - 1)).tdiv (W (d.Found.Lo - d.Clean.Hi))))⟩::⟨some 29,none,80,.agg #[i6 (W ((W (d.Rate.Lo * (W (d.Strong.Lo - d.Found.Hi)))).tdiv (W (d.Found.Hi - d.Clean.Lo)))),i6 (W ((W ((W ((W (d.Rate.Hi * (W (d.Strong.Hi - d.Found.Lo)))) + (W (d.Found.Lo - d.Clean.Hi)))) - 1)).tdiv (W (d.Found.Lo - d.Clean.Hi))))]⟩::⟨some 31,none,3,i6 0⟩::[])) (fun E θ => .row (some ⟨b_3,0,none⟩) 4 (([d.Rate,d.Strong,d.Found,d.Clean] : List api_Span).map enc_api_Span) 43 2::(bif E 30 then .box b_2 [i6 (W ((W (d.Rate.Lo * (W (d.Strong.Lo - d.Found.Hi)))).tdiv (W (d.Found.Hi - d.Clean.Lo)))),i6 (W ((W ((W ((W (d.Rate.Hi * (W (d.Strong.Hi - d.Found.Lo)))) + (W (d.Found.Lo - d.Clean.Hi)))) - 1)).tdiv (W (d.Found.Lo - d.Clean.Hi))))] 43 else .box b_2 [i6 0,i6 0] 43)::.box b_1 [i6 d.Rate.Lo,i6 d.Rate.Hi,i6 d.Strong.Lo,i6 d.Strong.Hi,i6 d.Found.Lo,i6 d.Found.Hi,i6 d.Clean.Lo,i6 d.Clean.Hi] 88::Lf) [] (fun a w => Has 81 a [(2,pq b_2),(3,i6 0)] ∧ Ctx G (.row (some ⟨b_3,0,none⟩) 4 (([d.Rate,d.Strong,d.Found,d.Clean] : List api_Span).map enc_api_Span) 43 2::.box b_2 [i6 (W ((W (d.Rate.Lo * (W (d.Strong.Lo - d.Found.Hi)))).tdiv (W (d.Found.Hi - d.Clean.Lo)))),i6 (W ((W ((W ((W (d.Rate.Hi * (W (d.Strong.Hi - d.Found.Lo)))) + (W (d.Found.Lo - d.Clean.Hi)))) - 1)).tdiv (W (d.Found.Lo - d.Clean.Hi))))] 43::.box b_1 [i6 d.Rate.Lo,i6 d.Rate.Hi,i6 d.Strong.Lo,i6 d.Strong.Hi,i6 d.Found.Lo,i6 d.Found.Hi,i6 d.Clean.Lo,i6 d.Clean.Hi] 88::Lf) w) follows_mx (by kernel_rfl) (by kernel_rfl) (HasE.of hf ⟨rfl,rfl,rfl,rfl,trivial,trivial,trivial,trivial,trivial,trivial,trivial,trivial,trivial,trivial,trivial,trivial,trivial,trivial,trivial,trivial,trivial,trivial,trivial,trivial,trivial,trivial,trivial,trivial,trivial,trivial,trivial,trivial,trivial,trivial,trivial,trivial⟩) hc ⟨?_,?_,?_,?_,?_,?_,?_,?_,?_,?_,?_,?_,?_,?_,?_,?_,?_,?_,?_,?_,?_,?_,?_,?_,?_,?_,?_,?_,?_,?_,?_,?_,trivial⟩ ?_ ?_
   ·intro E θ a w hD hi hp he hc
    have hf := he.h0.mT he 0 rfl
    refine zP hf rfl (pFA fa_88_0 rfl) fun a hf => zD θ he hi hf 4 rfl rfl rfl hc
   ·intro E θ a w hD hi hp he hc
    have e0 := hp.o 0 rfl
    have hf := he.h0.mP he 4 rfl e0
    refine zP hf rfl (pFA fa_43_0 rfl) fun a hf => zD θ he hi hf 5 rfl rfl rfl hc
   ·intro E θ a w hD hi hp he hc
    have e1 := hp.o 1 rfl
    have hf := he.h0.mP he 5 rfl e1
    refine zL hf hc sc_3 m2 rfl fun a w hf hc => zD θ he hi hf 6 rfl rfl rfl hc
   ·intro E θ a w hD hi hp he hc
    have hf := he.h0.mT he 0 rfl
    refine zP hf rfl (pFA fa_88_1 rfl) fun a hf => zD θ he hi hf 7 rfl rfl rfl hc
   ·intro E θ a w hD hi hp he hc
    have e3 := hp.o 3 rfl
    have hf := he.h0.mP he 7 rfl e3
    refine zP hf rfl (pFA fa_43_0 rfl) fun a hf => zD θ he hi hf 8 rfl rfl rfl hc
   ·intro E θ a w hD hi hp he hc
    have e4 := hp.o 4 rfl
    have hf := he.h0.mP he 8 rfl e4
    refine zL hf hc sc_3 m2 rfl fun a w hf hc => zD θ he hi hf 9 rfl rfl rfl hc
   ·intro E θ a w hD hi hp he hc
    have hf := he.h0.mT he 0 rfl
    refine zP hf rfl (pFA fa_88_2 rfl) fun a hf => zD θ he hi hf 10 rfl rfl rfl hc
   ·intro E θ a w hD hi hp he hc
    have e6 := hp.o 6 rfl
    have hf := he.h0.mP he 10 rfl e6
    refine zP hf rfl (pFA fa_43_1 rfl) fun a hf => zD θ he hi hf 11 rfl rfl rfl hc
   ·intro E θ a w hD hi hp he hc
    have e7 := hp.o 7 rfl
    have hf := he.h0.mP he 11 rfl e7
    refine zL hf hc sc_3 m2 rfl fun a w hf hc => zD θ he hi hf 12 rfl rfl rfl hc
   ·intro E θ a w hD hi hp he hc
    have e5 := hp.o 5 rfl
    have e8 := hp.o 8 rfl
    have hf := (he.h0.mP he 9 rfl e5).mP he 12 rfl e8
    refine sp 1 hf rfl fun a hf => zD θ he hi hf 13 rfl rfl rfl hc
   ·intro E θ a w hD hi hp he hc
    have e2 := hp.o 2 rfl
    have e9 := hp.o 9 rfl
    have hf := (he.h0.mP he 6 rfl e2).mP he 13 rfl e9
    refine sp 1 hf rfl fun a hf => zD θ he hi hf 14 rfl rfl rfl hc
   ·intro E θ a w hD hi hp he hc
    have hf := he.h0.mT he 2 rfl
    refine sp 1 hf rfl fun a hf => zD θ he hi hf 15 rfl rfl rfl hc
   ·intro E θ a w hD hi hp he hc
    have e10 := hp.o 10 rfl
    have e11 := hp.o 11 rfl
    have hf := (he.h0.mP he 14 rfl e10).mP he 15 rfl e11
    refine zP hf rfl (pQuo rfl rfl (nz_spec hun)) fun a hf => zD θ he hi hf 16 rfl rfl rfl hc
   ·intro E θ a w hD hi hp he hc
    have hf := he.h0.mT he 0 rfl
    refine zP hf rfl (pFA fa_88_0 rfl) fun a hf => zD θ he hi hf 17 rfl rfl rfl hc
   ·intro E θ a w hD hi hp he hc
    have e13 := hp.o 13 rfl
    have hf := he.h0.mP he 17 rfl e13
    refine zP hf rfl (pFA fa_43_1 rfl) fun a hf => zD θ he hi hf 18 rfl rfl rfl hc
   ·intro E θ a w hD hi hp he hc
    have e14 := hp.o 14 rfl
    have hf := he.h0.mP he 18 rfl e14
    refine zL hf hc sc_3 m2 rfl fun a w hf hc => zD θ he hi hf 19 rfl rfl rfl hc
   ·intro E θ a w hD hi hp he hc
    have hf := he.h0.mT he 0 rfl
    refine zP hf rfl (pFA fa_88_1 rfl) fun a hf => zD θ he hi hf 20 rfl rfl rfl hc
   ·intro E θ a w hD hi hp he hc
    have e16 := hp.o 16 rfl
    have hf := he.h0.mP he 20 rfl e16
    refine zP hf rfl (pFA fa_43_1 rfl) fun a hf => zD θ he hi hf 21 rfl rfl rfl hc
   ·intro E θ a w hD hi hp he hc
    have e17 := hp.o 17 rfl
    have hf := he.h0.mP he 21 rfl e17
    refine zL hf hc sc_3 m2 rfl fun a w hf hc => zD θ he hi hf 22 rfl rfl rfl hc
   ·intro E θ a w hD hi hp he hc
    have hf := he.h0.mT he 0 rfl
    refine zP hf rfl (pFA fa_88_2 rfl) fun a hf => zD θ he hi hf 23 rfl rfl rfl hc
   ·intro E θ a w hD hi hp he hc
    have e19 := hp.o 19 rfl
    have hf := he.h0.mP he 23 rfl e19
    refine zP hf rfl (pFA fa_43_0 rfl) fun a hf => zD θ he hi hf 24 rfl rfl rfl hc
   ·intro E θ a w hD hi hp he hc
    have e20 := hp.o 20 rfl
    have hf := he.h0.mP he 24 rfl e20
    refine zL hf hc sc_3 m2 rfl fun a w hf hc => zD θ he hi hf 25 rfl rfl rfl hc
   ·intro E θ a w hD hi hp he hc
    have e18 := hp.o 18 rfl
    have e21 := hp.o 21 rfl
    have hf := (he.h0.mP he 22 rfl e18).mP he 25 rfl e21
    refine sp 1 hf rfl fun a hf => zD θ he hi hf 26 rfl rfl rfl hc
   ·intro E θ a w hD hi hp he hc
    have e15 := hp.o 15 rfl
    have e22 := hp.o 22 rfl
    have hf := (he.h0.mP he 19 rfl e15).mP he 26 rfl e22
    refine sp 1 hf rfl fun a hf => zD θ he hi hf 27 rfl rfl rfl hc
   ·intro E θ a w hD hi hp he hc
    have hf := he.h0.mT he 3 rfl
    refine sp 1 hf rfl fun a hf => zD θ he hi hf 28 rfl rfl rfl hc
   ·intro E θ a w hD hi hp he hc
    have e23 := hp.o 23 rfl
    have e24 := hp.o 24 rfl
    have hf := (he.h0.mP he 27 rfl e23).mP he 28 rfl e24
    refine sp 1 hf rfl fun a hf => zD θ he hi hf 29 rfl rfl rfl hc
   ·intro E θ a w hD hi hp he hc
    have e25 := hp.o 25 rfl
    have hf := he.h0.mP he 29 rfl e25
    refine sp 1 hf rfl fun a hf => zD θ he hi hf 30 rfl rfl rfl hc
   ·intro E θ a w hD hi hp he hc
    have hf := he.h0.mT he 3 rfl
    refine sp 1 hf rfl fun a hf => zD θ he hi hf 31 rfl rfl rfl hc
   ·intro E θ a w hD hi hp he hc
    have e26 := hp.o 26 rfl
    have e27 := hp.o 27 rfl
    have hf := (he.h0.mP he 30 rfl e26).mP he 31 rfl e27
    refine zP hf rfl (pQuo rfl rfl (nz_spec hun_1)) fun a hf => zD θ he hi hf 32 rfl rfl rfl hc
   ·intro E θ a w hD hi hp he hc
    have e12 := hp.o 12 rfl
    have e28 := hp.o 28 rfl
    have hf := (he.h0.mP he 16 rfl e12).mP he 32 rfl e28
    refine zP hf rfl (pBuildS (cells := [i6 (W ((W (d.Rate.Lo * (W (d.Strong.Lo - d.Found.Hi)))).tdiv (W (d.Found.Hi - d.Clean.Lo)))),i6 (W ((W ((W ((W (d.Rate.Hi * (W (d.Strong.Hi - d.Found.Lo)))) + (W (d.Found.Lo - d.Clean.Hi)))) - 1)).tdiv (W (d.Found.Lo - d.Clean.Hi))))]) bt_43 rfl rfl) fun a hf => zD θ he hi hf 33 rfl rfl rfl hc
   ·intro E θ a w hD hi hp he hc
    have e29 := hp.o 29 rfl
    try dsimp only at hc
    rw [hi] at hc
    have hf := (he.h0.mT he 1 rfl).mP he 33 rfl e29
    refine zW hf hc sz_43 u1 rfl fun w hc => zG θ he hi hf rfl ?_
    try dsimp only
    rw [updE_self E 30]
    exact hc
   ·intro E θ a w hD hi hp he hc
    have hf := he.h0
    refine sp 1 hf rfl fun a hf => zD θ he hi hf 34 rfl rfl rfl hc
   ·intro E θ a w hall he hc
    have hf := he.h0
    have e30 := hall 30 rfl
    have e31 := hall 31 rfl
    replace hf := hf.more he 34 rfl (onP e31)
    replace hf := hf.more he 1 rfl (onT)
    try dsimp only at hc
    rw [e30] at hc
    exact ⟨hf.kp rfl,hc⟩
   rintro a w ⟨hf,hc⟩
   refine h8 _ _ ?_
   refine wp_ret ?_
   obtain rfl := sj hF
   replace hc := (hc.drop k2).drop k0
   exact fnOut2 (by simp) rfl Tryz.results25 hf hc (rv_cellN (vs := [i6 (W ((W (d.Rate.Lo * (W (d.Strong.Lo - d.Found.Hi)))).tdiv (W (d.Found.Hi - d.Clean.Lo)))),i6 (W ((W ((W ((W (d.Rate.Hi * (W (d.Strong.Hi - d.Found.Lo)))) + (W (d.Found.Lo - d.Clean.Hi)))) - 1)).tdiv (W (d.Found.Lo - d.Clean.Hi))))]) ag_43 rfl rfl (cells_box (n := 2) m0 rfl)) (show look _ 3 = _ from rfl) ⟨rfl,(hc.drop k0)⟩

def kit_Same_int_b7 (N : Nat) (a_ : List Int) (b_ : List Int) (i_1 : Int) : Option (Step (Int) (Bool)) :=
 cond (decide (i_1 < ((a_.length : Nat) : Int)))
 (Option.bind (getI a_ i_1) fun e_1 =>
 Option.bind (getI b_ i_1) fun e_2 =>
 cond (e_1 != e_2)
 (some (.ret false))
 (some (.cont (W (i_1 + 1)))))
 (some (.brk i_1))
def kit_Same_int (N : Nat) (a_ : List Int) (b_ : List Int) : Option (Bool) :=
 cond (((a_.length : Nat) : Int) != ((b_.length : Nat) : Int))
 (some false)
 (Option.bind (loopO (fun s7 => kit_Same_int_b7 N a_ b_ s7) N 0) fun x7 =>
 exK x7 (fun s7 => some true) some)
theorem kit_Same_int_ok {N : Nat} {G : Pers} {Lf : List Ent} {w : World} (a_ : List Int) (b_ : List Int) {a__p : Option Addr} {a__c : Nat} {b__p : Option Addr} {b__c : Nat} (h_a_ : Rd G 1 a__p a__c (a_.map encI_i64)) (h_b_ : Rd G 1 b__p b__c (b_.map encI_i64)) (hc : Ctx G (Lf) w) {res : Bool} (hF : kit_Same_int N a_ b_ = some res) : Calls Tryz.prog 26 #[.slice a__p a_.length a__c,.slice b__p b_.length b__c] w (fun e w => e = .returned (.bool res) ∧ Ctx G (Lf) w) := by
 unfold kit_Same_int at hF
 refine fnIn Tryz.func26 rfl Tryz.ntmps26 rfl fun a hf => zS fun K h => sp 1 hf rfl fun a hf => zT h ?_
 refine wp_seq_k fun K2 h2 => zS fun K h => sp 1 hf rfl fun a hf => zP hf rfl (pLenS Tryz.underlying23 rfl) fun a hf => sp 1 hf rfl fun a hf => zP hf rfl (pLenS Tryz.underlying23 rfl) fun a hf => sp 1 hf rfl fun a hf => zT h ?_
 refine zI hf rfl hF ?_ ?_ <;> clear hF <;> intro hF
 ·refine zS fun K h => sp 1 hf rfl fun a hf => zT h ?_
  refine wp_ret ?_
  refine xThenR ?_
  obtain rfl := sj hF
  exact zO1 Tryz.results26 hf rfl ⟨rfl,hc⟩
 ·refine wp_skip ?_
  refine h2 _ _ ?_
  refine wp_seq_k fun K5 h5 => zS fun K h => sp 1 hf rfl fun a hf => zT h ?_
  refine wp_block ?_
  obtain ⟨x7,hx7,hF⟩ := bnd_some hF
  let S7 : Int → Act → World → Prop := (fun (zz : Int) a w => Has 26 a [(0,.slice a__p a_.length a__c),(1,.slice b__p b_.length b__c),(5,i6 zz)] ∧ Ctx G (Lf) w)
  have hr7 : ∀ (zz : Int) a w,x7 = .go zz → S7 zz a w → K5 a w := by
   rintro i_1 a w rfl ⟨hf,hc⟩
   replace hF := exK_go hF
   refine h5 _ _ ?_
   refine zS fun K h => sp 1 hf rfl fun a hf => zT h ?_
   refine wp_ret ?_
   obtain rfl := sj hF
   exact zO1 Tryz.results26 hf rfl ⟨rfl,hc⟩
  have ho7 : ∀ r,x7 = .out r → r = res := by
   rintro r rfl
   exact sj hF
  refine cLoop N (loopW (S := S7) (x := x7) ?_ N 0 _ _ ⟨hf.kp rfl,hc⟩ hx7)
  clear hF hf hc
  rintro i_1 st7 a w KB7 ⟨hf,hc⟩ hF hfin7 hK7
  unfold kit_Same_int_b7 at hF
  refine wp_seq_k fun K9 h9 => zS fun K h => sp 2 hf rfl fun a hf => zP hf rfl (pLenS Tryz.underlying23 rfl) fun a hf => sp 1 hf rfl fun a hf => zT h ?_
  refine zI hf rfl hF ?_ ?_ <;> clear hF <;> intro hF
  ·refine wp_skip ?_
   refine h9 _ _ ?_
   refine wp_seq_k fun K11 h11 => wp_block ?_
   refine wp_seq_k fun K12 h12 => ?_
   obtain ⟨e_1,he_1,hF⟩ := bnd_some hF
   obtain ⟨b_1,o,qa,qp⟩ := h_a_.atm he_1
   obtain ⟨e_2,he_2,hF⟩ := bnd_some hF
   obtain ⟨b_2,o_1,qa_1,qp_1⟩ := h_b_.atm he_2
   refine cQ hc follows_mx (by kernel_rfl) ?_
   refine qE hf rfl rfl rfl (Pu.ev (pM rfl)) fun a hf => qE hf rfl rfl rfl (Pu.ev (pM rfl)) fun a hf => qE hf rfl rfl rfl (Pu.ev (pIA Tryz.underlying23 sz_3 rfl rfl qa)) fun a hf => qE hf rfl rfl rfl (eLd1 sc_3 rfl (cell_pc (j := 0) qp rfl)) fun a hf => qE hf rfl rfl rfl (Pu.ev (pM rfl)) fun a hf => qE hf rfl rfl rfl (Pu.ev (pM rfl)) fun a hf => qE hf rfl rfl rfl (Pu.ev (pIA Tryz.underlying23 sz_3 rfl rfl qa_1)) fun a hf => qE hf rfl rfl rfl (eLd1 sc_3 rfl (cell_pc (j := 0) qp_1 rfl)) fun a hf => qE hf rfl rfl rfl (Pu.ev (pNe rfl rfl)) fun a hf => ?_
   intro w hc
   refine h12 _ _ ?_
   refine zI hf rfl hF ?_ ?_ <;> clear hF <;> intro hF
   ·refine zS fun K h => sp 1 hf rfl fun a hf => zT h ?_
    refine wp_ret ?_
    refine xBlkR ?_
    refine xThenR ?_
    refine xThenR ?_
    have he := sj hF
    rw [← he] at hfin7
    replace hF := ho7 _ hfin7
    refine xBlkR ?_
    refine xThenR ?_
    obtain rfl := hF
    exact zO1 Tryz.results26 hf rfl ⟨rfl,hc⟩
   ·refine wp_skip ?_
    refine h11 _ _ ?_
    refine cReg ?_
    refine sp 3 hf rfl fun a hf => cNil ?_
    exact hK7 (W (i_1 + 1)) _ _ (sj hF).symm ⟨hf.kp rfl,hc⟩
  ·refine wp_exit ?_
   refine xThen ?_
   refine xThen ?_
   have he := sj hF
   rw [← he] at hfin7
   refine cHit ?_
   exact hr7 _ _ _ hfin7 ⟨hf.kp rfl,hc⟩

def gauge_methods_1 (s_ : api_Span) : Bool :=
 (gauge_right s_ (-1000000000000) 1000000000000)
theorem gauge_methods_1_ok {G : Pers} {Lf : List Ent} {w : World} (s_ : api_Span)   (hc : Ctx G (Lf) w) {res : Bool} (hF : gauge_methods_1 s_ = res) : Calls Tryz.prog 74 #[.agg #[i6 s_.Lo,i6 s_.Hi]] w (fun e w => e = .returned (.bool res) ∧ Ctx G (Lf) w) := by
 unfold gauge_methods_1 at hF
 refine fnIn Tryz.func74 rfl Tryz.ntmps74 rfl fun a hf => zS fun K h => zB hf hc rfl fun b_1 a w hf hc => sp 1 hf rfl fun a hf => zT h ?_
 refine zS fun K h => zN hf hc ag_43 m0 rfl fun a w hf hc => zQ (v := .bool (gauge_right s_ (-1000000000000) 1000000000000)) hf hc en_40 rfl (fun w hc => gauge_right_ok s_ (-1000000000000) 1000000000000 hc rfl) fun a w hf hc => sp 1 hf rfl fun a hf => zT h ?_
 refine wp_ret ?_
 obtain rfl := hF
 replace hc := hc.drop k0
 exact zO1 Tryz.results74 hf rfl ⟨rfl,hc⟩

def gauge_every_api_Span_1_s2 (x : api_Span) : Bool :=
 (!(gauge_methods_1 x))
theorem gauge_every_api_Span_1_s2_ok {G : Pers} {Lf : List Ent} {w : World} (x : api_Span) {b_ : Nat}  (hc : Ctx G (.box b_ [.func (.func 74) #[] #[]] 119::Lf) w) {res : Bool} (hF : gauge_every_api_Span_1_s2 x = res) : Calls Tryz.prog 73 #[.agg #[i6 x.Lo,i6 x.Hi],pq b_] w (fun e w => e = .returned (.bool res) ∧ Ctx G (.box b_ [.func (.func 74) #[] #[]] 119::Lf) w) := by
 unfold gauge_every_api_Span_1_s2 at hF
 refine fnIn Tryz.func73 rfl Tryz.ntmps73 rfl fun a hf => zS fun K h => zB hf hc rfl fun b_1 a w hf hc => sp 1 hf rfl fun a hf => zT h ?_
 refine zS fun K h => zL hf hc sc_119 m1 rfl fun a w hf hc => zN hf hc ag_43 m0 rfl fun a w hf hc => zQ (v := .bool (gauge_methods_1 x)) hf hc en_74 rfl (fun w hc => gauge_methods_1_ok x hc rfl) fun a w hf hc => sp 2 hf rfl fun a hf => zT h ?_
 refine wp_ret ?_
 obtain rfl := hF
 replace hc := hc.drop k0
 exact zO1 Tryz.results73 hf rfl ⟨rfl,hc⟩

def slices_IndexFunc_Lapi_Span_api_Span_s2_b4 (N : Nat) (s_ : List api_Span) (x : Int) : Option (Step (Int) (Int)) :=
 cond (decide (x < ((s_.length : Nat) : Int)))
 (Option.bind (getI s_ x) fun e_1 =>
 cond (gauge_every_api_Span_1_s2 e_1)
 (some (.ret x))
 (some (.cont (W (x + 1)))))
 (some (.brk x))
def slices_IndexFunc_Lapi_Span_api_Span_s2 (N : Nat) (s_ : List api_Span) : Option (Int) :=
 Option.bind (loopO (fun s4 => slices_IndexFunc_Lapi_Span_api_Span_s2_b4 N s_ s4) N 0) fun x4 =>
 exK x4 (fun s4 => some (-1)) some
theorem slices_IndexFunc_Lapi_Span_api_Span_s2_ok {N : Nat} {G : Pers} {Lf : List Ent} {w : World} (s_ : List api_Span) {s__p : Option Addr} {s__c : Nat} {b_ : Nat} (h_s_ : Rd G 2 s__p s__c (s_.map enc_api_Span)) (hc : Ctx G (.box b_ [.func (.func 74) #[] #[]] 119::Lf) w) {res : Int} (hF : slices_IndexFunc_Lapi_Span_api_Span_s2 N s_ = some res) : Calls Tryz.prog 89 #[.slice s__p s_.length s__c,.func (.func 73) #[] #[pq b_]] w (fun e w => e = .returned (i6 res) ∧ Ctx G (.box b_ [.func (.func 74) #[] #[]] 119::Lf) w) := by
 unfold slices_IndexFunc_Lapi_Span_api_Span_s2 at hF
 refine fnIn Tryz.func89 rfl Tryz.ntmps89 rfl fun a hf => zS fun K h => sp 1 hf rfl fun a hf => zT h ?_
 refine wp_seq_k fun K2 h2 => zS fun K h => sp 1 hf rfl fun a hf => zP hf rfl (pLenS Tryz.underlying37 rfl) fun a hf => sp 1 hf rfl fun a hf => zT h ?_
 refine wp_block ?_
 obtain ⟨x4,hx4,hF⟩ := bnd_some hF
 let S4 : Int → Act → World → Prop := (fun (zz : Int) a w => Has 19 a [(0,.slice s__p s_.length s__c),(1,.func (.func 73) #[] #[pq b_]),(7,i6 ((s_.length : Nat) : Int)),(8,i6 zz)] ∧ Ctx G (.box b_ [.func (.func 74) #[] #[]] 119::Lf) w)
 have hr4 : ∀ (zz : Int) a w,x4 = .go zz → S4 zz a w → K2 a w := by
  rintro x a w rfl ⟨hf,hc⟩
  replace hF := exK_go hF
  refine h2 _ _ ?_
  refine zS fun K h => sp 1 hf rfl fun a hf => zT h ?_
  refine wp_ret ?_
  obtain rfl := sj hF
  exact zO1 Tryz.results89 hf rfl ⟨rfl,hc⟩
 have ho4 : ∀ r,x4 = .out r → r = res := by
  rintro r rfl
  exact sj hF
 refine cLoop N (loopW (S := S4) (x := x4) ?_ N 0 _ _ ⟨hf.kp rfl,hc⟩ hx4)
 clear hF hf hc
 rintro x st4 a w KB4 ⟨hf,hc⟩ hF hfin4 hK4
 unfold slices_IndexFunc_Lapi_Span_api_Span_s2_b4 at hF
 refine zS fun K h => sp 1 hf rfl fun a hf => zT h ?_
 refine wp_seq_k fun K7 h7 => zI hf rfl hF ?_ ?_ <;> clear hF <;> intro hF
 ·refine wp_skip ?_
  refine h7 _ _ ?_
  refine wp_seq_k fun K8 h8 => wp_block ?_
  refine zS fun K h => sp 2 hf rfl fun a hf => zT h ?_
  refine zS fun K h => sp 3 hf rfl fun a hf => ?_
  obtain ⟨e_1,he_1,hF⟩ := bnd_some hF
  obtain ⟨b_1,o,qa,qp⟩ := h_s_.atm he_1
  refine zP hf rfl (pIA Tryz.underlying37 sz_43 rfl rfl qa) fun a hf => zE hf hc rfl (eLdN (vs := [i6 e_1.Lo,i6 e_1.Hi]) ag_43 rfl rfl (cells_pc qp (n := 2) (o' := 0) rfl)) fun a w hf hc => zQ (v := .bool (gauge_every_api_Span_1_s2 e_1)) hf hc en_73 rfl (fun w hc => (gauge_every_api_Span_1_s2_ok e_1 (hc.pick k0) rfl).mono fun e w h => ⟨h.1,(h.2.unpick k0)⟩) fun a w hf hc => zT h ?_
  refine zI hf rfl hF ?_ ?_ <;> clear hF <;> intro hF
  ·refine zS fun K h => sp 2 hf rfl fun a hf => zT h ?_
   refine wp_ret ?_
   refine xBlkR ?_
   refine xThenR ?_
   refine xThenR ?_
   have he := sj hF
   rw [← he] at hfin4
   replace hF := ho4 _ hfin4
   refine xBlkR ?_
   refine xThenR ?_
   obtain rfl := hF
   exact zO1 Tryz.results89 hf rfl ⟨rfl,hc⟩
  ·refine wp_skip ?_
   refine h8 _ _ ?_
   refine cReg ?_
   refine sp 2 hf rfl fun a hf => cNil ?_
   exact hK4 (W (x + 1)) _ _ (sj hF).symm ⟨hf.kp rfl,hc⟩
 ·refine wp_exit ?_
  refine xThen ?_
  refine xThen ?_
  have he := sj hF
  rw [← he] at hfin4
  refine cHit ?_
  exact hr4 _ _ _ hfin4 ⟨hf.kp rfl,hc⟩

def slices_ContainsFunc_Lapi_Span_api_Span_s2 (N : Nat) (s_ : List api_Span) : Option (Bool) :=
 Option.bind (slices_IndexFunc_Lapi_Span_api_Span_s2 N s_) fun r =>
 some (decide (0 ≤ r))
theorem slices_ContainsFunc_Lapi_Span_api_Span_s2_ok {N : Nat} {G : Pers} {Lf : List Ent} {w : World} (s_ : List api_Span) {s__p : Option Addr} {s__c : Nat} {b_ : Nat} (h_s_ : Rd G 2 s__p s__c (s_.map enc_api_Span)) (hc : Ctx G (.box b_ [.func (.func 74) #[] #[]] 119::Lf) w) {res : Bool} (hF : slices_ContainsFunc_Lapi_Span_api_Span_s2 N s_ = some res) : Calls Tryz.prog 72 #[.slice s__p s_.length s__c,.func (.func 73) #[] #[pq b_]] w (fun e w => e = .returned (.bool res) ∧ Ctx G (.box b_ [.func (.func 74) #[] #[]] 119::Lf) w) := by
 unfold slices_ContainsFunc_Lapi_Span_api_Span_s2 at hF
 refine fnIn Tryz.func72 rfl Tryz.ntmps72 rfl fun a hf => zS fun K h => sp 1 hf rfl fun a hf => zT h ?_
 refine zS fun K h => sp 2 hf rfl fun a hf => ?_
 obtain ⟨r,hr,hF⟩ := bnd_some hF
 refine zQ (v := i6 r) hf hc en_89 rfl (fun w hc => (slices_IndexFunc_Lapi_Span_api_Span_s2_ok s_ h_s_ (hc.pick k0) hr).mono fun e w h => ⟨h.1,(h.2.unpick k0)⟩) fun a w hf hc => sp 2 hf rfl fun a hf => zT h ?_
 refine wp_ret ?_
 obtain rfl := sj hF
 exact zO1 Tryz.results72 hf rfl ⟨rfl,hc⟩

def gauge_every_api_Span_s2 (N : Nat) (l : List api_Span) : Option (Bool) :=
 Option.bind (slices_ContainsFunc_Lapi_Span_api_Span_s2 N l) fun r =>
 some (!r)
theorem gauge_every_api_Span_s2_ok {N : Nat} {G : Pers} {Lf : List Ent} {w : World} (l : List api_Span) {l_p : Option Addr} {l_c : Nat} (h_l : Rd G 2 l_p l_c (l.map enc_api_Span)) (hc : Ctx G (Lf) w) {res : Bool} (hF : gauge_every_api_Span_s2 N l = some res) : Calls Tryz.prog 50 #[.slice l_p l.length l_c,.func (.func 74) #[] #[]] w (fun e w => e = .returned (.bool res) ∧ Ctx G (Lf) w) := by
 unfold gauge_every_api_Span_s2 at hF
 refine fnIn Tryz.func50 rfl Tryz.ntmps50 rfl fun a hf => zS fun K h => zB hf hc rfl fun b_1 a w hf hc => sp 1 hf rfl fun a hf => zT h ?_
 refine zS fun K h => sp 1 hf rfl fun a hf => zP hf rfl (pMF (us := [pq b_1]) rfl rfl) fun a hf => ?_
 obtain ⟨r,hr,hF⟩ := bnd_some hF
 refine zQ (v := .bool r) hf hc en_72 rfl (fun w hc => (slices_ContainsFunc_Lapi_Span_api_Span_s2_ok l h_l (hc.pick k0) hr).mono fun e w h => ⟨h.1,(h.2.unpick k0)⟩) fun a w hf hc => sp 2 hf rfl fun a hf => zT h ?_
 refine wp_ret ?_
 obtain rfl := sj hF
 replace hc := hc.drop k0
 exact zO1 Tryz.results50 hf rfl ⟨rfl,hc⟩

def gauge_methods (N : Nat) (l : List api_Span) : Option (Int) :=
 cond (!(gauge_in ((l.length : Nat) : Int) 1 20))
 (some 3)
 (Option.bind (gauge_every_api_Span_s2 N l) fun r =>
 cond (!r)
 (some 4)
 (some 0))
theorem gauge_methods_ok {N : Nat} {G : Pers} {Lf : List Ent} {w : World} (l : List api_Span) {l_p : Option Addr} {l_c : Nat} (h_l : Rd G 2 l_p l_c (l.map enc_api_Span)) (hc : Ctx G (Lf) w) {res : Int} (hF : gauge_methods N l = some res) : Calls Tryz.prog 52 #[.slice l_p l.length l_c] w (fun e w => e = .returned (i6 res) ∧ Ctx G (Lf) w) := by
 unfold gauge_methods at hF
 refine fnIn Tryz.func52 rfl Tryz.ntmps52 rfl fun a hf => zS fun K h => sp 1 hf rfl fun a hf => zT h ?_
 refine wp_seq_k fun K2 h2 => wp_block ?_
 refine zS fun K h => sp 1 hf rfl fun a hf => zP hf rfl (pLenS Tryz.underlying37 rfl) fun a hf => zQ (v := .bool (gauge_in ((l.length : Nat) : Int) 1 20)) hf hc en_21 rfl (fun w hc => gauge_in_ok ((l.length : Nat) : Int) 1 20 hc rfl) fun a w hf hc => sp 2 hf rfl fun a hf => zT h ?_
 refine zI hf rfl hF ?_ ?_ <;> clear hF <;> intro hF
 ·refine zS fun K h => sp 1 hf rfl fun a hf => zT h ?_
  refine wp_ret ?_
  refine xBlkR ?_
  refine xThenR ?_
  obtain rfl := sj hF
  exact zO1 Tryz.results52 hf rfl ⟨rfl,hc⟩
 ·refine zS fun K h => sp 1 hf rfl fun a hf => ?_
  obtain ⟨r,hr,hF⟩ := bnd_some hF
  refine zQ (v := .bool r) hf hc en_50 rfl (fun w hc => gauge_every_api_Span_s2_ok l h_l hc hr) fun a w hf hc => sp 2 hf rfl fun a hf => zT h ?_
  refine zI hf rfl hF ?_ ?_ <;> clear hF <;> intro hF
  ·refine zS fun K h => sp 1 hf rfl fun a hf => zT h ?_
   refine wp_ret ?_
   refine xBlkR ?_
   refine xThenR ?_
   obtain rfl := sj hF
   exact zO1 Tryz.results52 hf rfl ⟨rfl,hc⟩
  ·refine wp_skip ?_
   refine h2 _ _ ?_
   refine zS fun K h => sp 1 hf rfl fun a hf => zT h ?_
   refine wp_ret ?_
   obtain rfl := sj hF
   exact zO1 Tryz.results52 hf rfl ⟨rfl,hc⟩

def gauge_Apart_b18 (N : Nat) (l : List api_Span) (x : Int) (e_2 : api_Span) (x_1 : Int) : Option (Step (Int) (Step (Int × Int × Int × Int) (Int × Int × Int))) :=
 cond (decide (x_1 < ((l.length : Nat) : Int)))
 (Option.bind (getI l x_1) fun e_3 =>
 cond ((decide (x < x_1)) && ((decide (e_3.Hi < e_2.Lo)) || (decide (e_2.Hi < e_3.Lo))))
 (some (.ret (.brk (x,x_1,0,x))))
 (some (.cont (W (x_1 + 1)))))
 (some (.brk x_1))
def gauge_Apart_b10 (N : Nat) (l : List api_Span) (a_1 : Int) (b_1 : Int) (e_1 : Int) (x : Int) : Option (Step (Int × Int × Int × Int) (Int × Int × Int)) :=
 cond (decide (x < ((l.length : Nat) : Int)))
 (Option.bind (getI l x) fun e_2 =>
 Option.bind (loopO (fun s18 => gauge_Apart_b18 N l x e_2 s18) N 0) fun x18 =>
 exK x18 (fun s18 => some (.cont (a_1,b_1,e_1,W (x + 1)))) some)
 (some (.brk (a_1,b_1,e_1,x)))
def gauge_Apart (N : Nat) (l : List api_Span) : Option (Int × Int × Int) :=
 Option.bind (gauge_methods N l) fun r =>
 cond (r != 0)
 (some (0,0,r))
 (Option.bind (loopO (fun s10 => gauge_Apart_b10 N l s10.1 s10.2.1 s10.2.2.1 s10.2.2.2) N (0,0,5,0)) fun x10 =>
 exK x10 (fun s10 => some (s10.1,s10.2.1,s10.2.2.1)) some)
theorem gauge_Apart_ok {N : Nat} {G : Pers} {Lf : List Ent} {w : World} (l : List api_Span) {l_p : Option Addr} {l_c : Nat} (h_l : Rd G 2 l_p l_c (l.map enc_api_Span)) (hc : Ctx G (Lf) w) {res : Int × Int × Int} (hF : gauge_Apart N l = some res) : Calls Tryz.prog 27 #[.slice l_p l.length l_c] w (fun e w => e = .returned (.tuple #[i6 res.1,i6 res.2.1,i6 res.2.2]) ∧ Ctx G (Lf) w) := by
 unfold gauge_Apart at hF
 refine fnIn Tryz.func27 rfl Tryz.ntmps27 rfl fun a hf => zS fun K h => sp 3 hf rfl fun a hf => zT h ?_
 refine wp_scope_straight ?_
 refine wp_seq_k fun K2 h2 => zS fun K h => sp 1 hf rfl fun a hf => ?_
 obtain ⟨r,hr,hF⟩ := bnd_some hF
 refine zQ (v := i6 r) hf hc en_52 rfl (fun w hc => gauge_methods_ok l h_l hc hr) fun a w hf hc => sp 1 hf rfl fun a hf => zT h ?_
 refine zS fun K h => sp 2 hf rfl fun a hf => zT h ?_
 refine zI hf rfl hF ?_ ?_ <;> clear hF <;> intro hF
 ·refine zS fun K h => sp 4 hf rfl fun a hf => zT h ?_
  refine wp_ret ?_
  refine xThenR ?_
  refine xScopeR ?_
  obtain rfl := sj hF
  exact zO3 Tryz.results27 hf rfl rfl rfl ⟨rfl,hc⟩
 ·refine wp_skip ?_
  refine h2 _ _ ?_
  refine zS fun K h => sp 3 hf rfl fun a hf => zT h ?_
  refine wp_seq_k fun K7 h7 => wp_label ?_
  refine h7 _ _ ?_
  refine wp_seq_k fun K8 h8 => zS fun K h => sp 1 hf rfl fun a hf => zP hf rfl (pLenS Tryz.underlying37 rfl) fun a hf => sp 1 hf rfl fun a hf => zT h ?_
  refine wp_block ?_
  obtain ⟨x10,hx10,hF⟩ := bnd_some hF
  let S10 : (Int × Int × Int × Int) → Act → World → Prop := (fun (zz : Int × Int × Int × Int) a w => Has 56 a [(0,.slice l_p l.length l_c),(6,i6 zz.1),(7,i6 zz.2.1),(8,i6 zz.2.2.1),(18,.slice l_p l.length l_c),(19,i6 ((l.length : Nat) : Int)),(20,i6 zz.2.2.2)] ∧ Ctx G (Lf) w)
  have hr10 : ∀ (zz : Int × Int × Int × Int) a w,x10 = .go zz → S10 zz a w → K8 a w := by
   rintro ⟨a_1,b_1,e_1,x⟩ a w rfl ⟨hf,hc⟩
   replace hF := exK_go hF
   refine h8 _ _ ?_
   refine zS fun K h => sp 6 hf rfl fun a hf => zT h ?_
   refine wp_ret ?_
   refine xScopeR ?_
   obtain rfl := sj hF
   exact zO3 Tryz.results27 hf rfl rfl rfl ⟨rfl,hc⟩
  have ho10 : ∀ r,x10 = .out r → r = res := by
   rintro r rfl
   exact sj hF
  refine cLoop N (loopW (S := S10) (x := x10) ?_ N (0,0,5,0) _ _ ⟨hf.kp rfl,hc⟩ hx10)
  clear hF hf hc
  rintro ⟨a_1,b_1,e_1,x⟩ st10 a w KB10 ⟨hf,hc⟩ hF hfin10 hK10
  unfold gauge_Apart_b10 at hF
  refine zS fun K h => sp 1 hf rfl fun a hf => zT h ?_
  refine wp_seq_k fun K13 h13 => zI hf rfl hF ?_ ?_ <;> clear hF <;> intro hF
  ·refine wp_skip ?_
   refine h13 _ _ ?_
   refine wp_seq_k fun K14 h14 => wp_block ?_
   refine zS fun K h => sp 1 hf rfl fun a hf => ?_
   obtain ⟨e_2,he_2,hF⟩ := bnd_some hF
   obtain ⟨b_2,o,qa,qp⟩ := h_l.atm he_2
   refine zP hf rfl (pIA Tryz.underlying37 sz_43 rfl rfl qa) fun a hf => zE hf hc rfl (eLdN (vs := [i6 e_2.Lo,i6 e_2.Hi]) ag_43 rfl rfl (cells_pc qp (n := 2) (o' := 0) rfl)) fun a w hf hc => zA hf hc zr_43 rfl fun b_3 a w hf hc => sp 1 hf rfl fun a hf => zW hf hc sz_43 u0 rfl fun w hc => zT h ?_
   refine zS fun K h => sp 1 hf rfl fun a hf => zP hf rfl (pLenS Tryz.underlying37 rfl) fun a hf => sp 1 hf rfl fun a hf => zT h ?_
   refine wp_thenK fun K17 h17 => wp_block ?_
   obtain ⟨x18,hx18,hF⟩ := bnd_some hF
   let S18 : Int → Act → World → Prop := (fun (zz : Int) a w => Has 56 a [(0,.slice l_p l.length l_c),(6,i6 a_1),(7,i6 b_1),(8,i6 e_1),(9,i6 x),(10,pq b_3),(18,.slice l_p l.length l_c),(19,i6 ((l.length : Nat) : Int)),(20,i6 x),(25,.slice l_p l.length l_c),(26,i6 ((l.length : Nat) : Int)),(27,i6 zz)] ∧ Ctx G (.box b_3 [i6 e_2.Lo,i6 e_2.Hi] 43::Lf) w)
   have hr18 : ∀ (zz : Int) a w,x18 = .go zz → S18 zz a w → K17 a w := by
    rintro x_1 a w rfl ⟨hf,hc⟩
    replace hF := exK_go hF
    refine h17 _ _ ?_
    refine h14 _ _ ?_
    refine cReg ?_
    refine sp 2 hf rfl fun a hf => cNil ?_
    replace hc := hc.drop k0
    exact hK10 (a_1,b_1,e_1,W (x + 1)) _ _ (sj hF).symm ⟨hf.kp rfl,hc⟩
   have ho18 : ∀ r,x18 = .out r → r = st10 := by
    rintro r rfl
    exact sj hF
   refine cLoop N (loopW (S := S18) (x := x18) ?_ N 0 _ _ ⟨hf.kp rfl,hc⟩ hx18)
   clear hF hf hc
   rintro x_1 st18 a w KB18 ⟨hf,hc⟩ hF hfin18 hK18
   unfold gauge_Apart_b18 at hF
   refine zS fun K h => sp 1 hf rfl fun a hf => zT h ?_
   refine wp_seq_k fun K20 h20 => zI hf rfl hF ?_ ?_ <;> clear hF <;> intro hF
   ·refine wp_skip ?_
    refine h20 _ _ ?_
    refine wp_seq_k fun K21 h21 => wp_block ?_
    refine zS fun K h => sp 1 hf rfl fun a hf => ?_
    obtain ⟨e_3,he_3,hF⟩ := bnd_some hF
    obtain ⟨b_4,o_1,qa_1,qp_1⟩ := h_l.atm he_3
    refine zP hf rfl (pIA Tryz.underlying37 sz_43 rfl rfl qa_1) fun a hf => zE hf hc rfl (eLdN (vs := [i6 e_3.Lo,i6 e_3.Hi]) ag_43 rfl rfl (cells_pc qp_1 (n := 2) (o' := 0) rfl)) fun a w hf hc => zA hf hc zr_43 rfl fun b_5 a w hf hc => sp 1 hf rfl fun a hf => zW hf hc sz_43 u0 rfl fun w hc => zT h ?_
    refine zS fun K h => sp 4 hf rfl fun a hf => stCc 13 (fun a => Has 56 a [(0,.slice l_p l.length l_c),(6,i6 a_1),(7,i6 b_1),(8,i6 e_1),(9,i6 x),(10,pq b_3),(18,.slice l_p l.length l_c),(19,i6 ((l.length : Nat) : Int)),(20,i6 x),(25,.slice l_p l.length l_c),(26,i6 ((l.length : Nat) : Int)),(27,i6 x_1),(12,pq b_5),(11,i6 x_1),(32,i6 x_1),(33,i6 x),(34,.bool (decide (x < x_1))),(35,.bool (decide (x < x_1))),(48,.bool ((decide (x < x_1)) && ((decide (e_3.Hi < e_2.Lo)) || (decide (e_2.Hi < e_3.Lo)))))]) hc ?_ ?_
    ·cases hb : (decide (x < x_1))
     ·rw [hb] at hf
      refine stS hf rfl rfl rfl fun a hf => stS hf rfl rfl rfl fun a hf => stS hf rfl rfl rfl fun a hf => stS hf rfl rfl rfl fun a hf => stS hf rfl rfl rfl fun a hf => stS hf rfl rfl rfl fun a hf => stS hf rfl rfl rfl fun a hf => stS hf rfl rfl rfl fun a hf => stS hf rfl rfl rfl fun a hf => stS hf rfl rfl rfl fun a hf => stS hf rfl rfl rfl fun a hf => stS hf rfl rfl rfl fun a hf => sp 1 hf rfl fun a hf => ?_
      exact cNil ⟨hf.kp rfl,hc⟩
     ·rw [hb] at hf
      refine zP hf rfl (pFA fa_43_0 rfl) fun a hf => zL hf hc sc_3 m1 rfl fun a w hf hc => zP hf rfl (pFA fa_43_1 rfl) fun a hf => zL hf hc sc_3 m0 rfl fun a w hf hc => sp 2 hf rfl fun a hf => stCc 6 (fun a => Has 56 a [(0,.slice l_p l.length l_c),(6,i6 a_1),(7,i6 b_1),(8,i6 e_1),(9,i6 x),(10,pq b_3),(18,.slice l_p l.length l_c),(19,i6 ((l.length : Nat) : Int)),(20,i6 x),(25,.slice l_p l.length l_c),(26,i6 ((l.length : Nat) : Int)),(27,i6 x_1),(12,pq b_5),(11,i6 x_1),(32,i6 x_1),(33,i6 x),(34,.bool true),(35,.bool true),(36,pq b_3),(37,i6 e_2.Lo),(38,.pointer (some ⟨b_5,1,none⟩)),(39,i6 e_3.Hi),(40,.bool (decide (e_3.Hi < e_2.Lo))),(41,.bool (decide (e_3.Hi < e_2.Lo))),(47,.bool ((decide (e_3.Hi < e_2.Lo)) || (decide (e_2.Hi < e_3.Lo))))]) hc ?_ ?_
      ·cases hb : (decide (e_3.Hi < e_2.Lo))
       ·rw [hb] at hf
        refine zP hf rfl (pFA fa_43_0 rfl) fun a hf => zL hf hc sc_3 m0 rfl fun a w hf hc => zP hf rfl (pFA fa_43_1 rfl) fun a hf => zL hf hc sc_3 m1 rfl fun a w hf hc => sp 2 hf rfl fun a hf => cNil ⟨hf.kp rfl,hc⟩
       ·rw [hb] at hf
        refine stS hf rfl rfl rfl fun a hf => stS hf rfl rfl rfl fun a hf => stS hf rfl rfl rfl fun a hf => stS hf rfl rfl rfl fun a hf => stS hf rfl rfl rfl fun a hf => sp 1 hf rfl fun a hf => cNil ⟨hf.kp rfl,hc⟩
      intro a w ⟨hf,hc⟩
      refine sp 1 hf rfl fun a hf => cNil ⟨hf.kp rfl,hc⟩
    intro a w ⟨hf,hc⟩
    refine zT h ?_
    refine zI hf rfl hF ?_ ?_ <;> clear hF <;> intro hF
    ·refine zS fun K h => sp 5 hf rfl fun a hf => zT h ?_
     refine wp_exit ?_
     refine cMiss rfl ?_
     refine xThen ?_
     refine xThen ?_
     have he := sj hF
     rw [← he] at hfin18
     replace hF := ho18 _ hfin18
     refine cMiss rfl ?_
     refine xThen ?_
     refine cMiss rfl ?_
     refine xThen ?_
     refine xThen ?_
     replace hc := (hc.drop k1).drop k0
     have he := hF
     rw [← he] at hfin10
     refine cHit ?_
     exact hr10 _ _ _ hfin10 ⟨hf.kp rfl,hc⟩
    ·refine wp_skip ?_
     refine h21 _ _ ?_
     refine cReg ?_
     refine sp 2 hf rfl fun a hf => cNil ?_
     replace hc := hc.drop k0
     exact hK18 (W (x_1 + 1)) _ _ (sj hF).symm ⟨hf.kp rfl,hc⟩
   ·refine wp_exit ?_
    refine xThen ?_
    refine xThen ?_
    have he := sj hF
    rw [← he] at hfin18
    refine cHit ?_
    exact hr18 _ _ _ hfin18 ⟨hf.kp rfl,hc⟩
  ·refine wp_exit ?_
   refine xThen ?_
   refine xThen ?_
   have he := sj hF
   rw [← he] at hfin10
   refine cHit ?_
   exact hr10 _ _ _ hfin10 ⟨hf.kp rfl,hc⟩

def gauge_Common_b9 (N : Nat) (l : List api_Span) (x : Int) (x_1 : Int) (x_2 : Int) : Option (Step (Int × Int × Int) (api_Span × Int)) :=
 cond (decide (x < ((l.length : Nat) : Int)))
 (Option.bind (getI l x) fun e_2 =>
 some (.cont (W (x + 1),max x_1 e_2.Lo,min x_2 e_2.Hi)))
 (some (.brk (x,x_1,x_2)))
def gauge_Common (N : Nat) (l : List api_Span) : Option (api_Span × Int) :=
 Option.bind (gauge_methods N l) fun r =>
 cond (r != 0)
 (some ((⟨0,0⟩ : api_Span),r))
 (Option.bind (getI l 0) fun e_1 =>
 Option.bind (loopO (fun s9 => gauge_Common_b9 N l s9.1 s9.2.1 s9.2.2) N (0,e_1.Lo,e_1.Hi)) fun x9 =>
 exK x9 (fun s9 => cond (decide (s9.2.2 < s9.2.1))
 (some ((⟨0,0⟩ : api_Span),7))
 (some ((⟨s9.2.1,s9.2.2⟩ : api_Span),0))) some)
theorem gauge_Common_ok {N : Nat} {G : Pers} {Lf : List Ent} {w : World} (l : List api_Span) {l_p : Option Addr} {l_c : Nat} (h_l : Rd G 2 l_p l_c (l.map enc_api_Span)) (hc : Ctx G (Lf) w) {res : api_Span × Int} (hF : gauge_Common N l = some res) : Calls Tryz.prog 28 #[.slice l_p l.length l_c] w (fun e w => e = .returned (.tuple #[.agg #[i6 res.1.Lo,i6 res.1.Hi],i6 res.2]) ∧ Ctx G (Lf) w) := by
 unfold gauge_Common at hF
 refine fnIn Tryz.func28 rfl Tryz.ntmps28 rfl fun a hf => zS fun K h => zA hf hc zr_43 rfl fun b_1 a w hf hc => sp 1 hf rfl fun a hf => zT h ?_
 refine wp_seq_k fun K2 h2 => zS fun K h => sp 1 hf rfl fun a hf => ?_
 obtain ⟨r,hr,hF⟩ := bnd_some hF
 refine zQ (v := i6 r) hf hc en_52 rfl (fun w hc => gauge_methods_ok l h_l hc hr) fun a w hf hc => sp 1 hf rfl fun a hf => zT h ?_
 refine zS fun K h => sp 2 hf rfl fun a hf => zT h ?_
 refine zI hf rfl hF ?_ ?_ <;> clear hF <;> intro hF
 ·refine zS fun K h => zP hf rfl (pBuildS (cells := [i6 0,i6 0]) bt_43 rfl rfl) fun a hf => sp 1 hf rfl fun a hf => zW hf hc sz_43 u0 rfl fun w hc => sp 1 hf rfl fun a hf => zT h ?_
  refine wp_ret ?_
  refine xThenR ?_
  obtain rfl := sj hF
  exact fnOut2 (by simp) rfl Tryz.results28 hf hc (rv_cellN (vs := [i6 0,i6 0]) ag_43 rfl rfl (cells_box (n := 2) m0 rfl)) (show look _ 3 = _ from rfl) ⟨rfl,(hc.drop k0)⟩
 ·refine wp_skip ?_
  refine h2 _ _ ?_
  refine zS fun K h => sp 1 hf rfl fun a hf => ?_
  obtain ⟨e_1,he_1,hF⟩ := bnd_some hF
  obtain ⟨b_2,o,qa,qp⟩ := h_l.atm he_1
  refine zP hf rfl (pIA Tryz.underlying37 sz_43 rfl rfl qa) fun a hf => zE hf hc rfl (eLdN (vs := [i6 e_1.Lo,i6 e_1.Hi]) ag_43 rfl rfl (cells_pc qp (n := 2) (o' := 0) rfl)) fun a w hf hc => zA hf hc zr_43 rfl fun b_3 a w hf hc => zW hf hc sz_43 u0 rfl fun w hc => zT h ?_
  refine wp_seq_k fun K7 h7 => zS fun K h => sp 1 hf rfl fun a hf => zP hf rfl (pLenS Tryz.underlying37 rfl) fun a hf => sp 1 hf rfl fun a hf => zT h ?_
  refine wp_block ?_
  obtain ⟨x9,hx9,hF⟩ := bnd_some hF
  let S9 : (Int × Int × Int) → Act → World → Prop := (fun (zz : Int × Int × Int) a w => Has 42 a [(2,pq b_1),(5,pq b_3),(17,.slice l_p l.length l_c),(18,i6 ((l.length : Nat) : Int)),(19,i6 zz.1)] ∧ Ctx G (.box b_3 [i6 zz.2.1,i6 zz.2.2] 43::.box b_1 [i6 0,i6 0] 43::Lf) w)
  have hr9 : ∀ (zz : Int × Int × Int) a w,x9 = .go zz → S9 zz a w → K7 a w := by
   rintro ⟨x,x_1,x_2⟩ a w rfl ⟨hf,hc⟩
   replace hF := exK_go hF
   refine h7 _ _ ?_
   refine wp_seq_k fun K10 h10 => zS fun K h => zP hf rfl (pFA fa_43_0 rfl) fun a hf => zL hf hc sc_3 m0 rfl fun a w hf hc => zP hf rfl (pFA fa_43_1 rfl) fun a hf => zL hf hc sc_3 m0 rfl fun a w hf hc => sp 1 hf rfl fun a hf => zT h ?_
   refine zI hf rfl hF ?_ ?_ <;> clear hF <;> intro hF
   ·refine zS fun K h => zP hf rfl (pBuildS (cells := [i6 0,i6 0]) bt_43 rfl rfl) fun a hf => zW hf hc sz_43 u1 rfl fun w hc => sp 1 hf rfl fun a hf => zT h ?_
    refine wp_ret ?_
    refine xThenR ?_
    obtain rfl := sj hF
    replace hc := hc.drop k0
    exact fnOut2 (by simp) rfl Tryz.results28 hf hc (rv_cellN (vs := [i6 0,i6 0]) ag_43 rfl rfl (cells_box (n := 2) m0 rfl)) (show look _ 3 = _ from rfl) ⟨rfl,(hc.drop k0)⟩
   ·refine wp_skip ?_
    refine h10 _ _ ?_
    refine zS fun K h => zN hf hc ag_43 m0 rfl fun a w hf hc => zW hf hc sz_43 u1 rfl fun w hc => sp 1 hf rfl fun a hf => zT h ?_
    refine wp_ret ?_
    obtain rfl := sj hF
    replace hc := hc.drop k0
    exact fnOut2 (by simp) rfl Tryz.results28 hf hc (rv_cellN (vs := [i6 x_1,i6 x_2]) ag_43 rfl rfl (cells_box (n := 2) m0 rfl)) (show look _ 3 = _ from rfl) ⟨rfl,(hc.drop k0)⟩
  have ho9 : ∀ r,x9 = .out r → r = res := by
   rintro r rfl
   exact sj hF
  refine cLoop N (loopW (S := S9) (x := x9) ?_ N (0,e_1.Lo,e_1.Hi) _ _ ⟨hf.kp rfl,hc⟩ hx9)
  clear hF hf hc
  rintro ⟨x,x_1,x_2⟩ st9 a w KB9 ⟨hf,hc⟩ hF hfin9 hK9
  unfold gauge_Common_b9 at hF
  refine zS fun K h => sp 1 hf rfl fun a hf => zT h ?_
  refine wp_seq_k fun K15 h15 => zI hf rfl hF ?_ ?_ <;> clear hF <;> intro hF
  ·refine wp_skip ?_
   refine h15 _ _ ?_
   refine wp_seq_k fun K16 h16 => wp_block ?_
   refine zS fun K h => ?_
   obtain ⟨e_2,he_2,hF⟩ := bnd_some hF
   obtain ⟨b_4,o_1,qa_1,qp_1⟩ := h_l.atm he_2
   refine zP hf rfl (pIA Tryz.underlying37 sz_43 rfl rfl qa_1) fun a hf => zE hf hc rfl (eLdN (vs := [i6 e_2.Lo,i6 e_2.Hi]) ag_43 rfl rfl (cells_pc qp_1 (n := 2) (o' := 0) rfl)) fun a w hf hc => zA hf hc zr_43 rfl fun b_5 a w hf hc => zW hf hc sz_43 u0 rfl fun w hc => zT h ?_
   refine cReg ?_
   refine zP hf rfl (pFA fa_43_0 rfl) fun a hf => zL hf hc sc_3 m1 rfl fun a w hf hc => zP hf rfl (pFA fa_43_0 rfl) fun a hf => zL hf hc sc_3 m0 rfl fun a w hf hc => zP hf rfl (pMax2 rfl rfl) fun a hf => zP hf rfl (pFA fa_43_1 rfl) fun a hf => zL hf hc sc_3 m1 rfl fun a w hf hc => zP hf rfl (pFA fa_43_1 rfl) fun a hf => zL hf hc sc_3 m0 rfl fun a w hf hc => zP hf rfl (pMin2 rfl rfl) fun a hf => zP hf rfl (pBuildS (cells := [i6 (max x_1 e_2.Lo),i6 (min x_2 e_2.Hi)]) bt_43 rfl rfl) fun a hf => zW hf hc sz_43 u1 rfl fun w hc => cNil ?_
   refine h16 _ _ ?_
   refine cReg ?_
   refine sp 2 hf rfl fun a hf => cNil ?_
   replace hc := hc.drop k0
   exact hK9 (W (x + 1),max x_1 e_2.Lo,min x_2 e_2.Hi) _ _ (sj hF).symm ⟨hf.kp rfl,hc⟩
  ·refine wp_exit ?_
   refine xThen ?_
   refine xThen ?_
   have he := sj hF
   rw [← he] at hfin9
   refine cHit ?_
   exact hr9 _ _ _ hfin9 ⟨hf.kp rfl,hc⟩

def law03_Three (N : Nat)  : Option (gauge_Site) :=
 some (⟨0,40,20,50,([(⟨10,30,2⟩ : gauge_Point),(⟨20,60,1⟩ : gauge_Point),(⟨30,40,4⟩ : gauge_Point)] : List gauge_Point)⟩ : gauge_Site)
theorem law03_Three_ok {N : Nat} {G : Pers} {Lf : List Ent} {w : World}    (hc : Ctx G (Lf) w) {res : gauge_Site} (hF : law03_Three N = some res) : Calls Tryz.prog 30 #[] w (fun e w => ∃ (p'1 : Option Addr) (c'1 : Nat),e = .returned (.agg #[i6 res.Left,i6 res.Right,i6 res.Gap,i6 res.Step_,.slice p'1 res.Points.length c'1]) ∧ Ctx G (.row p'1 c'1 (res.Points.map enc_gauge_Point) 133 3::Lf) w) := by
 unfold law03_Three at hF
 refine fnIn Tryz.func30 rfl Tryz.ntmps30 rfl fun a hf => zS fun K h => zA hf hc zr_97 rfl fun b_1 a w hf hc => zT h ?_
 refine zS fun K h => zP hf rfl (pBuildS (cells := [i6 10,i6 30,i6 2]) bt_133 rfl rfl) fun a hf => zP hf rfl (pBuildS (cells := [i6 20,i6 60,i6 1]) bt_133 rfl rfl) fun a hf => zP hf rfl (pBuildS (cells := [i6 30,i6 40,i6 4]) bt_133 rfl rfl) fun a hf => stBS (rows := ([(⟨10,30,2⟩ : gauge_Point),(⟨20,60,1⟩ : gauge_Point),(⟨30,40,4⟩ : gauge_Point)] : List gauge_Point).map enc_gauge_Point) (vs := [(0,.agg #[i6 10,i6 30,i6 2]),(1,.agg #[i6 20,i6 60,i6 1]),(2,.agg #[i6 30,i6 40,i6 4])]) hf hc rfl rfl sl_95 rfl ⟨rfl,rfl,rfl,rfl,rfl,rfl,rfl,rfl,rfl,trivial⟩ rfl rfl fun b_2 a w hf hc => zP hf rfl (pBuildS (cells := [i6 0,i6 40,i6 20,i6 50,.slice (some ⟨b_2,0,none⟩) 3 3]) bt_97 rfl rfl) fun a hf => zW hf hc sz_97 u1 rfl fun w hc => zT h ?_
 refine wp_ret ?_
 obtain rfl := sj hF
 exact fnOut1 (by simp) rfl Tryz.results30 hf hc (rv_cellN (vs := [i6 0,i6 40,i6 20,i6 50,.slice (some ⟨b_2,0,none⟩) 3 3]) ag_97 rfl rfl (cells_box (n := 5) m1 rfl)) ⟨(some ⟨b_2,0,none⟩),3,rfl,(hc.drop k1)⟩

def gauge_CheckSite_1 (p_ : gauge_Point) (x : gauge_Site) : Bool :=
 (((gauge_in p_.At (W (x.Left + 1)) (W (x.Right - 1))) && (gauge_in p_.Depth 0 2000)) && (gauge_in p_.Cost 0 1000000))
theorem gauge_CheckSite_1_ok {G : Pers} {Lf : List Ent} {w : World} (p_ : gauge_Point) (x : gauge_Site) {b_ : Nat} {x_Points_p : Option Addr} {x_Points_c : Nat} (h_x_Points : Rd G 3 x_Points_p x_Points_c (x.Points.map enc_gauge_Point)) (hc : Ctx G (.box b_ [i6 x.Left,i6 x.Right,i6 x.Gap,i6 x.Step_,.slice x_Points_p x.Points.length x_Points_c] 97::Lf) w) {res : Bool} (hF : gauge_CheckSite_1 p_ x = res) : Calls Tryz.prog 77 #[.agg #[i6 p_.At,i6 p_.Depth,i6 p_.Cost],pq b_] w (fun e w => e = .returned (.bool res) ∧ Ctx G (.box b_ [i6 x.Left,i6 x.Right,i6 x.Gap,i6 x.Step_,.slice x_Points_p x.Points.length x_Points_c] 97::Lf) w) := by
 unfold gauge_CheckSite_1 at hF
 refine fnIn Tryz.func77 rfl Tryz.ntmps77 rfl fun a hf => zS fun K h => zB hf hc rfl fun b_1 a w hf hc => sp 1 hf rfl fun a hf => zT h ?_
 refine zS fun K h => zP hf rfl (pFA fa_133_0 rfl) fun a hf => zL hf hc sc_3 m0 rfl fun a w hf hc => zP hf rfl (pFA fa_97_0 rfl) fun a hf => zL hf hc sc_3 m1 rfl fun a w hf hc => sp 1 hf rfl fun a hf => zP hf rfl (pFA fa_97_1 rfl) fun a hf => zL hf hc sc_3 m1 rfl fun a w hf hc => sp 1 hf rfl fun a hf => zQ (v := .bool (gauge_in p_.At (W (x.Left + 1)) (W (x.Right - 1)))) hf hc en_21 rfl (fun w hc => gauge_in_ok p_.At (W (x.Left + 1)) (W (x.Right - 1)) hc rfl) fun a w hf hc => sp 1 hf rfl fun a hf => stCc 4 (fun a => Has 23 a [(1,pq b_),(2,pq b_1),(3,.bool false),(4,pq b_1),(5,i6 p_.At),(6,pq b_),(7,i6 x.Left),(8,i6 (W (x.Left + 1))),(9,.pointer (some ⟨b_,1,none⟩)),(10,i6 x.Right),(11,i6 (W (x.Right - 1))),(12,.bool (gauge_in p_.At (W (x.Left + 1)) (W (x.Right - 1)))),(13,.bool (gauge_in p_.At (W (x.Left + 1)) (W (x.Right - 1)))),(17,.bool ((gauge_in p_.At (W (x.Left + 1)) (W (x.Right - 1))) && (gauge_in p_.Depth 0 2000)))]) hc ?_ ?_
 ·cases hb : (gauge_in p_.At (W (x.Left + 1)) (W (x.Right - 1)))
  ·rw [hb] at hf
   refine stS hf rfl rfl rfl fun a hf => stS hf rfl rfl rfl fun a hf => stS hf rfl rfl rfl fun a hf => sp 1 hf rfl fun a hf => cNil ⟨hf.kp rfl,hc⟩
  ·rw [hb] at hf
   refine zP hf rfl (pFA fa_133_1 rfl) fun a hf => zL hf hc sc_3 m0 rfl fun a w hf hc => zQ (v := .bool (gauge_in p_.Depth 0 2000)) hf hc en_21 rfl (fun w hc => gauge_in_ok p_.Depth 0 2000 hc rfl) fun a w hf hc => sp 1 hf rfl fun a hf => cNil ⟨hf.kp rfl,hc⟩
 intro a w ⟨hf,hc⟩
 refine sp 1 hf rfl fun a hf => stCc 4 (fun a => Has 23 a [(1,pq b_),(2,pq b_1),(3,.bool false),(4,pq b_1),(5,i6 p_.At),(6,pq b_),(7,i6 x.Left),(8,i6 (W (x.Left + 1))),(9,.pointer (some ⟨b_,1,none⟩)),(10,i6 x.Right),(11,i6 (W (x.Right - 1))),(12,.bool (gauge_in p_.At (W (x.Left + 1)) (W (x.Right - 1)))),(13,.bool (gauge_in p_.At (W (x.Left + 1)) (W (x.Right - 1)))),(17,.bool ((gauge_in p_.At (W (x.Left + 1)) (W (x.Right - 1))) && (gauge_in p_.Depth 0 2000))),(18,.bool ((gauge_in p_.At (W (x.Left + 1)) (W (x.Right - 1))) && (gauge_in p_.Depth 0 2000))),(22,.bool (((gauge_in p_.At (W (x.Left + 1)) (W (x.Right - 1))) && (gauge_in p_.Depth 0 2000)) && (gauge_in p_.Cost 0 1000000)))]) hc ?_ ?_
 ·cases hb : ((gauge_in p_.At (W (x.Left + 1)) (W (x.Right - 1))) && (gauge_in p_.Depth 0 2000))
  ·rw [hb] at hf
   refine stS hf rfl rfl rfl fun a hf => stS hf rfl rfl rfl fun a hf => stS hf rfl rfl rfl fun a hf => sp 1 hf rfl fun a hf => cNil ⟨hf.kp rfl,hc⟩
  ·rw [hb] at hf
   refine zP hf rfl (pFA fa_133_2 rfl) fun a hf => zL hf hc sc_3 m0 rfl fun a w hf hc => zQ (v := .bool (gauge_in p_.Cost 0 1000000)) hf hc en_21 rfl (fun w hc => gauge_in_ok p_.Cost 0 1000000 hc rfl) fun a w hf hc => sp 1 hf rfl fun a hf => cNil ⟨hf.kp rfl,hc⟩
 intro a w ⟨hf,hc⟩
 refine sp 1 hf rfl fun a hf => zT h ?_
 refine wp_ret ?_
 obtain rfl := hF
 replace hc := hc.drop k0
 exact zO1 Tryz.results77 hf rfl ⟨rfl,hc⟩

def gauge_every_gauge_Point_1 (x : gauge_Point) (x_1 : gauge_Site) : Bool :=
 (!(gauge_CheckSite_1 (⟨x.At,x.Depth,x.Cost⟩ : gauge_Point) x_1))
theorem gauge_every_gauge_Point_1_ok {G : Pers} {Lf : List Ent} {w : World} (x : gauge_Point) (x_1 : gauge_Site) {b_ : Nat} {b__1 : Nat} {x_1_Points_p : Option Addr} {x_1_Points_c : Nat} (h_x_1_Points : Rd G 3 x_1_Points_p x_1_Points_c (x_1.Points.map enc_gauge_Point)) (hc : Ctx G (.box b_ [.func (.func 77) #[] #[pq b__1]] 142::.box b__1 [i6 x_1.Left,i6 x_1.Right,i6 x_1.Gap,i6 x_1.Step_,.slice x_1_Points_p x_1.Points.length x_1_Points_c] 97::Lf) w) {res : Bool} (hF : gauge_every_gauge_Point_1 x x_1 = res) : Calls Tryz.prog 93 #[.agg #[i6 x.At,i6 x.Depth,i6 x.Cost],pq b_] w (fun e w => e = .returned (.bool res) ∧ Ctx G (.box b_ [.func (.func 77) #[] #[pq b__1]] 142::.box b__1 [i6 x_1.Left,i6 x_1.Right,i6 x_1.Gap,i6 x_1.Step_,.slice x_1_Points_p x_1.Points.length x_1_Points_c] 97::Lf) w) := by
 unfold gauge_every_gauge_Point_1 at hF
 refine fnIn Tryz.func93 rfl Tryz.ntmps93 rfl fun a hf => zS fun K h => zB hf hc rfl fun b_1 a w hf hc => sp 1 hf rfl fun a hf => zT h ?_
 refine zS fun K h => zL hf hc sc_142 m1 rfl fun a w hf hc => zN hf hc ag_133 m0 rfl fun a w hf hc => zQ (v := .bool (gauge_CheckSite_1 (⟨x.At,x.Depth,x.Cost⟩ : gauge_Point) x_1)) hf hc en_77 rfl (fun w hc => (gauge_CheckSite_1_ok (⟨x.At,x.Depth,x.Cost⟩ : gauge_Point) x_1 h_x_1_Points (hc.pick k2) rfl).mono fun e w h => ⟨h.1,(h.2.unpick k2)⟩) fun a w hf hc => sp 2 hf rfl fun a hf => zT h ?_
 refine wp_ret ?_
 obtain rfl := hF
 replace hc := hc.drop k0
 exact zO1 Tryz.results93 hf rfl ⟨rfl,hc⟩

def slices_IndexFunc_Lgauge_Point_gauge_Point_b4 (N : Nat) (s_ : List gauge_Point) (f_ : gauge_Site) (x : Int) : Option (Step (Int) (Int)) :=
 cond (decide (x < ((s_.length : Nat) : Int)))
 (Option.bind (getI s_ x) fun e_1 =>
 cond (gauge_every_gauge_Point_1 e_1 f_)
 (some (.ret x))
 (some (.cont (W (x + 1)))))
 (some (.brk x))
def slices_IndexFunc_Lgauge_Point_gauge_Point (N : Nat) (s_ : List gauge_Point) (f_ : gauge_Site) : Option (Int) :=
 Option.bind (loopO (fun s4 => slices_IndexFunc_Lgauge_Point_gauge_Point_b4 N s_ f_ s4) N 0) fun x4 =>
 exK x4 (fun s4 => some (-1)) some
theorem slices_IndexFunc_Lgauge_Point_gauge_Point_ok {N : Nat} {G : Pers} {Lf : List Ent} {w : World} (s_ : List gauge_Point) (f_ : gauge_Site) {s__p : Option Addr} {s__c : Nat} {b_ : Nat} {b__1 : Nat} {f__Points_p : Option Addr} {f__Points_c : Nat} (h_s_ : Rd G 3 s__p s__c (s_.map enc_gauge_Point)) (h_f__Points : Rd G 3 f__Points_p f__Points_c (f_.Points.map enc_gauge_Point)) (hc : Ctx G (.box b_ [.func (.func 77) #[] #[pq b__1]] 142::.box b__1 [i6 f_.Left,i6 f_.Right,i6 f_.Gap,i6 f_.Step_,.slice f__Points_p f_.Points.length f__Points_c] 97::Lf) w) {res : Int} (hF : slices_IndexFunc_Lgauge_Point_gauge_Point N s_ f_ = some res) : Calls Tryz.prog 101 #[.slice s__p s_.length s__c,.func (.func 93) #[] #[pq b_]] w (fun e w => e = .returned (i6 res) ∧ Ctx G (.box b_ [.func (.func 77) #[] #[pq b__1]] 142::.box b__1 [i6 f_.Left,i6 f_.Right,i6 f_.Gap,i6 f_.Step_,.slice f__Points_p f_.Points.length f__Points_c] 97::Lf) w) := by
 unfold slices_IndexFunc_Lgauge_Point_gauge_Point at hF
 refine fnIn Tryz.func101 rfl Tryz.ntmps101 rfl fun a hf => zS fun K h => sp 1 hf rfl fun a hf => zT h ?_
 refine wp_seq_k fun K2 h2 => zS fun K h => sp 1 hf rfl fun a hf => zP hf rfl (pLenS Tryz.underlying95 rfl) fun a hf => sp 1 hf rfl fun a hf => zT h ?_
 refine wp_block ?_
 obtain ⟨x4,hx4,hF⟩ := bnd_some hF
 let S4 : Int → Act → World → Prop := (fun (zz : Int) a w => Has 19 a [(0,.slice s__p s_.length s__c),(1,.func (.func 93) #[] #[pq b_]),(7,i6 ((s_.length : Nat) : Int)),(8,i6 zz)] ∧ Ctx G (.box b_ [.func (.func 77) #[] #[pq b__1]] 142::.box b__1 [i6 f_.Left,i6 f_.Right,i6 f_.Gap,i6 f_.Step_,.slice f__Points_p f_.Points.length f__Points_c] 97::Lf) w)
 have hr4 : ∀ (zz : Int) a w,x4 = .go zz → S4 zz a w → K2 a w := by
  rintro x a w rfl ⟨hf,hc⟩
  replace hF := exK_go hF
  refine h2 _ _ ?_
  refine zS fun K h => sp 1 hf rfl fun a hf => zT h ?_
  refine wp_ret ?_
  obtain rfl := sj hF
  exact zO1 Tryz.results101 hf rfl ⟨rfl,hc⟩
 have ho4 : ∀ r,x4 = .out r → r = res := by
  rintro r rfl
  exact sj hF
 refine cLoop N (loopW (S := S4) (x := x4) ?_ N 0 _ _ ⟨hf.kp rfl,hc⟩ hx4)
 clear hF hf hc
 rintro x st4 a w KB4 ⟨hf,hc⟩ hF hfin4 hK4
 unfold slices_IndexFunc_Lgauge_Point_gauge_Point_b4 at hF
 refine zS fun K h => sp 1 hf rfl fun a hf => zT h ?_
 refine wp_seq_k fun K7 h7 => zI hf rfl hF ?_ ?_ <;> clear hF <;> intro hF
 ·refine wp_skip ?_
  refine h7 _ _ ?_
  refine wp_seq_k fun K8 h8 => wp_block ?_
  refine zS fun K h => sp 2 hf rfl fun a hf => zT h ?_
  refine zS fun K h => sp 3 hf rfl fun a hf => ?_
  obtain ⟨e_1,he_1,hF⟩ := bnd_some hF
  obtain ⟨b_1,o,qa,qp⟩ := h_s_.atm he_1
  refine zP hf rfl (pIA Tryz.underlying95 sz_133 rfl rfl qa) fun a hf => zE hf hc rfl (eLdN (vs := [i6 e_1.At,i6 e_1.Depth,i6 e_1.Cost]) ag_133 rfl rfl (cells_pc qp (n := 3) (o' := 0) rfl)) fun a w hf hc => zQ (v := .bool (gauge_every_gauge_Point_1 e_1 f_)) hf hc en_93 rfl (fun w hc => (gauge_every_gauge_Point_1_ok e_1 f_ h_f__Points ((hc.pick k1).pick k1) rfl).mono fun e w h => ⟨h.1,((h.2.unpick k1).unpick k1)⟩) fun a w hf hc => zT h ?_
  refine zI hf rfl hF ?_ ?_ <;> clear hF <;> intro hF
  ·refine zS fun K h => sp 2 hf rfl fun a hf => zT h ?_
   refine wp_ret ?_
   refine xBlkR ?_
   refine xThenR ?_
   refine xThenR ?_
   have he := sj hF
   rw [← he] at hfin4
   replace hF := ho4 _ hfin4
   refine xBlkR ?_
   refine xThenR ?_
   obtain rfl := hF
   exact zO1 Tryz.results101 hf rfl ⟨rfl,hc⟩
  ·refine wp_skip ?_
   refine h8 _ _ ?_
   refine cReg ?_
   refine sp 2 hf rfl fun a hf => cNil ?_
   exact hK4 (W (x + 1)) _ _ (sj hF).symm ⟨hf.kp rfl,hc⟩
 ·refine wp_exit ?_
  refine xThen ?_
  refine xThen ?_
  have he := sj hF
  rw [← he] at hfin4
  refine cHit ?_
  exact hr4 _ _ _ hfin4 ⟨hf.kp rfl,hc⟩

def slices_ContainsFunc_Lgauge_Point_gauge_Point (N : Nat) (s_ : List gauge_Point) (f_ : gauge_Site) : Option (Bool) :=
 Option.bind (slices_IndexFunc_Lgauge_Point_gauge_Point N s_ f_) fun r =>
 some (decide (0 ≤ r))
theorem slices_ContainsFunc_Lgauge_Point_gauge_Point_ok {N : Nat} {G : Pers} {Lf : List Ent} {w : World} (s_ : List gauge_Point) (f_ : gauge_Site) {s__p : Option Addr} {s__c : Nat} {b_ : Nat} {b__1 : Nat} {f__Points_p : Option Addr} {f__Points_c : Nat} (h_s_ : Rd G 3 s__p s__c (s_.map enc_gauge_Point)) (h_f__Points : Rd G 3 f__Points_p f__Points_c (f_.Points.map enc_gauge_Point)) (hc : Ctx G (.box b_ [.func (.func 77) #[] #[pq b__1]] 142::.box b__1 [i6 f_.Left,i6 f_.Right,i6 f_.Gap,i6 f_.Step_,.slice f__Points_p f_.Points.length f__Points_c] 97::Lf) w) {res : Bool} (hF : slices_ContainsFunc_Lgauge_Point_gauge_Point N s_ f_ = some res) : Calls Tryz.prog 92 #[.slice s__p s_.length s__c,.func (.func 93) #[] #[pq b_]] w (fun e w => e = .returned (.bool res) ∧ Ctx G (.box b_ [.func (.func 77) #[] #[pq b__1]] 142::.box b__1 [i6 f_.Left,i6 f_.Right,i6 f_.Gap,i6 f_.Step_,.slice f__Points_p f_.Points.length f__Points_c] 97::Lf) w) := by
 unfold slices_ContainsFunc_Lgauge_Point_gauge_Point at hF
 refine fnIn Tryz.func92 rfl Tryz.ntmps92 rfl fun a hf => zS fun K h => sp 1 hf rfl fun a hf => zT h ?_
 refine zS fun K h => sp 2 hf rfl fun a hf => ?_
 obtain ⟨r,hr,hF⟩ := bnd_some hF
 refine zQ (v := i6 r) hf hc en_101 rfl (fun w hc => (slices_IndexFunc_Lgauge_Point_gauge_Point_ok s_ f_ h_s_ h_f__Points ((hc.pick k1).pick k1) hr).mono fun e w h => ⟨h.1,((h.2.unpick k1).unpick k1)⟩) fun a w hf hc => sp 2 hf rfl fun a hf => zT h ?_
 refine wp_ret ?_
 obtain rfl := sj hF
 exact zO1 Tryz.results92 hf rfl ⟨rfl,hc⟩

def gauge_every_gauge_Point (N : Nat) (l : List gauge_Point) (so : gauge_Site) : Option (Bool) :=
 Option.bind (slices_ContainsFunc_Lgauge_Point_gauge_Point N l so) fun r =>
 some (!r)
theorem gauge_every_gauge_Point_ok {N : Nat} {G : Pers} {Lf : List Ent} {w : World} (l : List gauge_Point) (so : gauge_Site) {l_p : Option Addr} {l_c : Nat} {b_ : Nat} {so_Points_p : Option Addr} {so_Points_c : Nat} (h_l : Rd G 3 l_p l_c (l.map enc_gauge_Point)) (h_so_Points : Rd G 3 so_Points_p so_Points_c (so.Points.map enc_gauge_Point)) (hc : Ctx G (.box b_ [i6 so.Left,i6 so.Right,i6 so.Gap,i6 so.Step_,.slice so_Points_p so.Points.length so_Points_c] 97::Lf) w) {res : Bool} (hF : gauge_every_gauge_Point N l so = some res) : Calls Tryz.prog 76 #[.slice l_p l.length l_c,.func (.func 77) #[] #[pq b_]] w (fun e w => e = .returned (.bool res) ∧ Ctx G (.box b_ [i6 so.Left,i6 so.Right,i6 so.Gap,i6 so.Step_,.slice so_Points_p so.Points.length so_Points_c] 97::Lf) w) := by
 unfold gauge_every_gauge_Point at hF
 refine fnIn Tryz.func76 rfl Tryz.ntmps76 rfl fun a hf => zS fun K h => zB hf hc rfl fun b_1 a w hf hc => sp 1 hf rfl fun a hf => zT h ?_
 refine zS fun K h => sp 1 hf rfl fun a hf => zP hf rfl (pMF (us := [pq b_1]) rfl rfl) fun a hf => ?_
 obtain ⟨r,hr,hF⟩ := bnd_some hF
 refine zQ (v := .bool r) hf hc en_92 rfl (fun w hc => (slices_ContainsFunc_Lgauge_Point_gauge_Point_ok l so h_l h_so_Points ((hc.pick k1).pick k1) hr).mono fun e w h => ⟨h.1,((h.2.unpick k1).unpick k1)⟩) fun a w hf hc => sp 2 hf rfl fun a hf => zT h ?_
 refine wp_ret ?_
 obtain rfl := sj hF
 replace hc := hc.drop k0
 exact zO1 Tryz.results76 hf rfl ⟨rfl,hc⟩

def gauge_CheckSite_2 (N : Nat) (i_ : Int) (x : gauge_Site) : Option (Int) :=
 Option.bind (getI x.Points i_) fun e_1 =>
 some e_1.At
theorem gauge_CheckSite_2_ok {N : Nat} {G : Pers} {Lf : List Ent} {w : World} (i_ : Int) (x : gauge_Site) {b_ : Nat} {x_Points_p : Option Addr} {x_Points_c : Nat} (h_x_Points : Rd G 3 x_Points_p x_Points_c (x.Points.map enc_gauge_Point)) (hc : Ctx G (.box b_ [i6 x.Left,i6 x.Right,i6 x.Gap,i6 x.Step_,.slice x_Points_p x.Points.length x_Points_c] 97::Lf) w) {res : Int} (hF : gauge_CheckSite_2 N i_ x = some res) : Calls Tryz.prog 78 #[i6 i_,pq b_] w (fun e w => e = .returned (i6 res) ∧ Ctx G (.box b_ [i6 x.Left,i6 x.Right,i6 x.Gap,i6 x.Step_,.slice x_Points_p x.Points.length x_Points_c] 97::Lf) w) := by
 unfold gauge_CheckSite_2 at hF
 refine fnIn Tryz.func78 rfl Tryz.ntmps78 rfl fun a hf => zS fun K h => sp 1 hf rfl fun a hf => zT h ?_
 refine zS fun K h => zP hf rfl (pFA fa_97_4 rfl) fun a hf => zL hf hc sc_95 m0 rfl fun a w hf hc => sp 1 hf rfl fun a hf => ?_
 obtain ⟨e_1,he_1,hF⟩ := bnd_some hF
 obtain ⟨b_1,o,qa,qp⟩ := h_x_Points.atm he_1
 refine zP hf rfl (pIA Tryz.underlying95 sz_133 rfl rfl qa) fun a hf => zP hf rfl (pFA fa_133_0 rfl) fun a hf => zE hf hc rfl (eLd1 sc_3 rfl (cell_pc (j := 0) qp rfl)) fun a w hf hc => sp 1 hf rfl fun a hf => zT h ?_
 refine wp_ret ?_
 obtain rfl := sj hF
 exact zO1 Tryz.results78 hf rfl ⟨rfl,hc⟩

def gauge_rising_s2_b4 (N : Nat) (many : Int) (at_ : gauge_Site) (i_1 : Int) : Option (Step (Int) (Bool)) :=
 cond (decide (i_1 < many))
 (Option.bind (gauge_CheckSite_2 N i_1 at_) fun r =>
 Option.bind (gauge_CheckSite_2 N (W (i_1 - 1)) at_) fun r_1 =>
 cond (decide (r ≤ r_1))
 (some (.ret false))
 (some (.cont (W (i_1 + 1)))))
 (some (.brk i_1))
def gauge_rising_s2 (N : Nat) (many : Int) (at_ : gauge_Site) : Option (Bool) :=
 Option.bind (loopO (fun s4 => gauge_rising_s2_b4 N many at_ s4) N 1) fun x4 =>
 exK x4 (fun s4 => some true) some
theorem gauge_rising_s2_ok {N : Nat} {G : Pers} {Lf : List Ent} {w : World} (many : Int) (at_ : gauge_Site) {b_ : Nat} {at__Points_p : Option Addr} {at__Points_c : Nat} (h_at__Points : Rd G 3 at__Points_p at__Points_c (at_.Points.map enc_gauge_Point)) (hc : Ctx G (.box b_ [i6 at_.Left,i6 at_.Right,i6 at_.Gap,i6 at_.Step_,.slice at__Points_p at_.Points.length at__Points_c] 97::Lf) w) {res : Bool} (hF : gauge_rising_s2 N many at_ = some res) : Calls Tryz.prog 41 #[i6 many,.func (.func 78) #[] #[pq b_]] w (fun e w => e = .returned (.bool res) ∧ Ctx G (.box b_ [i6 at_.Left,i6 at_.Right,i6 at_.Gap,i6 at_.Step_,.slice at__Points_p at_.Points.length at__Points_c] 97::Lf) w) := by
 unfold gauge_rising_s2 at hF
 refine fnIn Tryz.func41 rfl Tryz.ntmps41 rfl fun a hf => zS fun K h => sp 1 hf rfl fun a hf => zT h ?_
 refine wp_seq_k fun K2 h2 => zS fun K h => sp 1 hf rfl fun a hf => zT h ?_
 refine wp_block ?_
 obtain ⟨x4,hx4,hF⟩ := bnd_some hF
 let S4 : Int → Act → World → Prop := (fun (zz : Int) a w => Has 19 a [(0,i6 many),(1,.func (.func 78) #[] #[pq b_]),(5,i6 zz)] ∧ Ctx G (.box b_ [i6 at_.Left,i6 at_.Right,i6 at_.Gap,i6 at_.Step_,.slice at__Points_p at_.Points.length at__Points_c] 97::Lf) w)
 have hr4 : ∀ (zz : Int) a w,x4 = .go zz → S4 zz a w → K2 a w := by
  rintro i_1 a w rfl ⟨hf,hc⟩
  replace hF := exK_go hF
  refine h2 _ _ ?_
  refine zS fun K h => sp 1 hf rfl fun a hf => zT h ?_
  refine wp_ret ?_
  obtain rfl := sj hF
  exact zO1 Tryz.results41 hf rfl ⟨rfl,hc⟩
 have ho4 : ∀ r,x4 = .out r → r = res := by
  rintro r rfl
  exact sj hF
 refine cLoop N (loopW (S := S4) (x := x4) ?_ N 1 _ _ ⟨hf.kp rfl,hc⟩ hx4)
 clear hF hf hc
 rintro i_1 st4 a w KB4 ⟨hf,hc⟩ hF hfin4 hK4
 unfold gauge_rising_s2_b4 at hF
 refine wp_seq_k fun K6 h6 => zS fun K h => sp 3 hf rfl fun a hf => zT h ?_
 refine zI hf rfl hF ?_ ?_ <;> clear hF <;> intro hF
 ·refine wp_skip ?_
  refine h6 _ _ ?_
  refine wp_seq_k fun K8 h8 => wp_block ?_
  refine zS fun K h => sp 2 hf rfl fun a hf => ?_
  obtain ⟨r,hr,hF⟩ := bnd_some hF
  refine zQ (v := i6 r) hf hc en_78 rfl (fun w hc => (gauge_CheckSite_2_ok i_1 at_ h_at__Points (hc.pick k0) hr).mono fun e w h => ⟨h.1,(h.2.unpick k0)⟩) fun a w hf hc => sp 3 hf rfl fun a hf => ?_
  obtain ⟨r_1,hr_1,hF⟩ := bnd_some hF
  refine zQ (v := i6 r_1) hf hc en_78 rfl (fun w hc => (gauge_CheckSite_2_ok (W (i_1 - 1)) at_ h_at__Points (hc.pick k0) hr_1).mono fun e w h => ⟨h.1,(h.2.unpick k0)⟩) fun a w hf hc => sp 1 hf rfl fun a hf => zT h ?_
  refine zI hf rfl hF ?_ ?_ <;> clear hF <;> intro hF
  ·refine zS fun K h => sp 1 hf rfl fun a hf => zT h ?_
   refine wp_ret ?_
   refine xBlkR ?_
   refine xThenR ?_
   refine xThenR ?_
   have he := sj hF
   rw [← he] at hfin4
   replace hF := ho4 _ hfin4
   refine xBlkR ?_
   refine xThenR ?_
   obtain rfl := hF
   exact zO1 Tryz.results41 hf rfl ⟨rfl,hc⟩
  ·refine wp_skip ?_
   refine h8 _ _ ?_
   refine cReg ?_
   refine sp 3 hf rfl fun a hf => cNil ?_
   exact hK4 (W (i_1 + 1)) _ _ (sj hF).symm ⟨hf.kp rfl,hc⟩
 ·refine wp_exit ?_
  refine xThen ?_
  refine xThen ?_
  have he := sj hF
  rw [← he] at hfin4
  refine cHit ?_
  exact hr4 _ _ _ hfin4 ⟨hf.kp rfl,hc⟩

end Go.Nilo
