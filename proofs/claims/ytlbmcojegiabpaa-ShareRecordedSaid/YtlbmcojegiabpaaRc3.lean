/-
 What functions of the Go text compute, as plain functions, and that they do, part 3 of 4. Conditions: what each theorem names.
-/
import Derived.Test.YtlbmcojegiabpaaRc2
import Derived.Test.YtlbmcojegiabpaaProg
set_option linter.unusedVariables false
set_option linter.unusedSimpArgs false
set_option maxRecDepth 100000
set_option maxHeartbeats 4000000
namespace Go.Nilo
open Go.Proofs


def share_Border_goes_1_j5 (N : Nat) (mp : Int → Option Int) (b__0 : Int) : Option (Int × (Int → Option Int) × Int) :=
 some (b__0,mp,b__0)
def share_Border_goes_1_j3 (N : Nat) (t_ : share_Truth) (spill : Bool) (x_1 : share_Border) (x_2 : Int) (due : Int) (mp : Int → Option Int) : Option (Int × (Int → Option Int) × Int) :=
 cond spill
 (share_Border_goes_1_j5 N mp 0)
 (share_Border_goes_1_j5 N mp (max (W (0 - x_1.Credit)) (W ((W (x_2 + due)) - t_.Delivered))))
def share_Border_goes_1 (N : Nat) (t_ : share_Truth) (spill : Bool) (x : Int → Option Int) (x_1 : share_Border) (x_2 : Int) : Option (Int × (Int → Option Int) × Int) :=
 cond (!((x t_.Index).isSome))
 (Option.bind (share_Border_due N x_1 t_.Index) fun r =>
 share_Border_goes_1_j3 N t_ spill x_1 x_2 r (setM x t_.Index r))
 (share_Border_goes_1_j3 N t_ spill x_1 x_2 ((x t_.Index).getD 0) x)
theorem share_Border_goes_1_ok {N : Nat} {G : Pers} {Lf : List Ent} {w : World} (t_ : share_Truth) (spill : Bool) (x : Int → Option Int) (x_1 : share_Border) (x_2 : Int) {b_ : Nat} {mb : Nat} {b__1 : Nat} {x_1_Table_p : Option Addr} {x_1_Table_c : Nat} {b__2 : Nat} (h_x_1_Table : Rd G 2 x_1_Table_p x_1_Table_c (x_1.Table.map enc_share_Point)) (hc : Ctx G (.box b_ [.map (some mb)] 213::.im mb (fun j => (x j).map (Value.int .i64)) none::.box b__1 [.slice x_1_Table_p x_1.Table.length x_1_Table_c,.int .i64 x_1.Credit] 88::.box b__2 [.int .i64 x_2] 3::Lf) w) {res : Int × (Int → Option Int) × Int} (hF : share_Border_goes_1 N t_ spill x x_1 x_2 = some res) : Calls Try.prog 129 #[.agg #[.int .i64 t_.Index,.int .i64 t_.Delivered],.bool spill,.pointer (some ⟨b_,0,none⟩),.pointer (some ⟨b__1,0,none⟩),.pointer (some ⟨b__2,0,none⟩)] w (fun e w => e = .returned (.int .i64 res.1) ∧ Ctx G (.box b_ [.map (some mb)] 213::.im mb (fun j => (res.2.1 j).map (Value.int .i64)) none::.box b__1 [.slice x_1_Table_p x_1.Table.length x_1_Table_c,.int .i64 x_1.Credit] 88::.box b__2 [.int .i64 res.2.2] 3::Lf) w) := by
 unfold share_Border_goes_1 at hF
 refine fnIn (args := [.agg #[.int .i64 t_.Index,.int .i64 t_.Delivered],.bool spill,.pointer (some ⟨b_,0,none⟩),.pointer (some ⟨b__1,0,none⟩),.pointer (some ⟨b__2,0,none⟩)]) Try.func129 rfl Try.ntmps129 rfl fun a hf => wp_seq_k fun K1 h1 => cReg ?_
 refine stBx (cs := [.int .i64 t_.Index,.int .i64 t_.Delivered]) hf hc rfl rfl rfl rfl fun b_1 a w hf hc => stP hf rfl rfl rfl (pA rfl) fun a hf => cNil ?_
 refine h1 _ _ ?_
 refine wp_seq_k fun K2 h2 => cReg ?_
 refine stE hf hc rfl rfl rfl (eLd1 sc_213 rfl (cell_box m1 rfl)) fun a w hf hc => stP hf rfl rfl rfl (pFA fa_97_0 rfl) fun a hf => stE hf hc rfl rfl rfl (eLd1 sc_3 rfl (cell_box m0 rfl)) fun a w hf hc => stE hf hc rfl rfl rfl (eLkOk (enc := (Value.int .i64)) (z0 := 0) (m := x) m2 Try.underlying213 Try.underlying3 zr_3 rfl rfl) fun a w hf hc => stP hf rfl rfl rfl (pM rfl) fun a hf => stP hf rfl rfl rfl (pX rfl rfl) fun a hf => stP hf rfl rfl rfl (pX rfl rfl) fun a hf => stP hf rfl rfl rfl (pA rfl) fun a hf => stP hf rfl rfl rfl (pA rfl) fun a hf => cNil ?_
 refine h2 _ _ ?_
 refine wp_seq_k fun K3 h3 => ?_
 have hj3 : ∀ (due : Int) (mp : Int → Option Int) a w,Has 39 a [(1,.bool spill),(3,.pointer (some ⟨b__1,0,none⟩)),(4,.pointer (some ⟨b__2,0,none⟩)),(5,.pointer (some ⟨b_1,0,none⟩)),(8,.int .i64 due)] → Ctx G (.box b_1 [.int .i64 t_.Index,.int .i64 t_.Delivered] 97::.box b_ [.map (some mb)] 213::.im mb (fun j => (mp j).map (Value.int .i64)) none::.box b__1 [.slice x_1_Table_p x_1.Table.length x_1_Table_c,.int .i64 x_1.Credit] 88::.box b__2 [.int .i64 x_2] 3::Lf) w → share_Border_goes_1_j3 N t_ spill x_1 x_2 due mp = some res → K3 a w := by
  repeat (clear hF)
  repeat (clear hc)
  repeat (clear hf)
  intro due mp a w hf hc hF
  unfold share_Border_goes_1_j3 at hF
  refine h3 _ _ ?_
  refine wp_seq_k fun K4 h4 => cReg ?_
  refine stP hf rfl rfl rfl (pFA fa_88_1 rfl) fun a hf => stE hf hc rfl rfl rfl (eLd1 sc_3 rfl (cell_box m3 rfl)) fun a w hf hc => stP hf rfl rfl rfl (pNeg rfl) fun a hf => stE hf hc rfl rfl rfl (eLd1 sc_3 rfl (cell_box m4 rfl)) fun a w hf hc => stP hf rfl rfl rfl (pM rfl) fun a hf => stP hf rfl rfl rfl (pAdd rfl rfl) fun a hf => stP hf rfl rfl rfl (pFA fa_97_1 rfl) fun a hf => stE hf hc rfl rfl rfl (eLd1 sc_3 rfl (cell_box m0 rfl)) fun a w hf hc => stP hf rfl rfl rfl (pSub rfl rfl) fun a hf => stP hf rfl rfl rfl (pMax2 rfl rfl) fun a hf => stSt (vs := [.int .i64 (max (W (0 - x_1.Credit)) (W ((W (x_2 + due)) - t_.Delivered)))]) hf hc rfl rfl rfl rfl sz_3 rfl rfl u4 fun w hc => cNil ?_
  refine h4 _ _ ?_
  refine wp_seq_k fun K5 h5 => ?_
  have hj5 : ∀ (b__0 : Int) a w,Has 39 a [(4,.pointer (some ⟨b__2,0,none⟩))] → Ctx G (.box b_ [.map (some mb)] 213::.im mb (fun j => (mp j).map (Value.int .i64)) none::.box b__1 [.slice x_1_Table_p x_1.Table.length x_1_Table_c,.int .i64 x_1.Credit] 88::.box b__2 [.int .i64 b__0] 3::Lf) w → share_Border_goes_1_j5 N mp b__0 = some res → K5 a w := by
   repeat (clear hF)
   repeat (clear hc)
   repeat (clear hf)
   intro b__0 a w hf hc hF
   unfold share_Border_goes_1_j5 at hF
   refine h5 _ _ ?_
   refine wp_seq_k fun K6 h6 => cReg ?_
   refine stE hf hc rfl rfl rfl (eLd1 sc_3 rfl (cell_box m3 rfl)) fun a w hf hc => stP hf rfl rfl rfl (pA rfl) fun a hf => cNil ?_
   refine h6 _ _ ?_
   refine wp_ret ?_
   obtain rfl := Option.some.inj hF
   exact fnOut1 (by simp) rfl Try.results129 hf hc (show look _ 7 = _ from rfl) ⟨rfl,hc⟩
  refine wp_seq_k fun K7 h7 => cReg ?_
  refine stP hf rfl rfl rfl (pM rfl) fun a hf => cNil ?_
  refine h7 _ _ ?_
  refine cCond (b := spill) hf rfl (fun hb => ?_) (fun hb => ?_)
  ·replace hF := condT hb hF
   clear hb
   refine cReg ?_
   refine stSt (vs := [.int .i64 0]) hf hc rfl rfl rfl rfl sz_3 rfl rfl u4 fun w hc => cNil ?_
   replace hc := hc.drop k0
   exact hj5 0 _ _  (hf.keep ⟨rfl,trivial⟩) hc hF
  ·replace hF := condF hb hF
   clear hb
   refine wp_skip ?_
   replace hc := hc.drop k0
   exact hj5 (max (W (0 - x_1.Credit)) (W ((W (x_2 + due)) - t_.Delivered))) _ _  (hf.keep ⟨rfl,trivial⟩) hc hF
 refine wp_seq_k fun K8 h8 => cReg ?_
 refine stP hf rfl rfl rfl (pM rfl) fun a hf => stP hf rfl rfl rfl (pNot rfl) fun a hf => cNil ?_
 refine h8 _ _ ?_
 refine cCond (b := (!((x t_.Index).isSome))) hf rfl (fun hb => ?_) (fun hb => ?_)
 ·replace hF := condT hb hF
  clear hb
  refine wp_seq_k fun K9 h9 => cReg ?_
  refine stE hf hc rfl rfl rfl (eLdN (vs := [.slice x_1_Table_p x_1.Table.length x_1_Table_c,.int .i64 x_1.Credit]) ag_88 rfl rfl (cells_box (n := 2) m3 rfl)) fun a w hf hc => stP hf rfl rfl rfl (pFA fa_97_0 rfl) fun a hf => stE hf hc rfl rfl rfl (eLd1 sc_3 rfl (cell_box m0 rfl)) fun a w hf hc => ?_
  obtain ⟨r,hr,hF⟩ := bnd_some hF
  refine stE hf hc rfl rfl rfl (eC (v := .int .i64 r) (vs := [.agg #[.slice x_1_Table_p x_1.Table.length x_1_Table_c,.int .i64 x_1.Credit],.int .i64 t_.Index]) (caps := []) en_97 rfl rfl rfl rfl (fun w hc => share_Border_due_ok x_1 t_.Index h_x_1_Table hc hr)) fun a w hf hc => stP hf rfl rfl rfl (pA rfl) fun a hf => cNil ?_
  refine h9 _ _ ?_
  refine cReg ?_
  refine stE hf hc rfl rfl rfl (eLd1 sc_213 rfl (cell_box m1 rfl)) fun a w hf hc => stP hf rfl rfl rfl (pFA fa_97_0 rfl) fun a hf => stE hf hc rfl rfl rfl (eLd1 sc_3 rfl (cell_box m0 rfl)) fun a w hf hc => stP hf rfl rfl rfl (pM rfl) fun a hf => stMU (enc := (Value.int .i64)) (m := x) (v := r) hf hc rfl Try.underlying213 Try.underlying3 rfl rfl rfl u2 fun w hc => cNil ?_
  exact hj3 r (setM x t_.Index r) _ _  (hf.keep ⟨rfl,rfl,rfl,rfl,rfl,trivial⟩) hc hF
 ·replace hF := condF hb hF
  clear hb
  refine wp_skip ?_
  exact hj3 ((x t_.Index).getD 0) x _ _  (hf.keep ⟨rfl,rfl,rfl,rfl,rfl,trivial⟩) hc hF

def share_high_1 (s_ : api_Span) : Int :=
 s_.Hi
theorem share_high_1_ok {G : Pers} {Lf : List Ent} {w : World} (s_ : api_Span)   (hc : Ctx G (Lf) w) {res : Int} (hF : share_high_1 s_ = res) : Calls Try.prog 132 #[.agg #[.int .i64 s_.Lo,.int .i64 s_.Hi]] w (fun e w => e = .returned (.int .i64 res) ∧ Ctx G (Lf) w) := by
 unfold share_high_1 at hF
 refine fnIn (args := [.agg #[.int .i64 s_.Lo,.int .i64 s_.Hi]]) Try.func132 rfl Try.ntmps132 rfl fun a hf => wp_seq_k fun K1 h1 => cReg ?_
 refine stBx (cs := [.int .i64 s_.Lo,.int .i64 s_.Hi]) hf hc rfl rfl rfl rfl fun b_1 a w hf hc => stP hf rfl rfl rfl (pA rfl) fun a hf => cNil ?_
 refine h1 _ _ ?_
 refine wp_seq_k fun K2 h2 => cReg ?_
 refine stP hf rfl rfl rfl (pFA fa_26_1 rfl) fun a hf => stE hf hc rfl rfl rfl (eLd1 sc_3 rfl (cell_box m0 rfl)) fun a w hf hc => stP hf rfl rfl rfl (pA rfl) fun a hf => cNil ?_
 refine h2 _ _ ?_
 refine wp_ret ?_
 obtain rfl := hF
 replace hc := hc.drop k0
 exact fnOut1 (by simp) rfl Try.results132 hf hc (show look _ 2 = _ from rfl) ⟨rfl,hc⟩

def share_high_2 (s_ : api_Span) : Int :=
 s_.Lo
theorem share_high_2_ok {G : Pers} {Lf : List Ent} {w : World} (s_ : api_Span)   (hc : Ctx G (Lf) w) {res : Int} (hF : share_high_2 s_ = res) : Calls Try.prog 133 #[.agg #[.int .i64 s_.Lo,.int .i64 s_.Hi]] w (fun e w => e = .returned (.int .i64 res) ∧ Ctx G (Lf) w) := by
 unfold share_high_2 at hF
 refine fnIn (args := [.agg #[.int .i64 s_.Lo,.int .i64 s_.Hi]]) Try.func133 rfl Try.ntmps133 rfl fun a hf => wp_seq_k fun K1 h1 => cReg ?_
 refine stBx (cs := [.int .i64 s_.Lo,.int .i64 s_.Hi]) hf hc rfl rfl rfl rfl fun b_1 a w hf hc => stP hf rfl rfl rfl (pA rfl) fun a hf => cNil ?_
 refine h1 _ _ ?_
 refine wp_seq_k fun K2 h2 => cReg ?_
 refine stP hf rfl rfl rfl (pFA fa_26_0 rfl) fun a hf => stE hf hc rfl rfl rfl (eLd1 sc_3 rfl (cell_box m0 rfl)) fun a w hf hc => stP hf rfl rfl rfl (pA rfl) fun a hf => cNil ?_
 refine h2 _ _ ?_
 refine wp_ret ?_
 obtain rfl := hF
 replace hc := hc.drop k0
 exact fnOut1 (by simp) rfl Try.results133 hf hc (show look _ 2 = _ from rfl) ⟨rfl,hc⟩

def share_Debts_b11 (N : Nat) (b_ : share_Border) (years : List share_Year) (r_1 : (Int → Option Int) × Int × Int) (r_2 : (Int → Option Int) × Int × Int) (out : List api_Span) (x : Int) (x_1 : Int) (x_2 : Int) (mp : Int → Option Int) (mp_1 : Int → Option Int) : Option (Step ((List api_Span) × Int × Int × Int × (Int → Option Int) × (Int → Option Int)) ((List api_Span) × Int)) :=
 cond (decide (x < ((years.length : Nat) : Int)))
 (Option.bind (getI years x) fun e_1 =>
 Option.bind (share_Border_goes_1 N (⟨(share_low_1 e_1.Index),(share_low_2 e_1.Delivered)⟩ : share_Truth) e_1.Spill mp_1 (⟨b_.Table,r_1.2.1⟩ : share_Border) x_1) fun r_3 =>
 Option.bind (share_Border_goes_1 N (⟨(share_high_1 e_1.Index),(share_high_2 e_1.Delivered)⟩ : share_Truth) e_1.Spill mp (⟨b_.Table,r_2.2.1⟩ : share_Border) x_2) fun r_4 =>
 Option.bind (room ((out ++ [(⟨r_3.1,r_4.1⟩ : api_Span)])).length) fun un =>
 some (.cont ((out ++ [(⟨r_3.1,r_4.1⟩ : api_Span)]),W (x + 1),r_3.2.2,r_4.2.2,r_4.2.1,r_3.2.1)))
 (some (.brk (out,x,x_1,x_2,mp,mp_1)))
def share_Debts (N : Nat) (b_ : share_Border) (start : api_Span) (years : List share_Year) : Option ((List api_Span) × Int) :=
 Option.bind (share_asked N b_ start years) fun r =>
 cond (r != 0)
 (some (([] : List api_Span),r))
 (Option.bind (share_Border_goes N b_ start.Lo) fun r_1 =>
 Option.bind (share_Border_goes N b_ start.Hi) fun r_2 =>
 Option.bind (loopO (fun s11 => share_Debts_b11 N b_ years r_1 r_2 s11.1 s11.2.1 s11.2.2.1 s11.2.2.2.1 s11.2.2.2.2.1 s11.2.2.2.2.2) N (([] : List api_Span),0,r_1.2.2,r_2.2.2,r_2.1,r_1.1)) fun x11 =>
 exK x11 (fun s11 => some (s11.1,0)) some)
theorem share_Debts_ok {N : Nat} {G : Pers} {Lf : List Ent} {w : World} (b_ : share_Border) (start : api_Span) (years : List share_Year) {b__Table_p : Option Addr} {b__Table_c : Nat} {years_p : Option Addr} {years_c : Nat} (h_b__Table : Rd G 2 b__Table_p b__Table_c (b_.Table.map enc_share_Point)) (h_years : Rd G 5 years_p years_c (years.map enc_share_Year)) (hc : Ctx G (Lf) w) {res : (List api_Span) × Int} (hF : share_Debts N b_ start years = some res) : Calls Try.prog 54 #[.agg #[.slice b__Table_p b_.Table.length b__Table_c,.int .i64 b_.Credit],.agg #[.int .i64 start.Lo,.int .i64 start.Hi],.slice years_p years.length years_c] w (fun e w => ∃ (p'1 : Option Addr) (c'1 : Nat),e = .returned (.tuple #[.slice p'1 res.1.length c'1,.int .i64 res.2]) ∧ Ctx G (.row p'1 c'1 (res.1.map enc_api_Span) 26 2::Lf) w) := by
 unfold share_Debts at hF
 refine fnIn (args := [.agg #[.slice b__Table_p b_.Table.length b__Table_c,.int .i64 b_.Credit],.agg #[.int .i64 start.Lo,.int .i64 start.Hi],.slice years_p years.length years_c]) Try.func54 rfl Try.ntmps54 rfl fun a hf => wp_seq_k fun K1 h1 => cReg ?_
 refine stBx (cs := [.slice b__Table_p b_.Table.length b__Table_c,.int .i64 b_.Credit]) hf hc rfl rfl rfl rfl fun b_1 a w hf hc => stBx (cs := [.int .i64 start.Lo,.int .i64 start.Hi]) hf hc rfl rfl rfl rfl fun b_2 a w hf hc => stP hf rfl rfl rfl (pA rfl) fun a hf => stP hf rfl rfl rfl (pA rfl) fun a hf => cNil ?_
 refine h1 _ _ ?_
 refine wp_seq_k fun K2 h2 => wp_seq_k fun K3 h3 => cReg ?_
 refine stE hf hc rfl rfl rfl (eLdN (vs := [.slice b__Table_p b_.Table.length b__Table_c,.int .i64 b_.Credit]) ag_88 rfl rfl (cells_box (n := 2) m1 rfl)) fun a w hf hc => stE hf hc rfl rfl rfl (eLdN (vs := [.int .i64 start.Lo,.int .i64 start.Hi]) ag_26 rfl rfl (cells_box (n := 2) m0 rfl)) fun a w hf hc => stP hf rfl rfl rfl (pM rfl) fun a hf => ?_
 obtain ⟨r,hr,hF⟩ := bnd_some hF
 refine stE hf hc rfl rfl rfl (eC (v := .int .i64 r) (vs := [.agg #[.slice b__Table_p b_.Table.length b__Table_c,.int .i64 b_.Credit],.agg #[.int .i64 start.Lo,.int .i64 start.Hi],.slice years_p years.length years_c]) (caps := []) en_99 rfl rfl rfl rfl (fun w hc => share_asked_ok b_ start years h_b__Table h_years hc hr)) fun a w hf hc => stP hf rfl rfl rfl (pA rfl) fun a hf => cNil ?_
 refine h3 _ _ ?_
 refine wp_seq_k fun K4 h4 => cReg ?_
 refine stP hf rfl rfl rfl (pM rfl) fun a hf => stP hf rfl rfl rfl (pNe rfl rfl) fun a hf => cNil ?_
 refine h4 _ _ ?_
 refine cCond (b := (r != 0)) hf rfl (fun hb => ?_) (fun hb => ?_)
 ·replace hF := condT hb hF
  clear hb
  refine wp_seq_k fun K5 h5 => cReg ?_
  refine stP hf rfl rfl rfl (pM rfl) fun a hf => stP hf rfl rfl rfl (pA rfl) fun a hf => stP hf rfl rfl rfl (pA rfl) fun a hf => cNil ?_
  refine h5 _ _ ?_
  refine wp_ret ?_
  refine xThenR ?_
  obtain rfl := Option.some.inj hF
  replace hc := hc.nilRow 26 2
  replace hc := hc.drop k2
  replace hc := hc.drop k1
  exact fnOut2 (by simp) rfl Try.results54 hf hc (show look _ 6 = _ from rfl) (show look _ 7 = _ from rfl) ⟨none,0,rfl,hc⟩
 ·replace hF := condF hb hF
  clear hb
  refine wp_skip ?_
  refine h2 _ _ ?_
  refine wp_seq_k fun K6 h6 => cReg ?_
  refine stP hf rfl rfl rfl (pA rfl) fun a hf => cNil ?_
  refine h6 _ _ ?_
  refine wp_seq_k fun K7 h7 => ?_
  obtain ⟨r_1,hr_1,hF⟩ := bnd_some hF
  obtain ⟨r_2,hr_2,hF⟩ := bnd_some hF
  replace hc := hc.nilRow 0 0
  replace hc := hc.nilRow 0 0
  replace hc := hc.nilRow 0 0
  replace hc := hc.nilRow 0 0
  replace hc := hc.nilRow 0 0
  replace hc := hc.nilRow 0 0
  replace hc := hc.nilRow 0 0
  replace hc := hc.nilRow 0 0
  refine regionE (fun θ => [⟨none,none,2,.slice years_p years.length years_c⟩,⟨none,none,3,.pointer (some ⟨b_1,0,none⟩)⟩,⟨none,none,4,.pointer (some ⟨b_2,0,none⟩)⟩,⟨none,none,9,.slice none 0 0⟩,⟨some 0,none,25,.agg #[.slice b__Table_p b_.Table.length b__Table_c,.int .i64 b_.Credit]⟩,⟨some 1,none,26,.pointer (some ⟨b_2,0,none⟩)⟩,⟨some 2,none,27,.int .i64 start.Lo⟩,⟨some 3,none,28,.func (.func 129) #[] #[.pointer (some ⟨(θ 24).b,0,none⟩),.pointer (some ⟨(θ 26).b,0,none⟩),.pointer (some ⟨(θ 27).b,0,none⟩)]⟩,⟨some 4,none,29,.agg #[.slice b__Table_p b_.Table.length b__Table_c,.int .i64 b_.Credit]⟩,⟨some 5,none,30,.pointer (some ⟨b_2,1,none⟩)⟩,⟨some 6,none,31,.int .i64 start.Hi⟩,⟨some 7,none,32,.func (.func 129) #[] #[.pointer (some ⟨(θ 56).b,0,none⟩),.pointer (some ⟨(θ 58).b,0,none⟩),.pointer (some ⟨(θ 59).b,0,none⟩)]⟩,⟨some 8,none,10,.func (.func 129) #[] #[.pointer (some ⟨(θ 24).b,0,none⟩),.pointer (some ⟨(θ 26).b,0,none⟩),.pointer (some ⟨(θ 27).b,0,none⟩)]⟩,⟨some 9,none,11,.func (.func 129) #[] #[.pointer (some ⟨(θ 56).b,0,none⟩),.pointer (some ⟨(θ 58).b,0,none⟩),.pointer (some ⟨(θ 59).b,0,none⟩)]⟩]) (fun E θ => (bif E 7 then .box (θ 59).b [.int .i64 r_2.2.2] 3 else .row none 0 [] 0 0)::(bif E 7 then .box (θ 58).b [.slice b__Table_p b_.Table.length b__Table_c,.int .i64 r_2.2.1] 88 else .row none 0 [] 0 0)::(bif E 7 then .box (θ 56).b [.map (some ((θ 57).b))] 213 else .row none 0 [] 0 0)::(bif E 7 then .im ((θ 57).b) (fun j => (r_2.1 j).map (Value.int .i64)) none else .row none 0 [] 0 0)::(bif E 3 then .box (θ 27).b [.int .i64 r_1.2.2] 3 else .row none 0 [] 0 0)::(bif E 3 then .box (θ 26).b [.slice b__Table_p b_.Table.length b__Table_c,.int .i64 r_1.2.1] 88 else .row none 0 [] 0 0)::(bif E 3 then .box (θ 24).b [.map (some ((θ 25).b))] 213 else .row none 0 [] 0 0)::(bif E 3 then .im ((θ 25).b) (fun j => (r_1.1 j).map (Value.int .i64)) none else .row none 0 [] 0 0)::.box b_2 [.int .i64 start.Lo,.int .i64 start.Hi] 26::.box b_1 [.slice b__Table_p b_.Table.length b__Table_c,.int .i64 b_.Credit] 88::Lf) [(8,3),(9,7)] (fun a w => ∃ (b_11 : Nat) (b_12 : Nat) (b_13 : Nat) (b_14 : Nat) (b_15 : Nat) (b_16 : Nat) (b_17 : Nat) (b_18 : Nat),Has 79 a [(2,.slice years_p years.length years_c),(9,.slice none 0 0),(10,.func (.func 129) #[] #[.pointer (some ⟨b_11,0,none⟩),.pointer (some ⟨b_12,0,none⟩),.pointer (some ⟨b_13,0,none⟩)]),(11,.func (.func 129) #[] #[.pointer (some ⟨b_14,0,none⟩),.pointer (some ⟨b_15,0,none⟩),.pointer (some ⟨b_16,0,none⟩)])] ∧ Ctx G (.box b_16 [.int .i64 r_2.2.2] 3::.box b_15 [.slice b__Table_p b_.Table.length b__Table_c,.int .i64 r_2.2.1] 88::.box b_14 [.map (some b_17)] 213::.im b_17 (fun j => (r_2.1 j).map (Value.int .i64)) none::.box b_13 [.int .i64 r_1.2.2] 3::.box b_12 [.slice b__Table_p b_.Table.length b__Table_c,.int .i64 r_1.2.1] 88::.box b_11 [.map (some b_18)] 213::.im b_18 (fun j => (r_1.1 j).map (Value.int .i64)) none::.box b_2 [.int .i64 start.Lo,.int .i64 start.Hi] 26::.box b_1 [.slice b__Table_p b_.Table.length b__Table_c,.int .i64 b_.Credit] 88::Lf) w) follows_mx (by kernel_rfl) (by kernel_rfl) (HasE.of hf ⟨rfl,rfl,rfl,rfl,trivial,trivial,trivial,trivial,trivial,trivial,trivial,trivial,trivial,trivial,trivial⟩) hc ⟨?_,?_,?_,?_,?_,?_,?_,?_,?_,?_,trivial⟩ ?_ ?_
  ·intro E θ a w hD hi hp he hc
   have hf := he.h0
   replace hf := hf.more he 1 rfl onT
   refine stE hf hc rfl rfl rfl (eLdN (vs := [.slice b__Table_p b_.Table.length b__Table_c,.int .i64 b_.Credit]) ag_88 rfl rfl (cells_box (n := 2) m9 rfl)) fun a w hf hc => cNil ?_
   refine xThenN ?_
   intro ds u hau
   refine ⟨θ,he.put0 hi hau hf rfl 4 rfl rfl,?_⟩
   exact hc
  ·intro E θ a w hD hi hp he hc
   have hf := he.h0
   replace hf := hf.more he 2 rfl onT
   refine stP hf rfl rfl rfl (pFA fa_26_0 rfl) fun a hf => cNil ?_
   refine xThenN ?_
   intro ds u hau
   refine ⟨θ,he.put0 hi hau hf rfl 5 rfl rfl,?_⟩
   exact hc
  ·intro E θ a w hD hi hp he hc
   have e1 := hp.of (k := 1) rfl
   have hf := he.h0
   replace hf := hf.more he 5 rfl (onP e1)
   refine stE hf hc rfl rfl rfl (eLd1 sc_3 rfl (cell_box m8 rfl)) fun a w hf hc => cNil ?_
   refine xThenN ?_
   intro ds u hau
   refine ⟨θ,he.put0 hi hau hf rfl 6 rfl rfl,?_⟩
   exact hc
  ·intro E θ a w hD hi hp he hc
   have e0 := hp.of (k := 0) rfl
   have e2 := hp.of (k := 2) rfl
   have e8 := hD.f 0 rfl hi
   try dsimp only at hc
   rw [hi] at hc
   have hf := he.h0
   replace hf := hf.more he 4 rfl (onP e0)
   replace hf := hf.more he 6 rfl (onP e2)
   refine stC (vs := [.agg #[.slice b__Table_p b_.Table.length b__Table_c,.int .i64 b_.Credit],.int .i64 start.Lo]) (caps := []) hf rfl rfl rfl en_100 rfl rfl rfl rfl (share_Border_goes_ok b_ start.Lo h_b__Table hc hr_1) ?_
   rintro _ w ⟨b_3,b_4,b_5,b_6,rfl,hc⟩
   refine ⟨_,rfl,fun a hf => ?_⟩
   refine cNil ?_
   refine xThenN ?_
   intro ds u hau
   replace hc := hc.drop k11
   replace hc := hc.drop k10
   replace hc := hc.drop k9
   replace hc := hc.drop k8
   replace hc := hc.pick k0
   replace hc := hc.pick k1
   replace hc := hc.pick k2
   replace hc := hc.pick k3
   replace hc := hc.pick k7
   replace hc := hc.pick k7
   replace hc := hc.pick k7
   replace hc := hc.pick k7
   refine ⟨(setT (setT (setT (setT θ 24 ⟨b_3,none,0,(fun _ => (none,0))⟩) 25 ⟨b_4,none,0,(fun _ => (none,0))⟩) 26 ⟨b_5,none,0,(fun _ => (none,0))⟩) 27 ⟨b_6,none,0,(fun _ => (none,0))⟩),he.put hi hau hf rfl [8] ⟨⟨e8,rfl⟩,trivial⟩ ⟨qq,qq,qq,qq,qq,qq,qq,qq,qq,qq,qq,qq,trivial,qq,trivial⟩,?_⟩
   try dsimp only
   rw [updE_self E 3]
   exact hc
  ·intro E θ a w hD hi hp he hc
   have hf := he.h0
   replace hf := hf.more he 1 rfl onT
   refine stE hf hc rfl rfl rfl (eLdN (vs := [.slice b__Table_p b_.Table.length b__Table_c,.int .i64 b_.Credit]) ag_88 rfl rfl (cells_box (n := 2) m9 rfl)) fun a w hf hc => cNil ?_
   refine xThenN ?_
   intro ds u hau
   refine ⟨θ,he.put0 hi hau hf rfl 8 rfl rfl,?_⟩
   exact hc
  ·intro E θ a w hD hi hp he hc
   have hf := he.h0
   replace hf := hf.more he 2 rfl onT
   refine stP hf rfl rfl rfl (pFA fa_26_1 rfl) fun a hf => cNil ?_
   refine xThenN ?_
   intro ds u hau
   refine ⟨θ,he.put0 hi hau hf rfl 9 rfl rfl,?_⟩
   exact hc
  ·intro E θ a w hD hi hp he hc
   have e5 := hp.of (k := 5) rfl
   have hf := he.h0
   replace hf := hf.more he 9 rfl (onP e5)
   refine stE hf hc rfl rfl rfl (eLd1 sc_3 rfl (cell_box m8 rfl)) fun a w hf hc => cNil ?_
   refine xThenN ?_
   intro ds u hau
   refine ⟨θ,he.put0 hi hau hf rfl 10 rfl rfl,?_⟩
   exact hc
  ·intro E θ a w hD hi hp he hc
   have e4 := hp.of (k := 4) rfl
   have e6 := hp.of (k := 6) rfl
   have e9 := hD.f 1 rfl hi
   try dsimp only at hc
   rw [hi] at hc
   have hf := he.h0
   replace hf := hf.more he 8 rfl (onP e4)
   replace hf := hf.more he 10 rfl (onP e6)
   refine stC (vs := [.agg #[.slice b__Table_p b_.Table.length b__Table_c,.int .i64 b_.Credit],.int .i64 start.Hi]) (caps := []) hf rfl rfl rfl en_100 rfl rfl rfl rfl (share_Border_goes_ok b_ start.Hi h_b__Table hc hr_2) ?_
   rintro _ w ⟨b_7,b_8,b_9,b_10,rfl,hc⟩
   refine ⟨_,rfl,fun a hf => ?_⟩
   refine cNil ?_
   refine xThenN ?_
   intro ds u hau
   replace hc := hc.drop k7
   replace hc := hc.drop k6
   replace hc := hc.drop k5
   replace hc := hc.drop k4
   replace hc := hc.pick k0
   replace hc := hc.pick k1
   replace hc := hc.pick k2
   replace hc := hc.pick k3
   refine ⟨(setT (setT (setT (setT θ 56 ⟨b_7,none,0,(fun _ => (none,0))⟩) 57 ⟨b_8,none,0,(fun _ => (none,0))⟩) 58 ⟨b_9,none,0,(fun _ => (none,0))⟩) 59 ⟨b_10,none,0,(fun _ => (none,0))⟩),he.put hi hau hf rfl [9] ⟨⟨e9,rfl⟩,trivial⟩ ⟨qq,qq,qq,qq,qq,qq,qq,qq,qq,qq,qq,qq,qq,trivial,trivial⟩,?_⟩
   try dsimp only
   rw [updE_self E 7]
   exact hc
  ·intro E θ a w hD hi hp he hc
   have e3 := hp.of (k := 3) rfl
   have hf := he.h0
   replace hf := hf.more he 7 rfl (onP e3)
   refine stP hf rfl rfl rfl (pA rfl) fun a hf => cNil ?_
   refine xThenN ?_
   intro ds u hau
   refine ⟨θ,he.put0 hi hau hf rfl 12 rfl rfl,?_⟩
   exact hc
  ·intro E θ a w hD hi hp he hc
   have e7 := hp.of (k := 7) rfl
   have hf := he.h0
   replace hf := hf.more he 11 rfl (onP e7)
   refine stP hf rfl rfl rfl (pA rfl) fun a hf => cNil ?_
   refine xThenN ?_
   intro ds u hau
   refine ⟨θ,he.put0 hi hau hf rfl 13 rfl rfl,?_⟩
   exact hc
  ·intro E θ a w hall he hc
   have hf := he.h0
   have e3 := hall 3 rfl
   have e7 := hall 7 rfl
   have e8 := hall 8 rfl
   have e9 := hall 9 rfl
   replace hf := hf.more he 13 rfl (onP e9)
   replace hf := hf.more he 12 rfl (onP e8)
   replace hf := hf.more he 3 rfl (onT)
   replace hf := hf.more he 0 rfl (onT)
   try dsimp only at hc
   rw [e3,e7] at hc
   exact ⟨(θ 24).b,(θ 26).b,(θ 27).b,(θ 56).b,(θ 58).b,(θ 59).b,(θ 57).b,(θ 25).b,hf.keep ⟨rfl,rfl,rfl,rfl,trivial⟩,hc⟩
  rintro a w ⟨b_11,b_12,b_13,b_14,b_15,b_16,b_17,b_18,hf,hc⟩
  replace hc := hc.drop k9
  replace hc := hc.drop k8
  refine h7 _ _ ?_
  refine wp_seq_k fun K8 h8 => cReg ?_
  refine stE hf hc rfl rfl rfl (eC (v := .agg #[.func (.func 130) #[] #[],.func (.func 131) #[] #[]]) (vs := []) (caps := []) en_103 rfl rfl rfl rfl (fun w hc => share_low_ok hc rfl)) fun a w hf hc => stE hf hc rfl rfl rfl (eC (v := .agg #[.func (.func 132) #[] #[],.func (.func 133) #[] #[]]) (vs := []) (caps := []) en_104 rfl rfl rfl rfl (fun w hc => share_high_ok hc rfl)) fun a w hf hc => stAl (cs := [.nilFunc,.nilFunc]) hf hc rfl rfl zr_192 rfl fun b_19 a w hf hc => stAl (cs := [.nilFunc,.nilFunc]) hf hc rfl rfl zr_192 rfl fun b_20 a w hf hc => stSt (vs := [.func (.func 130) #[] #[],.func (.func 131) #[] #[]]) hf hc rfl rfl rfl rfl sz_192 rfl rfl u1 fun w hc => stSt (vs := [.func (.func 132) #[] #[],.func (.func 133) #[] #[]]) hf hc rfl rfl rfl rfl sz_192 rfl rfl u0 fun w hc => cNil ?_
  refine h8 _ _ ?_
  refine wp_seq_k fun K9 h9 => wp_seq_k fun K10 h10 => cReg ?_
  refine stP hf rfl rfl rfl (pM rfl) fun a hf => stP hf rfl rfl rfl (pLenS Try.underlying89 rfl) fun a hf => stP hf rfl rfl rfl (pM rfl) fun a hf => cNil ?_
  refine h10 _ _ ?_
  refine wp_block ?_
  obtain ⟨x11,hx11,hF⟩ := bnd_some hF
  let S11 : ((List api_Span) × Int × Int × Int × (Int → Option Int) × (Int → Option Int)) → Act → World → Prop := (fun (zz : (List api_Span) × Int × Int × Int × (Int → Option Int) × (Int → Option Int)) a w => ∃ (p_1 : Option Addr) (c_1 : Nat),Has 79 a [(9,.slice p_1 zz.1.length c_1),(10,.func (.func 129) #[] #[.pointer (some ⟨b_11,0,none⟩),.pointer (some ⟨b_12,0,none⟩),.pointer (some ⟨b_13,0,none⟩)]),(11,.func (.func 129) #[] #[.pointer (some ⟨b_14,0,none⟩),.pointer (some ⟨b_15,0,none⟩),.pointer (some ⟨b_16,0,none⟩)]),(12,.pointer (some ⟨b_19,0,none⟩)),(13,.pointer (some ⟨b_20,0,none⟩)),(35,.slice years_p years.length years_c),(36,.int .i64 ((years.length : Nat) : Int)),(37,.int .i64 zz.2.1)] ∧ Ctx G (.row p_1 c_1 (zz.1.map enc_api_Span) 26 2::.box b_20 [.func (.func 132) #[] #[],.func (.func 133) #[] #[]] 192::.box b_19 [.func (.func 130) #[] #[],.func (.func 131) #[] #[]] 192::.box b_16 [.int .i64 zz.2.2.2.1] 3::.box b_15 [.slice b__Table_p b_.Table.length b__Table_c,.int .i64 r_2.2.1] 88::.box b_14 [.map (some b_17)] 213::.im b_17 (fun j => (zz.2.2.2.2.1 j).map (Value.int .i64)) none::.box b_13 [.int .i64 zz.2.2.1] 3::.box b_12 [.slice b__Table_p b_.Table.length b__Table_c,.int .i64 r_1.2.1] 88::.box b_11 [.map (some b_18)] 213::.im b_18 (fun j => (zz.2.2.2.2.2 j).map (Value.int .i64)) none::Lf) w)
  have hr11 : ∀ (zz : (List api_Span) × Int × Int × Int × (Int → Option Int) × (Int → Option Int)) a w,x11 = .go zz → S11 zz a w → K9 a w := by
   rintro ⟨out,x,x_1,x_2,mp,mp_1⟩ a w rfl ⟨p_1,c_1,hf,hc⟩
   replace hF := exK_go hF
   refine h9 _ _ ?_
   refine wp_seq_k fun K12 h12 => cReg ?_
   refine stP hf rfl rfl rfl (pM rfl) fun a hf => stP hf rfl rfl rfl (pA rfl) fun a hf => stP hf rfl rfl rfl (pA rfl) fun a hf => cNil ?_
   replace hc := hc.drop k10
   replace hc := hc.drop k9
   replace hc := hc.drop k8
   replace hc := hc.drop k7
   replace hc := hc.drop k6
   replace hc := hc.drop k5
   replace hc := hc.drop k4
   replace hc := hc.drop k3
   replace hc := hc.drop k2
   replace hc := hc.drop k1
   refine h12 _ _ ?_
   refine wp_ret ?_
   obtain rfl := Option.some.inj hF
   exact fnOut2 (by simp) rfl Try.results54 hf hc (show look _ 6 = _ from rfl) (show look _ 7 = _ from rfl) ⟨p_1,c_1,rfl,hc⟩
  have ho11 : ∀ r,x11 = .out r → r = res := by
   rintro r rfl
   exact Option.some.inj hF
  replace hc := hc.nilRow 26 2
  refine cLoop N (loopW (S := S11) (x := x11) ?_ N (([] : List api_Span),0,r_1.2.2,r_2.2.2,r_2.1,r_1.1) _ _ ⟨none,0,hf.keep ⟨rfl,rfl,rfl,rfl,rfl,rfl,rfl,rfl,trivial⟩,hc⟩ hx11)
  clear hF hf hc
  rintro ⟨out,x,x_1,x_2,mp,mp_1⟩ st11 a w KB11 ⟨p_1,c_1,hf,hc⟩ hF hfin11 hK11
  unfold share_Debts_b11 at hF
  refine wp_seq_k fun K13 h13 => cReg ?_
  refine stP hf rfl rfl rfl (pLt rfl rfl) fun a hf => cNil ?_
  refine h13 _ _ ?_
  refine wp_seq_k fun K14 h14 => cCond (b := (decide (x < ((years.length : Nat) : Int)))) hf rfl (fun hb => ?_) (fun hb => ?_)
  ·replace hF := condT hb hF
   clear hb
   refine wp_skip ?_
   refine h14 _ _ ?_
   refine wp_seq_k fun K15 h15 => wp_block ?_
   refine wp_seq_k fun K16 h16 => cReg ?_
   obtain ⟨e_1,he_1,hF⟩ := bnd_some hF
   obtain ⟨b_21,o,qa,qp⟩ := h_years.atm he_1
   refine stP hf rfl rfl rfl (pIA Try.underlying89 sz_94 rfl rfl qa) fun a hf => stE hf hc rfl rfl rfl (eLdN (vs := [.int .i64 e_1.Index.Lo,.int .i64 e_1.Index.Hi,.int .i64 e_1.Delivered.Lo,.int .i64 e_1.Delivered.Hi,.bool e_1.Spill]) ag_94 rfl rfl (cells_pc qp (n := 5) (o' := 0) rfl)) fun a w hf hc => stAl (cs := [.int .i64 0,.int .i64 0,.int .i64 0,.int .i64 0,.bool false]) hf hc rfl rfl zr_94 rfl fun b_22 a w hf hc => stSt (vs := [.int .i64 e_1.Index.Lo,.int .i64 e_1.Index.Hi,.int .i64 e_1.Delivered.Lo,.int .i64 e_1.Delivered.Hi,.bool e_1.Spill]) hf hc rfl rfl rfl rfl sz_94 rfl rfl u0 fun w hc => cNil ?_
   refine h16 _ _ ?_
   refine wp_seq_k fun K17 h17 => ?_
   obtain ⟨r_3,hr_3,hF⟩ := bnd_some hF
   refine regionE (fun θ => [⟨none,none,9,.slice p_1 out.length c_1⟩,⟨none,none,10,.func (.func 129) #[] #[.pointer (some ⟨b_11,0,none⟩),.pointer (some ⟨b_12,0,none⟩),.pointer (some ⟨b_13,0,none⟩)]⟩,⟨none,none,11,.func (.func 129) #[] #[.pointer (some ⟨b_14,0,none⟩),.pointer (some ⟨b_15,0,none⟩),.pointer (some ⟨b_16,0,none⟩)]⟩,⟨none,none,12,.pointer (some ⟨b_19,0,none⟩)⟩,⟨none,none,13,.pointer (some ⟨b_20,0,none⟩)⟩,⟨none,none,15,.pointer (some ⟨b_22,0,none⟩)⟩,⟨none,none,35,.slice years_p years.length years_c⟩,⟨none,none,36,.int .i64 ((years.length : Nat) : Int)⟩,⟨none,none,37,.int .i64 x⟩,⟨some 0,none,41,.func (.func 129) #[] #[.pointer (some ⟨b_11,0,none⟩),.pointer (some ⟨b_12,0,none⟩),.pointer (some ⟨b_13,0,none⟩)]⟩,⟨some 1,none,42,.pointer (some ⟨b_19,0,none⟩)⟩,⟨some 2,none,43,.func (.func 130) #[] #[]⟩,⟨some 3,none,44,.pointer (some ⟨b_22,0,none⟩)⟩,⟨some 4,none,45,.agg #[.int .i64 e_1.Index.Lo,.int .i64 e_1.Index.Hi]⟩,⟨some 5,none,46,.int .i64 (share_low_1 e_1.Index)⟩,⟨some 6,none,47,.pointer (some ⟨b_19,1,none⟩)⟩,⟨some 7,none,48,.func (.func 131) #[] #[]⟩,⟨some 8,none,49,.pointer (some ⟨b_22,2,none⟩)⟩,⟨some 9,none,50,.agg #[.int .i64 e_1.Delivered.Lo,.int .i64 e_1.Delivered.Hi]⟩,⟨some 10,none,51,.int .i64 (share_low_2 e_1.Delivered)⟩,⟨some 11,none,52,.agg #[.int .i64 (share_low_1 e_1.Index),.int .i64 (share_low_2 e_1.Delivered)]⟩,⟨some 12,none,53,.pointer (some ⟨b_22,4,none⟩)⟩,⟨some 13,none,54,.bool e_1.Spill⟩,⟨some 14,none,55,.int .i64 r_3.1⟩,⟨some 15,none,16,.int .i64 r_3.1⟩]) (fun E θ => .box b_22 [.int .i64 e_1.Index.Lo,.int .i64 e_1.Index.Hi,.int .i64 e_1.Delivered.Lo,.int .i64 e_1.Delivered.Hi,.bool e_1.Spill] 94::.row p_1 c_1 (out.map enc_api_Span) 26 2::.box b_20 [.func (.func 132) #[] #[],.func (.func 133) #[] #[]] 192::.box b_19 [.func (.func 130) #[] #[],.func (.func 131) #[] #[]] 192::.box b_16 [.int .i64 x_2] 3::.box b_15 [.slice b__Table_p b_.Table.length b__Table_c,.int .i64 r_2.2.1] 88::.box b_14 [.map (some b_17)] 213::.im b_17 (fun j => (mp j).map (Value.int .i64)) none::(bif E 14 then .box b_13 [.int .i64 r_3.2.2] 3 else .box b_13 [.int .i64 x_1] 3)::.box b_12 [.slice b__Table_p b_.Table.length b__Table_c,.int .i64 r_1.2.1] 88::.box b_11 [.map (some b_18)] 213::(bif E 14 then .im b_18 (fun j => (r_3.2.1 j).map (Value.int .i64)) none else .im b_18 (fun j => (mp_1 j).map (Value.int .i64)) none)::Lf) [] (fun a w => Has 79 a [(9,.slice p_1 out.length c_1),(10,.func (.func 129) #[] #[.pointer (some ⟨b_11,0,none⟩),.pointer (some ⟨b_12,0,none⟩),.pointer (some ⟨b_13,0,none⟩)]),(11,.func (.func 129) #[] #[.pointer (some ⟨b_14,0,none⟩),.pointer (some ⟨b_15,0,none⟩),.pointer (some ⟨b_16,0,none⟩)]),(12,.pointer (some ⟨b_19,0,none⟩)),(13,.pointer (some ⟨b_20,0,none⟩)),(15,.pointer (some ⟨b_22,0,none⟩)),(35,.slice years_p years.length years_c),(36,.int .i64 ((years.length : Nat) : Int)),(37,.int .i64 x),(16,.int .i64 r_3.1)] ∧ Ctx G (.box b_22 [.int .i64 e_1.Index.Lo,.int .i64 e_1.Index.Hi,.int .i64 e_1.Delivered.Lo,.int .i64 e_1.Delivered.Hi,.bool e_1.Spill] 94::.row p_1 c_1 (out.map enc_api_Span) 26 2::.box b_20 [.func (.func 132) #[] #[],.func (.func 133) #[] #[]] 192::.box b_19 [.func (.func 130) #[] #[],.func (.func 131) #[] #[]] 192::.box b_16 [.int .i64 x_2] 3::.box b_15 [.slice b__Table_p b_.Table.length b__Table_c,.int .i64 r_2.2.1] 88::.box b_14 [.map (some b_17)] 213::.im b_17 (fun j => (mp j).map (Value.int .i64)) none::.box b_13 [.int .i64 r_3.2.2] 3::.box b_12 [.slice b__Table_p b_.Table.length b__Table_c,.int .i64 r_1.2.1] 88::.box b_11 [.map (some b_18)] 213::.im b_18 (fun j => (r_3.2.1 j).map (Value.int .i64)) none::Lf) w) follows_mx (by kernel_rfl) (by kernel_rfl) (HasE.of hf ⟨rfl,rfl,rfl,rfl,rfl,rfl,rfl,rfl,rfl,trivial,trivial,trivial,trivial,trivial,trivial,trivial,trivial,trivial,trivial,trivial,trivial,trivial,trivial,trivial,trivial,trivial⟩) hc ⟨?_,?_,?_,?_,?_,?_,?_,?_,?_,?_,?_,?_,?_,?_,?_,?_,trivial⟩ ?_ ?_
   ·intro E θ a w hD hi hp he hc
    have hf := he.h0
    replace hf := hf.more he 1 rfl onT
    refine stP hf rfl rfl rfl (pM rfl) fun a hf => cNil ?_
    refine xThenN ?_
    intro ds u hau
    refine ⟨θ,he.put0 hi hau hf rfl 9 rfl rfl,?_⟩
    exact hc
   ·intro E θ a w hD hi hp he hc
    have hf := he.h0
    replace hf := hf.more he 3 rfl onT
    refine stP hf rfl rfl rfl (pFA fa_192_0 rfl) fun a hf => cNil ?_
    refine xThenN ?_
    intro ds u hau
    refine ⟨θ,he.put0 hi hau hf rfl 10 rfl rfl,?_⟩
    exact hc
   ·intro E θ a w hD hi hp he hc
    have e1 := hp.of (k := 1) rfl
    have hf := he.h0
    replace hf := hf.more he 10 rfl (onP e1)
    refine stE hf hc rfl rfl rfl (eLd1 sc_190 rfl (cell_box m3 rfl)) fun a w hf hc => cNil ?_
    refine xThenN ?_
    intro ds u hau
    refine ⟨θ,he.put0 hi hau hf rfl 11 rfl rfl,?_⟩
    exact hc
   ·intro E θ a w hD hi hp he hc
    have hf := he.h0
    replace hf := hf.more he 5 rfl onT
    refine stP hf rfl rfl rfl (pFA fa_94_0 rfl) fun a hf => cNil ?_
    refine xThenN ?_
    intro ds u hau
    refine ⟨θ,he.put0 hi hau hf rfl 12 rfl rfl,?_⟩
    exact hc
   ·intro E θ a w hD hi hp he hc
    have e3 := hp.of (k := 3) rfl
    have hf := he.h0
    replace hf := hf.more he 12 rfl (onP e3)
    refine stE hf hc rfl rfl rfl (eLdN (vs := [.int .i64 e_1.Index.Lo,.int .i64 e_1.Index.Hi]) ag_26 rfl rfl (cells_box (n := 2) m0 rfl)) fun a w hf hc => cNil ?_
    refine xThenN ?_
    intro ds u hau
    refine ⟨θ,he.put0 hi hau hf rfl 13 rfl rfl,?_⟩
    exact hc
   ·intro E θ a w hD hi hp he hc
    have e2 := hp.of (k := 2) rfl
    have e4 := hp.of (k := 4) rfl
    have hf := he.h0
    replace hf := hf.more he 11 rfl (onP e2)
    replace hf := hf.more he 13 rfl (onP e4)
    refine stE hf hc rfl rfl rfl (eC (v := .int .i64 (share_low_1 e_1.Index)) (vs := [.agg #[.int .i64 e_1.Index.Lo,.int .i64 e_1.Index.Hi]]) (caps := []) en_130 rfl rfl rfl rfl (fun w hc => share_low_1_ok e_1.Index hc rfl)) fun a w hf hc => cNil ?_
    refine xThenN ?_
    intro ds u hau
    refine ⟨θ,he.put0 hi hau hf rfl 14 rfl rfl,?_⟩
    exact hc
   ·intro E θ a w hD hi hp he hc
    have hf := he.h0
    replace hf := hf.more he 3 rfl onT
    refine stP hf rfl rfl rfl (pFA fa_192_1 rfl) fun a hf => cNil ?_
    refine xThenN ?_
    intro ds u hau
    refine ⟨θ,he.put0 hi hau hf rfl 15 rfl rfl,?_⟩
    exact hc
   ·intro E θ a w hD hi hp he hc
    have e6 := hp.of (k := 6) rfl
    have hf := he.h0
    replace hf := hf.more he 15 rfl (onP e6)
    refine stE hf hc rfl rfl rfl (eLd1 sc_190 rfl (cell_box m3 rfl)) fun a w hf hc => cNil ?_
    refine xThenN ?_
    intro ds u hau
    refine ⟨θ,he.put0 hi hau hf rfl 16 rfl rfl,?_⟩
    exact hc
   ·intro E θ a w hD hi hp he hc
    have hf := he.h0
    replace hf := hf.more he 5 rfl onT
    refine stP hf rfl rfl rfl (pFA fa_94_1 rfl) fun a hf => cNil ?_
    refine xThenN ?_
    intro ds u hau
    refine ⟨θ,he.put0 hi hau hf rfl 17 rfl rfl,?_⟩
    exact hc
   ·intro E θ a w hD hi hp he hc
    have e8 := hp.of (k := 8) rfl
    have hf := he.h0
    replace hf := hf.more he 17 rfl (onP e8)
    refine stE hf hc rfl rfl rfl (eLdN (vs := [.int .i64 e_1.Delivered.Lo,.int .i64 e_1.Delivered.Hi]) ag_26 rfl rfl (cells_box (n := 2) m0 rfl)) fun a w hf hc => cNil ?_
    refine xThenN ?_
    intro ds u hau
    refine ⟨θ,he.put0 hi hau hf rfl 18 rfl rfl,?_⟩
    exact hc
   ·intro E θ a w hD hi hp he hc
    have e7 := hp.of (k := 7) rfl
    have e9 := hp.of (k := 9) rfl
    have hf := he.h0
    replace hf := hf.more he 16 rfl (onP e7)
    replace hf := hf.more he 18 rfl (onP e9)
    refine stE hf hc rfl rfl rfl (eC (v := .int .i64 (share_low_2 e_1.Delivered)) (vs := [.agg #[.int .i64 e_1.Delivered.Lo,.int .i64 e_1.Delivered.Hi]]) (caps := []) en_131 rfl rfl rfl rfl (fun w hc => share_low_2_ok e_1.Delivered hc rfl)) fun a w hf hc => cNil ?_
    refine xThenN ?_
    intro ds u hau
    refine ⟨θ,he.put0 hi hau hf rfl 19 rfl rfl,?_⟩
    exact hc
   ·intro E θ a w hD hi hp he hc
    have e5 := hp.of (k := 5) rfl
    have e10 := hp.of (k := 10) rfl
    have hf := he.h0
    replace hf := hf.more he 14 rfl (onP e5)
    replace hf := hf.more he 19 rfl (onP e10)
    refine stP hf rfl rfl rfl (pBuildS (cells := [.int .i64 (share_low_1 e_1.Index),.int .i64 (share_low_2 e_1.Delivered)]) bt_97 rfl rfl) fun a hf => cNil ?_
    refine xThenN ?_
    intro ds u hau
    refine ⟨θ,he.put0 hi hau hf rfl 20 rfl rfl,?_⟩
    exact hc
   ·intro E θ a w hD hi hp he hc
    have hf := he.h0
    replace hf := hf.more he 5 rfl onT
    refine stP hf rfl rfl rfl (pFA fa_94_2 rfl) fun a hf => cNil ?_
    refine xThenN ?_
    intro ds u hau
    refine ⟨θ,he.put0 hi hau hf rfl 21 rfl rfl,?_⟩
    exact hc
   ·intro E θ a w hD hi hp he hc
    have e12 := hp.of (k := 12) rfl
    have hf := he.h0
    replace hf := hf.more he 21 rfl (onP e12)
    refine stE hf hc rfl rfl rfl (eLd1 sc_4 rfl (cell_box m0 rfl)) fun a w hf hc => cNil ?_
    refine xThenN ?_
    intro ds u hau
    refine ⟨θ,he.put0 hi hau hf rfl 22 rfl rfl,?_⟩
    exact hc
   ·intro E θ a w hD hi hp he hc
    have e0 := hp.of (k := 0) rfl
    have e11 := hp.of (k := 11) rfl
    have e13 := hp.of (k := 13) rfl
    try dsimp only at hc
    rw [hi] at hc
    have hf := he.h0
    replace hf := hf.more he 9 rfl (onP e0)
    replace hf := hf.more he 20 rfl (onP e11)
    replace hf := hf.more he 22 rfl (onP e13)
    refine stC (vs := [.agg #[.int .i64 (share_low_1 e_1.Index),.int .i64 (share_low_2 e_1.Delivered)],.bool e_1.Spill]) (caps := [.pointer (some ⟨b_11,0,none⟩),.pointer (some ⟨b_12,0,none⟩),.pointer (some ⟨b_13,0,none⟩)]) hf rfl rfl rfl en_129 rfl rfl rfl rfl (share_Border_goes_1_ok (⟨(share_low_1 e_1.Index),(share_low_2 e_1.Delivered)⟩ : share_Truth) e_1.Spill mp_1 (⟨b_.Table,r_1.2.1⟩ : share_Border) x_1 h_b__Table ((((hc.pick k8).pick k9).pick k11).pick k11) hr_3) ?_
    rintro _ w ⟨rfl,hc⟩
    refine ⟨_,rfl,fun a hf => ?_⟩
    refine cNil ?_
    refine xThenN ?_
    intro ds u hau
    replace hc := hc.pick k1
    replace hc := hc.pick k1
    replace hc := hc.pick k2
    replace hc := hc.pick k3
    replace hc := hc.pick k11
    replace hc := hc.pick k11
    replace hc := hc.pick k11
    replace hc := hc.pick k11
    replace hc := hc.pick k11
    replace hc := hc.pick k11
    replace hc := hc.pick k11
    replace hc := hc.pick k11
    refine ⟨θ,he.put0 hi hau hf rfl 23 rfl rfl,?_⟩
    try dsimp only
    rw [updE_self E 14]
    exact hc
   ·intro E θ a w hD hi hp he hc
    have e14 := hp.of (k := 14) rfl
    have hf := he.h0
    replace hf := hf.more he 23 rfl (onP e14)
    refine stP hf rfl rfl rfl (pA rfl) fun a hf => cNil ?_
    refine xThenN ?_
    intro ds u hau
    refine ⟨θ,he.put0 hi hau hf rfl 24 rfl rfl,?_⟩
    exact hc
   ·intro E θ a w hall he hc
    have hf := he.h0
    have e14 := hall 14 rfl
    have e15 := hall 15 rfl
    replace hf := hf.more he 24 rfl (onP e15)
    replace hf := hf.more he 8 rfl (onT)
    replace hf := hf.more he 7 rfl (onT)
    replace hf := hf.more he 6 rfl (onT)
    replace hf := hf.more he 5 rfl (onT)
    replace hf := hf.more he 4 rfl (onT)
    replace hf := hf.more he 3 rfl (onT)
    replace hf := hf.more he 2 rfl (onT)
    replace hf := hf.more he 1 rfl (onT)
    replace hf := hf.more he 0 rfl (onT)
    try dsimp only at hc
    rw [e14] at hc
    exact ⟨hf.keep ⟨rfl,rfl,rfl,rfl,rfl,rfl,rfl,rfl,rfl,rfl,trivial⟩,hc⟩
   rintro a w ⟨hf,hc⟩
   refine h17 _ _ ?_
   refine wp_seq_k fun K18 h18 => ?_
   obtain ⟨r_4,hr_4,hF⟩ := bnd_some hF
   refine regionE (fun θ => [⟨none,none,9,.slice p_1 out.length c_1⟩,⟨none,none,10,.func (.func 129) #[] #[.pointer (some ⟨b_11,0,none⟩),.pointer (some ⟨b_12,0,none⟩),.pointer (some ⟨b_13,0,none⟩)]⟩,⟨none,none,11,.func (.func 129) #[] #[.pointer (some ⟨b_14,0,none⟩),.pointer (some ⟨b_15,0,none⟩),.pointer (some ⟨b_16,0,none⟩)]⟩,⟨none,none,12,.pointer (some ⟨b_19,0,none⟩)⟩,⟨none,none,13,.pointer (some ⟨b_20,0,none⟩)⟩,⟨none,none,15,.pointer (some ⟨b_22,0,none⟩)⟩,⟨none,none,16,.int .i64 r_3.1⟩,⟨none,none,35,.slice years_p years.length years_c⟩,⟨none,none,36,.int .i64 ((years.length : Nat) : Int)⟩,⟨none,none,37,.int .i64 x⟩,⟨some 0,none,56,.func (.func 129) #[] #[.pointer (some ⟨b_14,0,none⟩),.pointer (some ⟨b_15,0,none⟩),.pointer (some ⟨b_16,0,none⟩)]⟩,⟨some 1,none,57,.pointer (some ⟨b_20,0,none⟩)⟩,⟨some 2,none,58,.func (.func 132) #[] #[]⟩,⟨some 3,none,59,.pointer (some ⟨b_22,0,none⟩)⟩,⟨some 4,none,60,.agg #[.int .i64 e_1.Index.Lo,.int .i64 e_1.Index.Hi]⟩,⟨some 5,none,61,.int .i64 (share_high_1 e_1.Index)⟩,⟨some 6,none,62,.pointer (some ⟨b_20,1,none⟩)⟩,⟨some 7,none,63,.func (.func 133) #[] #[]⟩,⟨some 8,none,64,.pointer (some ⟨b_22,2,none⟩)⟩,⟨some 9,none,65,.agg #[.int .i64 e_1.Delivered.Lo,.int .i64 e_1.Delivered.Hi]⟩,⟨some 10,none,66,.int .i64 (share_high_2 e_1.Delivered)⟩,⟨some 11,none,67,.agg #[.int .i64 (share_high_1 e_1.Index),.int .i64 (share_high_2 e_1.Delivered)]⟩,⟨some 12,none,68,.pointer (some ⟨b_22,4,none⟩)⟩,⟨some 13,none,69,.bool e_1.Spill⟩,⟨some 14,none,70,.int .i64 r_4.1⟩,⟨some 15,none,17,.int .i64 r_4.1⟩]) (fun E θ => .box b_22 [.int .i64 e_1.Index.Lo,.int .i64 e_1.Index.Hi,.int .i64 e_1.Delivered.Lo,.int .i64 e_1.Delivered.Hi,.bool e_1.Spill] 94::.row p_1 c_1 (out.map enc_api_Span) 26 2::.box b_20 [.func (.func 132) #[] #[],.func (.func 133) #[] #[]] 192::.box b_19 [.func (.func 130) #[] #[],.func (.func 131) #[] #[]] 192::(bif E 14 then .box b_16 [.int .i64 r_4.2.2] 3 else .box b_16 [.int .i64 x_2] 3)::.box b_15 [.slice b__Table_p b_.Table.length b__Table_c,.int .i64 r_2.2.1] 88::.box b_14 [.map (some b_17)] 213::(bif E 14 then .im b_17 (fun j => (r_4.2.1 j).map (Value.int .i64)) none else .im b_17 (fun j => (mp j).map (Value.int .i64)) none)::.box b_13 [.int .i64 r_3.2.2] 3::.box b_12 [.slice b__Table_p b_.Table.length b__Table_c,.int .i64 r_1.2.1] 88::.box b_11 [.map (some b_18)] 213::.im b_18 (fun j => (r_3.2.1 j).map (Value.int .i64)) none::Lf) [] (fun a w => Has 79 a [(9,.slice p_1 out.length c_1),(10,.func (.func 129) #[] #[.pointer (some ⟨b_11,0,none⟩),.pointer (some ⟨b_12,0,none⟩),.pointer (some ⟨b_13,0,none⟩)]),(11,.func (.func 129) #[] #[.pointer (some ⟨b_14,0,none⟩),.pointer (some ⟨b_15,0,none⟩),.pointer (some ⟨b_16,0,none⟩)]),(12,.pointer (some ⟨b_19,0,none⟩)),(13,.pointer (some ⟨b_20,0,none⟩)),(16,.int .i64 r_3.1),(35,.slice years_p years.length years_c),(36,.int .i64 ((years.length : Nat) : Int)),(37,.int .i64 x),(17,.int .i64 r_4.1)] ∧ Ctx G (.box b_22 [.int .i64 e_1.Index.Lo,.int .i64 e_1.Index.Hi,.int .i64 e_1.Delivered.Lo,.int .i64 e_1.Delivered.Hi,.bool e_1.Spill] 94::.row p_1 c_1 (out.map enc_api_Span) 26 2::.box b_20 [.func (.func 132) #[] #[],.func (.func 133) #[] #[]] 192::.box b_19 [.func (.func 130) #[] #[],.func (.func 131) #[] #[]] 192::.box b_16 [.int .i64 r_4.2.2] 3::.box b_15 [.slice b__Table_p b_.Table.length b__Table_c,.int .i64 r_2.2.1] 88::.box b_14 [.map (some b_17)] 213::.im b_17 (fun j => (r_4.2.1 j).map (Value.int .i64)) none::.box b_13 [.int .i64 r_3.2.2] 3::.box b_12 [.slice b__Table_p b_.Table.length b__Table_c,.int .i64 r_1.2.1] 88::.box b_11 [.map (some b_18)] 213::.im b_18 (fun j => (r_3.2.1 j).map (Value.int .i64)) none::Lf) w) follows_mx (by kernel_rfl) (by kernel_rfl) (HasE.of hf ⟨rfl,rfl,rfl,rfl,rfl,rfl,rfl,rfl,rfl,rfl,trivial,trivial,trivial,trivial,trivial,trivial,trivial,trivial,trivial,trivial,trivial,trivial,trivial,trivial,trivial,trivial,trivial⟩) hc ⟨?_,?_,?_,?_,?_,?_,?_,?_,?_,?_,?_,?_,?_,?_,?_,?_,trivial⟩ ?_ ?_
   ·intro E θ a w hD hi hp he hc
    have hf := he.h0
    replace hf := hf.more he 2 rfl onT
    refine stP hf rfl rfl rfl (pM rfl) fun a hf => cNil ?_
    refine xThenN ?_
    intro ds u hau
    refine ⟨θ,he.put0 hi hau hf rfl 10 rfl rfl,?_⟩
    exact hc
   ·intro E θ a w hD hi hp he hc
    have hf := he.h0
    replace hf := hf.more he 4 rfl onT
    refine stP hf rfl rfl rfl (pFA fa_192_0 rfl) fun a hf => cNil ?_
    refine xThenN ?_
    intro ds u hau
    refine ⟨θ,he.put0 hi hau hf rfl 11 rfl rfl,?_⟩
    exact hc
   ·intro E θ a w hD hi hp he hc
    have e1 := hp.of (k := 1) rfl
    have hf := he.h0
    replace hf := hf.more he 11 rfl (onP e1)
    refine stE hf hc rfl rfl rfl (eLd1 sc_190 rfl (cell_box m2 rfl)) fun a w hf hc => cNil ?_
    refine xThenN ?_
    intro ds u hau
    refine ⟨θ,he.put0 hi hau hf rfl 12 rfl rfl,?_⟩
    exact hc
   ·intro E θ a w hD hi hp he hc
    have hf := he.h0
    replace hf := hf.more he 5 rfl onT
    refine stP hf rfl rfl rfl (pFA fa_94_0 rfl) fun a hf => cNil ?_
    refine xThenN ?_
    intro ds u hau
    refine ⟨θ,he.put0 hi hau hf rfl 13 rfl rfl,?_⟩
    exact hc
   ·intro E θ a w hD hi hp he hc
    have e3 := hp.of (k := 3) rfl
    have hf := he.h0
    replace hf := hf.more he 13 rfl (onP e3)
    refine stE hf hc rfl rfl rfl (eLdN (vs := [.int .i64 e_1.Index.Lo,.int .i64 e_1.Index.Hi]) ag_26 rfl rfl (cells_box (n := 2) m0 rfl)) fun a w hf hc => cNil ?_
    refine xThenN ?_
    intro ds u hau
    refine ⟨θ,he.put0 hi hau hf rfl 14 rfl rfl,?_⟩
    exact hc
   ·intro E θ a w hD hi hp he hc
    have e2 := hp.of (k := 2) rfl
    have e4 := hp.of (k := 4) rfl
    have hf := he.h0
    replace hf := hf.more he 12 rfl (onP e2)
    replace hf := hf.more he 14 rfl (onP e4)
    refine stE hf hc rfl rfl rfl (eC (v := .int .i64 (share_high_1 e_1.Index)) (vs := [.agg #[.int .i64 e_1.Index.Lo,.int .i64 e_1.Index.Hi]]) (caps := []) en_132 rfl rfl rfl rfl (fun w hc => share_high_1_ok e_1.Index hc rfl)) fun a w hf hc => cNil ?_
    refine xThenN ?_
    intro ds u hau
    refine ⟨θ,he.put0 hi hau hf rfl 15 rfl rfl,?_⟩
    exact hc
   ·intro E θ a w hD hi hp he hc
    have hf := he.h0
    replace hf := hf.more he 4 rfl onT
    refine stP hf rfl rfl rfl (pFA fa_192_1 rfl) fun a hf => cNil ?_
    refine xThenN ?_
    intro ds u hau
    refine ⟨θ,he.put0 hi hau hf rfl 16 rfl rfl,?_⟩
    exact hc
   ·intro E θ a w hD hi hp he hc
    have e6 := hp.of (k := 6) rfl
    have hf := he.h0
    replace hf := hf.more he 16 rfl (onP e6)
    refine stE hf hc rfl rfl rfl (eLd1 sc_190 rfl (cell_box m2 rfl)) fun a w hf hc => cNil ?_
    refine xThenN ?_
    intro ds u hau
    refine ⟨θ,he.put0 hi hau hf rfl 17 rfl rfl,?_⟩
    exact hc
   ·intro E θ a w hD hi hp he hc
    have hf := he.h0
    replace hf := hf.more he 5 rfl onT
    refine stP hf rfl rfl rfl (pFA fa_94_1 rfl) fun a hf => cNil ?_
    refine xThenN ?_
    intro ds u hau
    refine ⟨θ,he.put0 hi hau hf rfl 18 rfl rfl,?_⟩
    exact hc
   ·intro E θ a w hD hi hp he hc
    have e8 := hp.of (k := 8) rfl
    have hf := he.h0
    replace hf := hf.more he 18 rfl (onP e8)
    refine stE hf hc rfl rfl rfl (eLdN (vs := [.int .i64 e_1.Delivered.Lo,.int .i64 e_1.Delivered.Hi]) ag_26 rfl rfl (cells_box (n := 2) m0 rfl)) fun a w hf hc => cNil ?_
    refine xThenN ?_
    intro ds u hau
    refine ⟨θ,he.put0 hi hau hf rfl 19 rfl rfl,?_⟩
    exact hc
   ·intro E θ a w hD hi hp he hc
    have e7 := hp.of (k := 7) rfl
    have e9 := hp.of (k := 9) rfl
    have hf := he.h0
    replace hf := hf.more he 17 rfl (onP e7)
    replace hf := hf.more he 19 rfl (onP e9)
    refine stE hf hc rfl rfl rfl (eC (v := .int .i64 (share_high_2 e_1.Delivered)) (vs := [.agg #[.int .i64 e_1.Delivered.Lo,.int .i64 e_1.Delivered.Hi]]) (caps := []) en_133 rfl rfl rfl rfl (fun w hc => share_high_2_ok e_1.Delivered hc rfl)) fun a w hf hc => cNil ?_
    refine xThenN ?_
    intro ds u hau
    refine ⟨θ,he.put0 hi hau hf rfl 20 rfl rfl,?_⟩
    exact hc
   ·intro E θ a w hD hi hp he hc
    have e5 := hp.of (k := 5) rfl
    have e10 := hp.of (k := 10) rfl
    have hf := he.h0
    replace hf := hf.more he 15 rfl (onP e5)
    replace hf := hf.more he 20 rfl (onP e10)
    refine stP hf rfl rfl rfl (pBuildS (cells := [.int .i64 (share_high_1 e_1.Index),.int .i64 (share_high_2 e_1.Delivered)]) bt_97 rfl rfl) fun a hf => cNil ?_
    refine xThenN ?_
    intro ds u hau
    refine ⟨θ,he.put0 hi hau hf rfl 21 rfl rfl,?_⟩
    exact hc
   ·intro E θ a w hD hi hp he hc
    have hf := he.h0
    replace hf := hf.more he 5 rfl onT
    refine stP hf rfl rfl rfl (pFA fa_94_2 rfl) fun a hf => cNil ?_
    refine xThenN ?_
    intro ds u hau
    refine ⟨θ,he.put0 hi hau hf rfl 22 rfl rfl,?_⟩
    exact hc
   ·intro E θ a w hD hi hp he hc
    have e12 := hp.of (k := 12) rfl
    have hf := he.h0
    replace hf := hf.more he 22 rfl (onP e12)
    refine stE hf hc rfl rfl rfl (eLd1 sc_4 rfl (cell_box m0 rfl)) fun a w hf hc => cNil ?_
    refine xThenN ?_
    intro ds u hau
    refine ⟨θ,he.put0 hi hau hf rfl 23 rfl rfl,?_⟩
    exact hc
   ·intro E θ a w hD hi hp he hc
    have e0 := hp.of (k := 0) rfl
    have e11 := hp.of (k := 11) rfl
    have e13 := hp.of (k := 13) rfl
    try dsimp only at hc
    rw [hi] at hc
    have hf := he.h0
    replace hf := hf.more he 10 rfl (onP e0)
    replace hf := hf.more he 21 rfl (onP e11)
    replace hf := hf.more he 23 rfl (onP e13)
    refine stC (vs := [.agg #[.int .i64 (share_high_1 e_1.Index),.int .i64 (share_high_2 e_1.Delivered)],.bool e_1.Spill]) (caps := [.pointer (some ⟨b_14,0,none⟩),.pointer (some ⟨b_15,0,none⟩),.pointer (some ⟨b_16,0,none⟩)]) hf rfl rfl rfl en_129 rfl rfl rfl rfl (share_Border_goes_1_ok (⟨(share_high_1 e_1.Index),(share_high_2 e_1.Delivered)⟩ : share_Truth) e_1.Spill mp (⟨b_.Table,r_2.2.1⟩ : share_Border) x_2 h_b__Table ((((hc.pick k4).pick k5).pick k7).pick k7) hr_4) ?_
    rintro _ w ⟨rfl,hc⟩
    refine ⟨_,rfl,fun a hf => ?_⟩
    refine cNil ?_
    refine xThenN ?_
    intro ds u hau
    replace hc := hc.pick k1
    replace hc := hc.pick k1
    replace hc := hc.pick k2
    replace hc := hc.pick k3
    replace hc := hc.pick k7
    replace hc := hc.pick k7
    replace hc := hc.pick k7
    replace hc := hc.pick k7
    refine ⟨θ,he.put0 hi hau hf rfl 24 rfl rfl,?_⟩
    try dsimp only
    rw [updE_self E 14]
    exact hc
   ·intro E θ a w hD hi hp he hc
    have e14 := hp.of (k := 14) rfl
    have hf := he.h0
    replace hf := hf.more he 24 rfl (onP e14)
    refine stP hf rfl rfl rfl (pA rfl) fun a hf => cNil ?_
    refine xThenN ?_
    intro ds u hau
    refine ⟨θ,he.put0 hi hau hf rfl 25 rfl rfl,?_⟩
    exact hc
   ·intro E θ a w hall he hc
    have hf := he.h0
    have e14 := hall 14 rfl
    have e15 := hall 15 rfl
    replace hf := hf.more he 25 rfl (onP e15)
    replace hf := hf.more he 9 rfl (onT)
    replace hf := hf.more he 8 rfl (onT)
    replace hf := hf.more he 7 rfl (onT)
    replace hf := hf.more he 6 rfl (onT)
    replace hf := hf.more he 4 rfl (onT)
    replace hf := hf.more he 3 rfl (onT)
    replace hf := hf.more he 2 rfl (onT)
    replace hf := hf.more he 1 rfl (onT)
    replace hf := hf.more he 0 rfl (onT)
    try dsimp only at hc
    rw [e14] at hc
    exact ⟨hf.keep ⟨rfl,rfl,rfl,rfl,rfl,rfl,rfl,rfl,rfl,rfl,trivial⟩,hc⟩
   rintro a w ⟨hf,hc⟩
   replace hc := hc.drop k0
   refine h18 _ _ ?_
   refine cReg ?_
   refine stP hf rfl rfl rfl (pM rfl) fun a hf => stP hf rfl rfl rfl (pM rfl) fun a hf => stP hf rfl rfl rfl (pM rfl) fun a hf => stP hf rfl rfl rfl (pBuildS (cells := [.int .i64 r_3.1,.int .i64 r_4.1]) bt_26 rfl rfl) fun a hf => stBS (rows := ([(⟨r_3.1,r_4.1⟩ : api_Span)] : List api_Span).map enc_api_Span) (vs := [(0,.agg #[.int .i64 r_3.1,.int .i64 r_4.1])]) hf hc rfl rfl sl_41 rfl ⟨rfl,rfl,rfl,trivial⟩ rfl rfl fun b_23 a w hf hc => ?_
   obtain ⟨un,hun,hF⟩ := bnd_some hF
   refine stApm (xs := out) (ys := ([(⟨r_3.1,r_4.1⟩ : api_Span)] : List api_Span)) hf hc rfl rfl sl_41 rfl rfl rfl rfl rfl one_enc_api_Span (src_row hc m0) (fun _ _ => u1) (by simpa using room_spec hun) fun p_2 c_2 a w hf hc => stP hf rfl rfl rfl (pA rfl) fun a hf => cNil ?_
   replace hc := hc.drop k0
   refine h15 _ _ ?_
   refine cReg ?_
   refine stP hf rfl rfl rfl (pAdd rfl rfl) fun a hf => stP hf rfl rfl rfl (pM rfl) fun a hf => cNil ?_
   exact hK11 ((out ++ [(⟨r_3.1,r_4.1⟩ : api_Span)]),W (x + 1),r_3.2.2,r_4.2.2,r_4.2.1,r_3.2.1) _ _ (Option.some.inj hF).symm ⟨p_2,c_2,hf.keep ⟨rfl,rfl,rfl,rfl,rfl,rfl,rfl,rfl,trivial⟩,hc⟩
  ·replace hF := condF hb hF
   clear hb
   refine wp_exit ?_
   refine xThen ?_
   refine xThen ?_
   have he := Option.some.inj hF
   rw [← he] at hfin11
   refine cHit ?_
   exact hr11 _ _ _ hfin11 ⟨p_1,c_1,hf.keep ⟨rfl,rfl,rfl,rfl,rfl,rfl,rfl,rfl,trivial⟩,hc⟩

def kit_Same_int_b7 (N : Nat) (a_ : List Int) (b_ : List Int) (i_1 : Int) : Option (Step (Int) (Bool)) :=
 cond (decide (i_1 < ((a_.length : Nat) : Int)))
 (Option.bind (getI a_ i_1) fun e_1 =>
 Option.bind (getI b_ i_1) fun e_2 =>
 cond (e_1 != e_2)
 (some (.ret false))
 (some (.cont (W (i_1 + 1)))))
 (some (.brk i_1))
def kit_Same_int (N : Nat) (a_ : List Int) (b_ : List Int) : Option (Bool) :=
 cond (((a_.length : Nat) : Int) != ((b_.length : Nat) : Int))
 (some false)
 (Option.bind (loopO (fun s7 => kit_Same_int_b7 N a_ b_ s7) N 0) fun x7 =>
 exK x7 (fun s7 => some true) some)
theorem kit_Same_int_ok {N : Nat} {G : Pers} {Lf : List Ent} {w : World} (a_ : List Int) (b_ : List Int) {a__p : Option Addr} {a__c : Nat} {b__p : Option Addr} {b__c : Nat} (h_a_ : Rd G 1 a__p a__c (a_.map encI_i64)) (h_b_ : Rd G 1 b__p b__c (b_.map encI_i64)) (hc : Ctx G (Lf) w) {res : Bool} (hF : kit_Same_int N a_ b_ = some res) : Calls Try.prog 20 #[.slice a__p a_.length a__c,.slice b__p b_.length b__c] w (fun e w => e = .returned (.bool res) ∧ Ctx G (Lf) w) := by
 unfold kit_Same_int at hF
 refine fnIn (args := [.slice a__p a_.length a__c,.slice b__p b_.length b__c]) Try.func20 rfl Try.ntmps20 rfl fun a hf => wp_seq_k fun K1 h1 => cReg ?_
 refine stP hf rfl rfl rfl (pA rfl) fun a hf => cNil ?_
 refine h1 _ _ ?_
 refine wp_seq_k fun K2 h2 => wp_seq_k fun K3 h3 => cReg ?_
 refine stP hf rfl rfl rfl (pM rfl) fun a hf => stP hf rfl rfl rfl (pLenS Try.underlying36 rfl) fun a hf => stP hf rfl rfl rfl (pM rfl) fun a hf => stP hf rfl rfl rfl (pLenS Try.underlying36 rfl) fun a hf => stP hf rfl rfl rfl (pNe rfl rfl) fun a hf => cNil ?_
 refine h3 _ _ ?_
 refine cCond (b := (((a_.length : Nat) : Int) != ((b_.length : Nat) : Int))) hf rfl (fun hb => ?_) (fun hb => ?_)
 ·replace hF := condT hb hF
  clear hb
  refine wp_seq_k fun K4 h4 => cReg ?_
  refine stP hf rfl rfl rfl (pA rfl) fun a hf => cNil ?_
  refine h4 _ _ ?_
  refine wp_ret ?_
  refine xThenR ?_
  obtain rfl := Option.some.inj hF
  exact fnOut1 (by simp) rfl Try.results20 hf hc (show look _ 4 = _ from rfl) ⟨rfl,hc⟩
 ·replace hF := condF hb hF
  clear hb
  refine wp_skip ?_
  refine h2 _ _ ?_
  refine wp_seq_k fun K5 h5 => wp_seq_k fun K6 h6 => cReg ?_
  refine stP hf rfl rfl rfl (pA rfl) fun a hf => cNil ?_
  refine h6 _ _ ?_
  refine wp_block ?_
  obtain ⟨x7,hx7,hF⟩ := bnd_some hF
  let S7 : Int → Act → World → Prop := (fun (zz : Int) a w => Has 26 a [(0,.slice a__p a_.length a__c),(1,.slice b__p b_.length b__c),(5,.int .i64 zz)] ∧ Ctx G (Lf) w)
  have hr7 : ∀ (zz : Int) a w,x7 = .go zz → S7 zz a w → K5 a w := by
   rintro i_1 a w rfl ⟨hf,hc⟩
   replace hF := exK_go hF
   refine h5 _ _ ?_
   refine wp_seq_k fun K8 h8 => cReg ?_
   refine stP hf rfl rfl rfl (pA rfl) fun a hf => cNil ?_
   refine h8 _ _ ?_
   refine wp_ret ?_
   obtain rfl := Option.some.inj hF
   exact fnOut1 (by simp) rfl Try.results20 hf hc (show look _ 4 = _ from rfl) ⟨rfl,hc⟩
  have ho7 : ∀ r,x7 = .out r → r = res := by
   rintro r rfl
   exact Option.some.inj hF
  refine cLoop N (loopW (S := S7) (x := x7) ?_ N 0 _ _ ⟨hf.keep ⟨rfl,rfl,rfl,trivial⟩,hc⟩ hx7)
  clear hF hf hc
  rintro i_1 st7 a w KB7 ⟨hf,hc⟩ hF hfin7 hK7
  unfold kit_Same_int_b7 at hF
  refine wp_seq_k fun K9 h9 => wp_seq_k fun K10 h10 => cReg ?_
  refine stP hf rfl rfl rfl (pM rfl) fun a hf => stP hf rfl rfl rfl (pM rfl) fun a hf => stP hf rfl rfl rfl (pLenS Try.underlying36 rfl) fun a hf => stP hf rfl rfl rfl (pLt rfl rfl) fun a hf => cNil ?_
  refine h10 _ _ ?_
  refine cCond (b := (decide (i_1 < ((a_.length : Nat) : Int)))) hf rfl (fun hb => ?_) (fun hb => ?_)
  ·replace hF := condT hb hF
   clear hb
   refine wp_skip ?_
   refine h9 _ _ ?_
   refine wp_seq_k fun K11 h11 => wp_block ?_
   refine wp_seq_k fun K12 h12 => ?_
   obtain ⟨e_1,he_1,hF⟩ := bnd_some hF
   obtain ⟨b_1,o,qa,qp⟩ := h_a_.atm he_1
   obtain ⟨e_2,he_2,hF⟩ := bnd_some hF
   obtain ⟨b_2,o_1,qa_1,qp_1⟩ := h_b_.atm he_2
   refine cQ hc follows_mx (by kernel_rfl) ?_
   refine qE hf rfl rfl rfl (Pu.ev (pM rfl)) fun a hf => qE hf rfl rfl rfl (Pu.ev (pM rfl)) fun a hf => qE hf rfl rfl rfl (Pu.ev (pIA Try.underlying36 sz_3 rfl rfl qa)) fun a hf => qE hf rfl rfl rfl (eLd1 sc_3 rfl (cell_pc (j := 0) qp rfl)) fun a hf => qE hf rfl rfl rfl (Pu.ev (pM rfl)) fun a hf => qE hf rfl rfl rfl (Pu.ev (pM rfl)) fun a hf => qE hf rfl rfl rfl (Pu.ev (pIA Try.underlying36 sz_3 rfl rfl qa_1)) fun a hf => qE hf rfl rfl rfl (eLd1 sc_3 rfl (cell_pc (j := 0) qp_1 rfl)) fun a hf => qE hf rfl rfl rfl (Pu.ev (pNe rfl rfl)) fun a hf => ?_
   intro w hc
   refine h12 _ _ ?_
   refine cCond (b := (e_1 != e_2)) hf rfl (fun hb => ?_) (fun hb => ?_)
   ·replace hF := condT hb hF
    clear hb
    refine wp_seq_k fun K13 h13 => cReg ?_
    refine stP hf rfl rfl rfl (pA rfl) fun a hf => cNil ?_
    refine h13 _ _ ?_
    refine wp_ret ?_
    refine xBlkR ?_
    refine xThenR ?_
    refine xThenR ?_
    have he := Option.some.inj hF
    rw [← he] at hfin7
    replace hF := ho7 _ hfin7
    refine xBlkR ?_
    refine xThenR ?_
    obtain rfl := hF
    exact fnOut1 (by simp) rfl Try.results20 hf hc (show look _ 4 = _ from rfl) ⟨rfl,hc⟩
   ·replace hF := condF hb hF
    clear hb
    refine wp_skip ?_
    refine h11 _ _ ?_
    refine cReg ?_
    refine stP hf rfl rfl rfl (pM rfl) fun a hf => stP hf rfl rfl rfl (pAdd rfl rfl) fun a hf => stP hf rfl rfl rfl (pA rfl) fun a hf => cNil ?_
    exact hK7 (W (i_1 + 1)) _ _ (Option.some.inj hF).symm ⟨hf.keep ⟨rfl,rfl,rfl,trivial⟩,hc⟩
  ·replace hF := condF hb hF
   clear hb
   refine wp_exit ?_
   refine xThen ?_
   refine xThen ?_
   have he := Option.some.inj hF
   rw [← he] at hfin7
   refine cHit ?_
   exact hr7 _ _ _ hfin7 ⟨hf.keep ⟨rfl,rfl,rfl,trivial⟩,hc⟩

def kit_Same_api_Span_b7 (N : Nat) (a_ : List api_Span) (b_ : List api_Span) (i_1 : Int) : Option (Step (Int) (Bool)) :=
 cond (decide (i_1 < ((a_.length : Nat) : Int)))
 (Option.bind (getI a_ i_1) fun e_1 =>
 Option.bind (getI b_ i_1) fun e_2 =>
 cond (!(e_1.Lo == e_2.Lo && e_1.Hi == e_2.Hi))
 (some (.ret false))
 (some (.cont (W (i_1 + 1)))))
 (some (.brk i_1))
def kit_Same_api_Span (N : Nat) (a_ : List api_Span) (b_ : List api_Span) : Option (Bool) :=
 cond (((a_.length : Nat) : Int) != ((b_.length : Nat) : Int))
 (some false)
 (Option.bind (loopO (fun s7 => kit_Same_api_Span_b7 N a_ b_ s7) N 0) fun x7 =>
 exK x7 (fun s7 => some true) some)
theorem kit_Same_api_Span_ok {N : Nat} {G : Pers} {Lf : List Ent} {w : World} (a_ : List api_Span) (b_ : List api_Span) {a__p : Option Addr} {a__c : Nat} {b__p : Option Addr} {b__c : Nat} (h_a_ : Rd G 2 a__p a__c (a_.map enc_api_Span)) (h_b_ : Rd G 2 b__p b__c (b_.map enc_api_Span)) (hc : Ctx G (Lf) w) {res : Bool} (hF : kit_Same_api_Span N a_ b_ = some res) : Calls Try.prog 23 #[.slice a__p a_.length a__c,.slice b__p b_.length b__c] w (fun e w => e = .returned (.bool res) ∧ Ctx G (Lf) w) := by
 unfold kit_Same_api_Span at hF
 refine fnIn (args := [.slice a__p a_.length a__c,.slice b__p b_.length b__c]) Try.func23 rfl Try.ntmps23 rfl fun a hf => wp_seq_k fun K1 h1 => cReg ?_
 refine stP hf rfl rfl rfl (pA rfl) fun a hf => cNil ?_
 refine h1 _ _ ?_
 refine wp_seq_k fun K2 h2 => wp_seq_k fun K3 h3 => cReg ?_
 refine stP hf rfl rfl rfl (pM rfl) fun a hf => stP hf rfl rfl rfl (pLenS Try.underlying41 rfl) fun a hf => stP hf rfl rfl rfl (pM rfl) fun a hf => stP hf rfl rfl rfl (pLenS Try.underlying41 rfl) fun a hf => stP hf rfl rfl rfl (pNe rfl rfl) fun a hf => cNil ?_
 refine h3 _ _ ?_
 refine cCond (b := (((a_.length : Nat) : Int) != ((b_.length : Nat) : Int))) hf rfl (fun hb => ?_) (fun hb => ?_)
 ·replace hF := condT hb hF
  clear hb
  refine wp_seq_k fun K4 h4 => cReg ?_
  refine stP hf rfl rfl rfl (pA rfl) fun a hf => cNil ?_
  refine h4 _ _ ?_
  refine wp_ret ?_
  refine xThenR ?_
  obtain rfl := Option.some.inj hF
  exact fnOut1 (by simp) rfl Try.results23 hf hc (show look _ 4 = _ from rfl) ⟨rfl,hc⟩
 ·replace hF := condF hb hF
  clear hb
  refine wp_skip ?_
  refine h2 _ _ ?_
  refine wp_seq_k fun K5 h5 => wp_seq_k fun K6 h6 => cReg ?_
  refine stP hf rfl rfl rfl (pA rfl) fun a hf => cNil ?_
  refine h6 _ _ ?_
  refine wp_block ?_
  obtain ⟨x7,hx7,hF⟩ := bnd_some hF
  let S7 : Int → Act → World → Prop := (fun (zz : Int) a w => Has 26 a [(0,.slice a__p a_.length a__c),(1,.slice b__p b_.length b__c),(5,.int .i64 zz)] ∧ Ctx G (Lf) w)
  have hr7 : ∀ (zz : Int) a w,x7 = .go zz → S7 zz a w → K5 a w := by
   rintro i_1 a w rfl ⟨hf,hc⟩
   replace hF := exK_go hF
   refine h5 _ _ ?_
   refine wp_seq_k fun K8 h8 => cReg ?_
   refine stP hf rfl rfl rfl (pA rfl) fun a hf => cNil ?_
   refine h8 _ _ ?_
   refine wp_ret ?_
   obtain rfl := Option.some.inj hF
   exact fnOut1 (by simp) rfl Try.results23 hf hc (show look _ 4 = _ from rfl) ⟨rfl,hc⟩
  have ho7 : ∀ r,x7 = .out r → r = res := by
   rintro r rfl
   exact Option.some.inj hF
  refine cLoop N (loopW (S := S7) (x := x7) ?_ N 0 _ _ ⟨hf.keep ⟨rfl,rfl,rfl,trivial⟩,hc⟩ hx7)
  clear hF hf hc
  rintro i_1 st7 a w KB7 ⟨hf,hc⟩ hF hfin7 hK7
  unfold kit_Same_api_Span_b7 at hF
  refine wp_seq_k fun K9 h9 => wp_seq_k fun K10 h10 => cReg ?_
  refine stP hf rfl rfl rfl (pM rfl) fun a hf => stP hf rfl rfl rfl (pM rfl) fun a hf => stP hf rfl rfl rfl (pLenS Try.underlying41 rfl) fun a hf => stP hf rfl rfl rfl (pLt rfl rfl) fun a hf => cNil ?_
  refine h10 _ _ ?_
  refine cCond (b := (decide (i_1 < ((a_.length : Nat) : Int)))) hf rfl (fun hb => ?_) (fun hb => ?_)
  ·replace hF := condT hb hF
   clear hb
   refine wp_skip ?_
   refine h9 _ _ ?_
   refine wp_seq_k fun K11 h11 => wp_block ?_
   refine wp_seq_k fun K12 h12 => ?_
   obtain ⟨e_1,he_1,hF⟩ := bnd_some hF
   obtain ⟨b_1,o,qa,qp⟩ := h_a_.atm he_1
   obtain ⟨e_2,he_2,hF⟩ := bnd_some hF
   obtain ⟨b_2,o_1,qa_1,qp_1⟩ := h_b_.atm he_2
   refine cQ hc follows_mx (by kernel_rfl) ?_
   refine qE hf rfl rfl rfl (Pu.ev (pM rfl)) fun a hf => qE hf rfl rfl rfl (Pu.ev (pM rfl)) fun a hf => qE hf rfl rfl rfl (Pu.ev (pIA Try.underlying41 sz_26 rfl rfl qa)) fun a hf => qE hf rfl rfl rfl (eLdN (vs := [.int .i64 e_1.Lo,.int .i64 e_1.Hi]) ag_26 rfl rfl (cells_pc qp (n := 2) (o' := 0) rfl)) fun a hf => qE hf rfl rfl rfl (Pu.ev (pM rfl)) fun a hf => qE hf rfl rfl rfl (Pu.ev (pM rfl)) fun a hf => qE hf rfl rfl rfl (Pu.ev (pIA Try.underlying41 sz_26 rfl rfl qa_1)) fun a hf => qE hf rfl rfl rfl (eLdN (vs := [.int .i64 e_2.Lo,.int .i64 e_2.Hi]) ag_26 rfl rfl (cells_pc qp_1 (n := 2) (o' := 0) rfl)) fun a hf => qE hf rfl rfl rfl (Pu.ev (pNeA ge_26 rfl rfl (eqs_26 _ _ _ _))) fun a hf => ?_
   intro w hc
   refine h12 _ _ ?_
   refine cCond (b := (!(e_1.Lo == e_2.Lo && e_1.Hi == e_2.Hi))) hf rfl (fun hb => ?_) (fun hb => ?_)
   ·replace hF := condT hb hF
    clear hb
    refine wp_seq_k fun K13 h13 => cReg ?_
    refine stP hf rfl rfl rfl (pA rfl) fun a hf => cNil ?_
    refine h13 _ _ ?_
    refine wp_ret ?_
    refine xBlkR ?_
    refine xThenR ?_
    refine xThenR ?_
    have he := Option.some.inj hF
    rw [← he] at hfin7
    replace hF := ho7 _ hfin7
    refine xBlkR ?_
    refine xThenR ?_
    obtain rfl := hF
    exact fnOut1 (by simp) rfl Try.results23 hf hc (show look _ 4 = _ from rfl) ⟨rfl,hc⟩
   ·replace hF := condF hb hF
    clear hb
    refine wp_skip ?_
    refine h11 _ _ ?_
    refine cReg ?_
    refine stP hf rfl rfl rfl (pM rfl) fun a hf => stP hf rfl rfl rfl (pAdd rfl rfl) fun a hf => stP hf rfl rfl rfl (pA rfl) fun a hf => cNil ?_
    exact hK7 (W (i_1 + 1)) _ _ (Option.some.inj hF).symm ⟨hf.keep ⟨rfl,rfl,rfl,trivial⟩,hc⟩
  ·replace hF := condF hb hF
   clear hb
   refine wp_exit ?_
   refine xThen ?_
   refine xThen ?_
   have he := Option.some.inj hF
   rw [← he] at hfin7
   refine cHit ?_
   exact hr7 _ _ _ hfin7 ⟨hf.keep ⟨rfl,rfl,rfl,trivial⟩,hc⟩

def share_every_int_1 (x : Int) : Bool :=
 (!(share_water x))
theorem share_every_int_1_ok {G : Pers} {Lf : List Ent} {w : World} (x : Int) {b_ : Nat}  (hc : Ctx G (.box b_ [.func (.func 73) #[] #[]] 146::Lf) w) {res : Bool} (hF : share_every_int_1 x = res) : Calls Try.prog 120 #[.int .i64 x,.pointer (some ⟨b_,0,none⟩)] w (fun e w => e = .returned (.bool res) ∧ Ctx G (.box b_ [.func (.func 73) #[] #[]] 146::Lf) w) := by
 unfold share_every_int_1 at hF
 refine fnIn (args := [.int .i64 x,.pointer (some ⟨b_,0,none⟩)]) Try.func120 rfl Try.ntmps120 rfl fun a hf => wp_seq_k fun K1 h1 => cReg ?_
 refine stP hf rfl rfl rfl (pA rfl) fun a hf => cNil ?_
 refine h1 _ _ ?_
 refine wp_seq_k fun K2 h2 => cReg ?_
 refine stE hf hc rfl rfl rfl (eLd1 sc_146 rfl (cell_box m0 rfl)) fun a w hf hc => stP hf rfl rfl rfl (pM rfl) fun a hf => stE hf hc rfl rfl rfl (eC (v := .bool (share_water x)) (vs := [.int .i64 x]) (caps := []) en_73 rfl rfl rfl rfl (fun w hc => share_water_ok x hc rfl)) fun a w hf hc => stP hf rfl rfl rfl (pNot rfl) fun a hf => stP hf rfl rfl rfl (pA rfl) fun a hf => cNil ?_
 refine h2 _ _ ?_
 refine wp_ret ?_
 obtain rfl := hF
 exact fnOut1 (by simp) rfl Try.results120 hf hc (show look _ 3 = _ from rfl) ⟨rfl,hc⟩

def slices_IndexFunc_Lint_int_b4 (N : Nat) (s_ : List Int) (x : Int) : Option (Step (Int) (Int)) :=
 cond (decide (x < ((s_.length : Nat) : Int)))
 (Option.bind (getI s_ x) fun e_1 =>
 cond (share_every_int_1 e_1)
 (some (.ret x))
 (some (.cont (W (x + 1)))))
 (some (.brk x))
def slices_IndexFunc_Lint_int (N : Nat) (s_ : List Int) : Option (Int) :=
 Option.bind (loopO (fun s4 => slices_IndexFunc_Lint_int_b4 N s_ s4) N 0) fun x4 =>
 exK x4 (fun s4 => some (-1)) some
theorem slices_IndexFunc_Lint_int_ok {N : Nat} {G : Pers} {Lf : List Ent} {w : World} (s_ : List Int) {s__p : Option Addr} {s__c : Nat} {b_ : Nat} (h_s_ : Rd G 1 s__p s__c (s_.map encI_i64)) (hc : Ctx G (.box b_ [.func (.func 73) #[] #[]] 146::Lf) w) {res : Int} (hF : slices_IndexFunc_Lint_int N s_ = some res) : Calls Try.prog 145 #[.slice s__p s_.length s__c,.func (.func 120) #[] #[.pointer (some ⟨b_,0,none⟩)]] w (fun e w => e = .returned (.int .i64 res) ∧ Ctx G (.box b_ [.func (.func 73) #[] #[]] 146::Lf) w) := by
 unfold slices_IndexFunc_Lint_int at hF
 refine fnIn (args := [.slice s__p s_.length s__c,.func (.func 120) #[] #[.pointer (some ⟨b_,0,none⟩)]]) Try.func145 rfl Try.ntmps145 rfl fun a hf => wp_seq_k fun K1 h1 => cReg ?_
 refine stP hf rfl rfl rfl (pA rfl) fun a hf => cNil ?_
 refine h1 _ _ ?_
 refine wp_seq_k fun K2 h2 => wp_seq_k fun K3 h3 => cReg ?_
 refine stP hf rfl rfl rfl (pM rfl) fun a hf => stP hf rfl rfl rfl (pLenS Try.underlying36 rfl) fun a hf => stP hf rfl rfl rfl (pM rfl) fun a hf => cNil ?_
 refine h3 _ _ ?_
 refine wp_block ?_
 obtain ⟨x4,hx4,hF⟩ := bnd_some hF
 let S4 : Int → Act → World → Prop := (fun (zz : Int) a w => Has 19 a [(0,.slice s__p s_.length s__c),(1,.func (.func 120) #[] #[.pointer (some ⟨b_,0,none⟩)]),(7,.int .i64 ((s_.length : Nat) : Int)),(8,.int .i64 zz)] ∧ Ctx G (.box b_ [.func (.func 73) #[] #[]] 146::Lf) w)
 have hr4 : ∀ (zz : Int) a w,x4 = .go zz → S4 zz a w → K2 a w := by
  rintro x a w rfl ⟨hf,hc⟩
  replace hF := exK_go hF
  refine h2 _ _ ?_
  refine wp_seq_k fun K5 h5 => cReg ?_
  refine stP hf rfl rfl rfl (pA rfl) fun a hf => cNil ?_
  refine h5 _ _ ?_
  refine wp_ret ?_
  obtain rfl := Option.some.inj hF
  exact fnOut1 (by simp) rfl Try.results145 hf hc (show look _ 4 = _ from rfl) ⟨rfl,hc⟩
 have ho4 : ∀ r,x4 = .out r → r = res := by
  rintro r rfl
  exact Option.some.inj hF
 refine cLoop N (loopW (S := S4) (x := x4) ?_ N 0 _ _ ⟨hf.keep ⟨rfl,rfl,rfl,rfl,trivial⟩,hc⟩ hx4)
 clear hF hf hc
 rintro x st4 a w KB4 ⟨hf,hc⟩ hF hfin4 hK4
 unfold slices_IndexFunc_Lint_int_b4 at hF
 refine wp_seq_k fun K6 h6 => cReg ?_
 refine stP hf rfl rfl rfl (pLt rfl rfl) fun a hf => cNil ?_
 refine h6 _ _ ?_
 refine wp_seq_k fun K7 h7 => cCond (b := (decide (x < ((s_.length : Nat) : Int)))) hf rfl (fun hb => ?_) (fun hb => ?_)
 ·replace hF := condT hb hF
  clear hb
  refine wp_skip ?_
  refine h7 _ _ ?_
  refine wp_seq_k fun K8 h8 => wp_block ?_
  refine wp_seq_k fun K9 h9 => cReg ?_
  refine stP hf rfl rfl rfl (pM rfl) fun a hf => stP hf rfl rfl rfl (pA rfl) fun a hf => cNil ?_
  refine h9 _ _ ?_
  refine wp_seq_k fun K10 h10 => cReg ?_
  refine stP hf rfl rfl rfl (pM rfl) fun a hf => stP hf rfl rfl rfl (pM rfl) fun a hf => stP hf rfl rfl rfl (pM rfl) fun a hf => ?_
  obtain ⟨e_1,he_1,hF⟩ := bnd_some hF
  obtain ⟨b_1,o,qa,qp⟩ := h_s_.atm he_1
  refine stP hf rfl rfl rfl (pIA Try.underlying36 sz_3 rfl rfl qa) fun a hf => stE hf hc rfl rfl rfl (eLd1 sc_3 rfl (cell_pc (j := 0) qp rfl)) fun a w hf hc => stE hf hc rfl rfl rfl (eC (v := .bool (share_every_int_1 e_1)) (vs := [.int .i64 e_1]) (caps := [.pointer (some ⟨b_,0,none⟩)]) en_120 rfl rfl rfl rfl (fun w hc => (share_every_int_1_ok e_1 (hc.pick k0) rfl).mono fun e w h => ⟨h.1,(h.2.unpick k0)⟩)) fun a w hf hc => cNil ?_
  refine h10 _ _ ?_
  refine cCond (b := (share_every_int_1 e_1)) hf rfl (fun hb => ?_) (fun hb => ?_)
  ·replace hF := condT hb hF
   clear hb
   refine wp_seq_k fun K11 h11 => cReg ?_
   refine stP hf rfl rfl rfl (pM rfl) fun a hf => stP hf rfl rfl rfl (pA rfl) fun a hf => cNil ?_
   refine h11 _ _ ?_
   refine wp_ret ?_
   refine xBlkR ?_
   refine xThenR ?_
   refine xThenR ?_
   have he := Option.some.inj hF
   rw [← he] at hfin4
   replace hF := ho4 _ hfin4
   refine xBlkR ?_
   refine xThenR ?_
   obtain rfl := hF
   exact fnOut1 (by simp) rfl Try.results145 hf hc (show look _ 4 = _ from rfl) ⟨rfl,hc⟩
  ·replace hF := condF hb hF
   clear hb
   refine wp_skip ?_
   refine h8 _ _ ?_
   refine cReg ?_
   refine stP hf rfl rfl rfl (pAdd rfl rfl) fun a hf => stP hf rfl rfl rfl (pM rfl) fun a hf => cNil ?_
   exact hK4 (W (x + 1)) _ _ (Option.some.inj hF).symm ⟨hf.keep ⟨rfl,rfl,rfl,rfl,trivial⟩,hc⟩
 ·replace hF := condF hb hF
  clear hb
  refine wp_exit ?_
  refine xThen ?_
  refine xThen ?_
  have he := Option.some.inj hF
  rw [← he] at hfin4
  refine cHit ?_
  exact hr4 _ _ _ hfin4 ⟨hf.keep ⟨rfl,rfl,rfl,rfl,trivial⟩,hc⟩

def slices_ContainsFunc_Lint_int (N : Nat) (s_ : List Int) : Option (Bool) :=
 Option.bind (slices_IndexFunc_Lint_int N s_) fun r =>
 some (decide (0 ≤ r))
theorem slices_ContainsFunc_Lint_int_ok {N : Nat} {G : Pers} {Lf : List Ent} {w : World} (s_ : List Int) {s__p : Option Addr} {s__c : Nat} {b_ : Nat} (h_s_ : Rd G 1 s__p s__c (s_.map encI_i64)) (hc : Ctx G (.box b_ [.func (.func 73) #[] #[]] 146::Lf) w) {res : Bool} (hF : slices_ContainsFunc_Lint_int N s_ = some res) : Calls Try.prog 119 #[.slice s__p s_.length s__c,.func (.func 120) #[] #[.pointer (some ⟨b_,0,none⟩)]] w (fun e w => e = .returned (.bool res) ∧ Ctx G (.box b_ [.func (.func 73) #[] #[]] 146::Lf) w) := by
 unfold slices_ContainsFunc_Lint_int at hF
 refine fnIn (args := [.slice s__p s_.length s__c,.func (.func 120) #[] #[.pointer (some ⟨b_,0,none⟩)]]) Try.func119 rfl Try.ntmps119 rfl fun a hf => wp_seq_k fun K1 h1 => cReg ?_
 refine stP hf rfl rfl rfl (pA rfl) fun a hf => cNil ?_
 refine h1 _ _ ?_
 refine wp_seq_k fun K2 h2 => cReg ?_
 refine stP hf rfl rfl rfl (pM rfl) fun a hf => stP hf rfl rfl rfl (pM rfl) fun a hf => ?_
 obtain ⟨r,hr,hF⟩ := bnd_some hF
 refine stE hf hc rfl rfl rfl (eC (v := .int .i64 r) (vs := [.slice s__p s_.length s__c,.func (.func 120) #[] #[.pointer (some ⟨b_,0,none⟩)]]) (caps := []) en_145 rfl rfl rfl rfl (fun w hc => (slices_IndexFunc_Lint_int_ok s_ h_s_ (hc.pick k0) hr).mono fun e w h => ⟨h.1,(h.2.unpick k0)⟩)) fun a w hf hc => stP hf rfl rfl rfl (pGe rfl rfl) fun a hf => stP hf rfl rfl rfl (pA rfl) fun a hf => cNil ?_
 refine h2 _ _ ?_
 refine wp_ret ?_
 obtain rfl := Option.some.inj hF
 exact fnOut1 (by simp) rfl Try.results119 hf hc (show look _ 4 = _ from rfl) ⟨rfl,hc⟩

def share_every_int (N : Nat) (l : List Int) : Option (Bool) :=
 Option.bind (slices_ContainsFunc_Lint_int N l) fun r =>
 some (!r)
theorem share_every_int_ok {N : Nat} {G : Pers} {Lf : List Ent} {w : World} (l : List Int) {l_p : Option Addr} {l_c : Nat} (h_l : Rd G 1 l_p l_c (l.map encI_i64)) (hc : Ctx G (Lf) w) {res : Bool} (hF : share_every_int N l = some res) : Calls Try.prog 80 #[.slice l_p l.length l_c,.func (.func 73) #[] #[]] w (fun e w => e = .returned (.bool res) ∧ Ctx G (Lf) w) := by
 unfold share_every_int at hF
 refine fnIn (args := [.slice l_p l.length l_c,.func (.func 73) #[] #[]]) Try.func80 rfl Try.ntmps80 rfl fun a hf => wp_seq_k fun K1 h1 => cReg ?_
 refine stBx (cs := [.func (.func 73) #[] #[]]) hf hc rfl rfl rfl rfl fun b_1 a w hf hc => stP hf rfl rfl rfl (pA rfl) fun a hf => cNil ?_
 refine h1 _ _ ?_
 refine wp_seq_k fun K2 h2 => cReg ?_
 refine stP hf rfl rfl rfl (pM rfl) fun a hf => stP hf rfl rfl rfl (pMF (us := [.pointer (some ⟨b_1,0,none⟩)]) rfl rfl) fun a hf => ?_
 obtain ⟨r,hr,hF⟩ := bnd_some hF
 refine stE hf hc rfl rfl rfl (eC (v := .bool r) (vs := [.slice l_p l.length l_c,.func (.func 120) #[] #[.pointer (some ⟨b_1,0,none⟩)]]) (caps := []) en_119 rfl rfl rfl rfl (fun w hc => (slices_ContainsFunc_Lint_int_ok l h_l (hc.pick k0) hr).mono fun e w h => ⟨h.1,(h.2.unpick k0)⟩)) fun a w hf hc => stP hf rfl rfl rfl (pNot rfl) fun a hf => stP hf rfl rfl rfl (pA rfl) fun a hf => cNil ?_
 refine h2 _ _ ?_
 refine wp_ret ?_
 obtain rfl := Option.some.inj hF
 replace hc := hc.drop k0
 exact fnOut1 (by simp) rfl Try.results80 hf hc (show look _ 4 = _ from rfl) ⟨rfl,hc⟩

def share_Payback_b12 (N : Nat) (p_ : share_Pact) (debt_0 : Int) (out : List Int) (x : Int) : Option (Step (Int × (List Int) × Int) ((List Int) × Int)) :=
 cond (decide (x < ((p_.Can.length : Nat) : Int)))
 (Option.bind (getI p_.Can x) fun e_1 =>
 cond (debt_0 == 0)
 (some (.brk (debt_0,out,x)))
 (Option.bind (nz p_.Part) fun un =>
 Option.bind (room ((out ++ [min (min debt_0 e_1) (max p_.Least (W ((W ((W (debt_0 + p_.Part)) - 1)).tdiv p_.Part)))])).length) fun un_1 =>
 some (.cont (W (debt_0 - (min (min debt_0 e_1) (max p_.Least (W ((W ((W (debt_0 + p_.Part)) - 1)).tdiv p_.Part))))),(out ++ [min (min debt_0 e_1) (max p_.Least (W ((W ((W (debt_0 + p_.Part)) - 1)).tdiv p_.Part)))]),W (x + 1)))))
 (some (.brk (debt_0,out,x)))
def share_Payback (N : Nat) (debt : Int) (p_ : share_Pact) : Option ((List Int) × Int) :=
 cond (!(share_water debt))
 (some (([] : List Int),4))
 (cond (decide (40 < ((p_.Can.length : Nat) : Int)))
 (some (([] : List Int),3))
 (Option.bind (cond ((!(share_in p_.Least 1 1000000000)) || (!(share_in p_.Part 1 100))) (some true) (Option.bind (share_every_int N p_.Can) fun r =>
 some (!r))) fun t_1 =>
 cond t_1
 (some (([] : List Int),100))
 (Option.bind (loopO (fun s12 => share_Payback_b12 N p_ s12.1 s12.2.1 s12.2.2) N (debt,([] : List Int),0)) fun x12 =>
 exK x12 (fun s12 => cond (decide (0 < s12.1))
 (some (([] : List Int),5))
 (some (s12.2.1,0))) some)))
theorem share_Payback_ok {N : Nat} {G : Pers} {Lf : List Ent} {w : World} (debt : Int) (p_ : share_Pact) {p__Can_p : Option Addr} {p__Can_c : Nat} (h_p__Can : Rd G 1 p__Can_p p__Can_c (p_.Can.map encI_i64)) (hc : Ctx G (Lf) w) {res : (List Int) × Int} (hF : share_Payback N debt p_ = some res) : Calls Try.prog 30 #[.int .i64 debt,.agg #[.int .i64 p_.Least,.int .i64 p_.Part,.slice p__Can_p p_.Can.length p__Can_c]] w (fun e w => ∃ (p'1 : Option Addr) (c'1 : Nat),e = .returned (.tuple #[.slice p'1 res.1.length c'1,.int .i64 res.2]) ∧ Ctx G (.row p'1 c'1 (res.1.map encI_i64) 3 1::Lf) w) := by
 unfold share_Payback at hF
 refine fnIn (args := [.int .i64 debt,.agg #[.int .i64 p_.Least,.int .i64 p_.Part,.slice p__Can_p p_.Can.length p__Can_c]]) Try.func30 rfl Try.ntmps30 rfl fun a hf => wp_seq_k fun K1 h1 => cReg ?_
 refine stBx (cs := [.int .i64 p_.Least,.int .i64 p_.Part,.slice p__Can_p p_.Can.length p__Can_c]) hf hc rfl rfl rfl rfl fun b_1 a w hf hc => stP hf rfl rfl rfl (pA rfl) fun a hf => stP hf rfl rfl rfl (pA rfl) fun a hf => cNil ?_
 refine h1 _ _ ?_
 refine wp_seq_k fun K2 h2 => wp_block ?_
 refine wp_seq_k fun K3 h3 => cReg ?_
 refine stP hf rfl rfl rfl (pM rfl) fun a hf => stE hf hc rfl rfl rfl (eC (v := .bool (share_water debt)) (vs := [.int .i64 debt]) (caps := []) en_73 rfl rfl rfl rfl (fun w hc => share_water_ok debt hc rfl)) fun a w hf hc => stP hf rfl rfl rfl (pNot rfl) fun a hf => stP hf rfl rfl rfl (pA rfl) fun a hf => cNil ?_
 refine h3 _ _ ?_
 refine cCond (b := (!(share_water debt))) hf rfl (fun hb => ?_) (fun hb => ?_)
 ·replace hF := condT hb hF
  clear hb
  refine wp_seq_k fun K4 h4 => cReg ?_
  refine stP hf rfl rfl rfl (pA rfl) fun a hf => stP hf rfl rfl rfl (pA rfl) fun a hf => cNil ?_
  refine h4 _ _ ?_
  refine wp_ret ?_
  refine xBlkR ?_
  refine xThenR ?_
  obtain rfl := Option.some.inj hF
  replace hc := hc.nilRow 3 1
  replace hc := hc.drop k1
  exact fnOut2 (by simp) rfl Try.results30 hf hc (show look _ 4 = _ from rfl) (show look _ 5 = _ from rfl) ⟨none,0,rfl,hc⟩
 ·replace hF := condF hb hF
  clear hb
  refine wp_seq_k fun K5 h5 => cReg ?_
  refine stP hf rfl rfl rfl (pFA fa_59_2 rfl) fun a hf => stE hf hc rfl rfl rfl (eLd1 sc_36 rfl (cell_box m0 rfl)) fun a w hf hc => stP hf rfl rfl rfl (pLenS Try.underlying36 rfl) fun a hf => stP hf rfl rfl rfl (pGt rfl rfl) fun a hf => stP hf rfl rfl rfl (pA rfl) fun a hf => cNil ?_
  refine h5 _ _ ?_
  refine cCond (b := (decide (40 < ((p_.Can.length : Nat) : Int)))) hf rfl (fun hb => ?_) (fun hb => ?_)
  ·replace hF := condT hb hF
   clear hb
   refine wp_seq_k fun K6 h6 => cReg ?_
   refine stP hf rfl rfl rfl (pA rfl) fun a hf => stP hf rfl rfl rfl (pA rfl) fun a hf => cNil ?_
   refine h6 _ _ ?_
   refine wp_ret ?_
   refine xBlkR ?_
   refine xThenR ?_
   obtain rfl := Option.some.inj hF
   replace hc := hc.nilRow 3 1
   replace hc := hc.drop k1
   exact fnOut2 (by simp) rfl Try.results30 hf hc (show look _ 4 = _ from rfl) (show look _ 5 = _ from rfl) ⟨none,0,rfl,hc⟩
  ·replace hF := condF hb hF
   clear hb
   refine wp_seq_k fun K7 h7 => cReg ?_
   refine stP hf rfl rfl rfl (pFA fa_59_0 rfl) fun a hf => stE hf hc rfl rfl rfl (eLd1 sc_3 rfl (cell_box m0 rfl)) fun a w hf hc => stE hf hc rfl rfl rfl (eC (v := .bool (share_in p_.Least 1 1000000000)) (vs := [.int .i64 p_.Least,.int .i64 1,.int .i64 1000000000]) (caps := []) en_70 rfl rfl rfl rfl (fun w hc => share_in_ok p_.Least 1 1000000000 hc rfl)) fun a w hf hc => stP hf rfl rfl rfl (pNot rfl) fun a hf => stP hf rfl rfl rfl (pM rfl) fun a hf => stCut 5 (fun a w => Has 70 a [(0,.int .i64 debt),(3,.pointer (some ⟨b_1,0,none⟩)),(20,.pointer (some ⟨b_1,0,none⟩)),(21,.int .i64 p_.Least),(22,.bool (share_in p_.Least 1 1000000000)),(23,.bool (!(share_in p_.Least 1 1000000000))),(24,.bool (!(share_in p_.Least 1 1000000000))),(29,.bool ((!(share_in p_.Least 1 1000000000)) || (!(share_in p_.Part 1 100))))] ∧ Ctx G (.box b_1 [.int .i64 p_.Least,.int .i64 p_.Part,.slice p__Can_p p_.Can.length p__Can_c] 59::Lf) w) ?_ ?_
   ·cases hb : (!(share_in p_.Least 1 1000000000))
    ·rw [hb] at hf
     refine stP hf rfl rfl rfl (pFA fa_59_1 rfl) fun a hf => stE hf hc rfl rfl rfl (eLd1 sc_3 rfl (cell_box m0 rfl)) fun a w hf hc => stE hf hc rfl rfl rfl (eC (v := .bool (share_in p_.Part 1 100)) (vs := [.int .i64 p_.Part,.int .i64 1,.int .i64 100]) (caps := []) en_70 rfl rfl rfl rfl (fun w hc => share_in_ok p_.Part 1 100 hc rfl)) fun a w hf hc => stP hf rfl rfl rfl (pNot rfl) fun a hf => stP hf rfl rfl rfl (pPf rfl rfl) fun a hf => cNil ⟨hf.keep ⟨rfl,rfl,rfl,rfl,rfl,rfl,rfl,rfl,trivial⟩,hc⟩
    ·rw [hb] at hf
     refine stS hf rfl rfl rfl fun a hf => stS hf rfl rfl rfl fun a hf => stS hf rfl rfl rfl fun a hf => stS hf rfl rfl rfl fun a hf => stP hf rfl rfl rfl (pPt rfl rfl) fun a hf => cNil ⟨hf.keep ⟨rfl,rfl,rfl,rfl,rfl,rfl,rfl,rfl,trivial⟩,hc⟩
   intro a w ⟨hf,hc⟩
   refine stP hf rfl rfl rfl (pM rfl) fun a hf => ?_
   obtain ⟨t_1,ht_1,hF⟩ := bnd_some hF
   refine stCut 5 (fun a w => Has 70 a [(0,.int .i64 debt),(3,.pointer (some ⟨b_1,0,none⟩)),(20,.pointer (some ⟨b_1,0,none⟩)),(21,.int .i64 p_.Least),(22,.bool (share_in p_.Least 1 1000000000)),(23,.bool (!(share_in p_.Least 1 1000000000))),(24,.bool (!(share_in p_.Least 1 1000000000))),(29,.bool ((!(share_in p_.Least 1 1000000000)) || (!(share_in p_.Part 1 100)))),(30,.bool ((!(share_in p_.Least 1 1000000000)) || (!(share_in p_.Part 1 100)))),(35,.bool t_1)] ∧ Ctx G (.box b_1 [.int .i64 p_.Least,.int .i64 p_.Part,.slice p__Can_p p_.Can.length p__Can_c] 59::Lf) w) ?_ ?_
   ·cases hb : ((!(share_in p_.Least 1 1000000000)) || (!(share_in p_.Part 1 100)))
    ·rw [hb] at hf
     have hF := condF hb ht_1
     refine stP hf rfl rfl rfl (pFA fa_59_2 rfl) fun a hf => stE hf hc rfl rfl rfl (eLd1 sc_36 rfl (cell_box m0 rfl)) fun a w hf hc => ?_
     obtain ⟨r,hr,hF⟩ := bnd_some hF
     refine stE hf hc rfl rfl rfl (eC (v := .bool r) (vs := [.slice p__Can_p p_.Can.length p__Can_c,.func (.func 73) #[] #[]]) (caps := []) en_80 rfl rfl rfl rfl (fun w hc => share_every_int_ok p_.Can h_p__Can hc hr)) fun a w hf hc => stP hf rfl rfl rfl (pNot rfl) fun a hf => stP hf rfl rfl rfl (pPf rfl rfl) fun a hf => ?_
     obtain rfl := Option.some.inj hF
     exact cNil ⟨hf.keep ⟨rfl,rfl,rfl,rfl,rfl,rfl,rfl,rfl,rfl,rfl,trivial⟩,hc⟩
    ·rw [hb] at hf
     have hF := condT hb ht_1
     obtain rfl := Option.some.inj hF
     refine stS hf rfl rfl rfl fun a hf => stS hf rfl rfl rfl fun a hf => stS hf rfl rfl rfl fun a hf => stS hf rfl rfl rfl fun a hf => stP hf rfl rfl rfl (pPt rfl rfl) fun a hf => cNil ⟨hf.keep ⟨rfl,rfl,rfl,rfl,rfl,rfl,rfl,rfl,rfl,rfl,trivial⟩,hc⟩
   intro a w ⟨hf,hc⟩
   refine stP hf rfl rfl rfl (pA rfl) fun a hf => cNil ?_
   refine h7 _ _ ?_
   refine cCond (b := t_1) hf rfl (fun hb => ?_) (fun hb => ?_)
   ·replace hF := condT hb hF
    clear hb
    refine wp_seq_k fun K8 h8 => cReg ?_
    refine stP hf rfl rfl rfl (pA rfl) fun a hf => stP hf rfl rfl rfl (pA rfl) fun a hf => cNil ?_
    refine h8 _ _ ?_
    refine wp_ret ?_
    refine xBlkR ?_
    refine xThenR ?_
    obtain rfl := Option.some.inj hF
    replace hc := hc.nilRow 3 1
    replace hc := hc.drop k1
    exact fnOut2 (by simp) rfl Try.results30 hf hc (show look _ 4 = _ from rfl) (show look _ 5 = _ from rfl) ⟨none,0,rfl,hc⟩
   ·replace hF := condF hb hF
    clear hb
    refine wp_skip ?_
    refine h2 _ _ ?_
    refine wp_seq_k fun K9 h9 => cReg ?_
    refine stP hf rfl rfl rfl (pA rfl) fun a hf => cNil ?_
    refine h9 _ _ ?_
    refine wp_seq_k fun K10 h10 => wp_seq_k fun K11 h11 => cReg ?_
    refine stP hf rfl rfl rfl (pFA fa_59_2 rfl) fun a hf => stE hf hc rfl rfl rfl (eLd1 sc_36 rfl (cell_box m0 rfl)) fun a w hf hc => stP hf rfl rfl rfl (pLenS Try.underlying36 rfl) fun a hf => stP hf rfl rfl rfl (pM rfl) fun a hf => cNil ?_
    refine h11 _ _ ?_
    refine wp_block ?_
    obtain ⟨x12,hx12,hF⟩ := bnd_some hF
    let S12 : (Int × (List Int) × Int) → Act → World → Prop := (fun (zz : Int × (List Int) × Int) a w => ∃ (p_1 : Option Addr) (c_1 : Nat),Has 70 a [(0,.int .i64 zz.1),(3,.pointer (some ⟨b_1,0,none⟩)),(6,.slice p_1 zz.2.1.length c_1),(37,.slice p__Can_p p_.Can.length p__Can_c),(38,.int .i64 ((p_.Can.length : Nat) : Int)),(39,.int .i64 zz.2.2)] ∧ Ctx G (.row p_1 c_1 (zz.2.1.map encI_i64) 3 1::.box b_1 [.int .i64 p_.Least,.int .i64 p_.Part,.slice p__Can_p p_.Can.length p__Can_c] 59::Lf) w)
    have hr12 : ∀ (zz : Int × (List Int) × Int) a w,x12 = .go zz → S12 zz a w → K10 a w := by
     rintro ⟨debt_0,out,x⟩ a w rfl ⟨p_1,c_1,hf,hc⟩
     replace hF := exK_go hF
     refine h10 _ _ ?_
     refine wp_seq_k fun K13 h13 => wp_seq_k fun K14 h14 => cReg ?_
     refine stP hf rfl rfl rfl (pM rfl) fun a hf => stP hf rfl rfl rfl (pGt rfl rfl) fun a hf => cNil ?_
     refine h14 _ _ ?_
     refine cCond (b := (decide (0 < debt_0))) hf rfl (fun hb => ?_) (fun hb => ?_)
     ·replace hF := condT hb hF
      clear hb
      refine wp_seq_k fun K15 h15 => cReg ?_
      refine stP hf rfl rfl rfl (pA rfl) fun a hf => stP hf rfl rfl rfl (pA rfl) fun a hf => cNil ?_
      refine h15 _ _ ?_
      refine wp_ret ?_
      refine xThenR ?_
      obtain rfl := Option.some.inj hF
      replace hc := hc.nilRow 3 1
      replace hc := hc.drop k2
      replace hc := hc.drop k1
      exact fnOut2 (by simp) rfl Try.results30 hf hc (show look _ 4 = _ from rfl) (show look _ 5 = _ from rfl) ⟨none,0,rfl,hc⟩
     ·replace hF := condF hb hF
      clear hb
      refine wp_skip ?_
      refine h13 _ _ ?_
      refine wp_seq_k fun K16 h16 => cReg ?_
      refine stP hf rfl rfl rfl (pM rfl) fun a hf => stP hf rfl rfl rfl (pA rfl) fun a hf => stP hf rfl rfl rfl (pA rfl) fun a hf => cNil ?_
      refine h16 _ _ ?_
      refine wp_ret ?_
      obtain rfl := Option.some.inj hF
      replace hc := hc.drop k1
      exact fnOut2 (by simp) rfl Try.results30 hf hc (show look _ 4 = _ from rfl) (show look _ 5 = _ from rfl) ⟨p_1,c_1,rfl,hc⟩
    have ho12 : ∀ r,x12 = .out r → r = res := by
     rintro r rfl
     exact Option.some.inj hF
    replace hc := hc.nilRow 3 1
    refine cLoop N (loopW (S := S12) (x := x12) ?_ N (debt,([] : List Int),0) _ _ ⟨none,0,hf.keep ⟨rfl,rfl,rfl,rfl,rfl,rfl,trivial⟩,hc⟩ hx12)
    clear hF hf hc
    rintro ⟨debt_0,out,x⟩ st12 a w KB12 ⟨p_1,c_1,hf,hc⟩ hF hfin12 hK12
    unfold share_Payback_b12 at hF
    refine wp_seq_k fun K17 h17 => cReg ?_
    refine stP hf rfl rfl rfl (pLt rfl rfl) fun a hf => cNil ?_
    refine h17 _ _ ?_
    refine wp_seq_k fun K18 h18 => cCond (b := (decide (x < ((p_.Can.length : Nat) : Int)))) hf rfl (fun hb => ?_) (fun hb => ?_)
    ·replace hF := condT hb hF
     clear hb
     refine wp_skip ?_
     refine h18 _ _ ?_
     refine wp_seq_k fun K19 h19 => wp_block ?_
     refine wp_seq_k fun K20 h20 => cReg ?_
     obtain ⟨e_1,he_1,hF⟩ := bnd_some hF
     obtain ⟨b_2,o,qa,qp⟩ := h_p__Can.atm he_1
     refine stP hf rfl rfl rfl (pIA Try.underlying36 sz_3 rfl rfl qa) fun a hf => stE hf hc rfl rfl rfl (eLd1 sc_3 rfl (cell_pc (j := 0) qp rfl)) fun a w hf hc => stP hf rfl rfl rfl (pA rfl) fun a hf => cNil ?_
     refine h20 _ _ ?_
     refine wp_seq_k fun K21 h21 => wp_seq_k fun K22 h22 => cReg ?_
     refine stP hf rfl rfl rfl (pM rfl) fun a hf => stP hf rfl rfl rfl (pEq rfl rfl) fun a hf => cNil ?_
     refine h22 _ _ ?_
     refine cCond (b := (debt_0 == 0)) hf rfl (fun hb => ?_) (fun hb => ?_)
     ·replace hF := condT hb hF
      clear hb
      refine wp_exit ?_
      refine xThen ?_
      refine cMiss rfl ?_
      refine xThen ?_
      refine xThen ?_
      have he := Option.some.inj hF
      rw [← he] at hfin12
      refine cHit ?_
      exact hr12 _ _ _ hfin12 ⟨p_1,c_1,hf.keep ⟨rfl,rfl,rfl,rfl,rfl,rfl,trivial⟩,hc⟩
     ·replace hF := condF hb hF
      clear hb
      refine wp_skip ?_
      refine h21 _ _ ?_
      refine wp_seq_k fun K23 h23 => ?_
      obtain ⟨un,hun,hF⟩ := bnd_some hF
      refine cQ hc follows_mx (by kernel_rfl) ?_
      refine qE hf rfl rfl rfl (Pu.ev (pM rfl)) fun a hf => qE hf rfl rfl rfl (Pu.ev (pM rfl)) fun a hf => qE hf rfl rfl rfl (Pu.ev (pFA fa_59_0 rfl)) fun a hf => qE hf rfl rfl rfl (eLd1 sc_3 rfl (cell_box m1 rfl)) fun a hf => qE hf rfl rfl rfl (Pu.ev (pM rfl)) fun a hf => qE hf rfl rfl rfl (Pu.ev (pFA fa_59_1 rfl)) fun a hf => qE hf rfl rfl rfl (eLd1 sc_3 rfl (cell_box m1 rfl)) fun a hf => qE hf rfl rfl rfl (Pu.ev (pAdd rfl rfl)) fun a hf => qE hf rfl rfl rfl (Pu.ev (pSub rfl rfl)) fun a hf => qE hf rfl rfl rfl (Pu.ev (pFA fa_59_1 rfl)) fun a hf => qE hf rfl rfl rfl (eLd1 sc_3 rfl (cell_box m1 rfl)) fun a hf => qE hf rfl rfl rfl (Pu.ev (pQuo rfl rfl (nz_spec hun))) fun a hf => qE hf rfl rfl rfl (Pu.ev (pMax2 rfl rfl)) fun a hf => ?_
      refine qE hf rfl rfl rfl (Pu.ev (pMin3 rfl rfl rfl)) fun a hf => qE hf rfl rfl rfl (Pu.ev (pA rfl)) fun a hf => ?_
      intro w hc
      refine h23 _ _ ?_
      refine wp_seq_k fun K24 h24 => cReg ?_
      refine stP hf rfl rfl rfl (pM rfl) fun a hf => stP hf rfl rfl rfl (pM rfl) fun a hf => stBS (rows := ([min (min debt_0 e_1) (max p_.Least (W ((W ((W (debt_0 + p_.Part)) - 1)).tdiv p_.Part)))] : List Int).map encI_i64) (vs := [(0,.int .i64 (min (min debt_0 e_1) (max p_.Least (W ((W ((W (debt_0 + p_.Part)) - 1)).tdiv p_.Part)))))]) hf hc rfl rfl sl_36 rfl ⟨rfl,rfl,rfl,trivial⟩ rfl rfl fun b_3 a w hf hc => ?_
      obtain ⟨un_1,hun_1,hF⟩ := bnd_some hF
      refine stApm (xs := out) (ys := ([min (min debt_0 e_1) (max p_.Least (W ((W ((W (debt_0 + p_.Part)) - 1)).tdiv p_.Part)))] : List Int)) hf hc rfl rfl sl_36 rfl rfl rfl rfl rfl one_encI_i64 (src_row hc m0) (fun _ _ => u1) (by simpa using room_spec hun_1) fun p_2 c_2 a w hf hc => stP hf rfl rfl rfl (pA rfl) fun a hf => cNil ?_
      refine h24 _ _ ?_
      refine cReg ?_
      refine stP hf rfl rfl rfl (pM rfl) fun a hf => stP hf rfl rfl rfl (pM rfl) fun a hf => stP hf rfl rfl rfl (pSub rfl rfl) fun a hf => stP hf rfl rfl rfl (pA rfl) fun a hf => cNil ?_
      refine h19 _ _ ?_
      refine cReg ?_
      refine stP hf rfl rfl rfl (pAdd rfl rfl) fun a hf => stP hf rfl rfl rfl (pM rfl) fun a hf => cNil ?_
      replace hc := hc.drop k0
      exact hK12 (W (debt_0 - (min (min debt_0 e_1) (max p_.Least (W ((W ((W (debt_0 + p_.Part)) - 1)).tdiv p_.Part))))),(out ++ [min (min debt_0 e_1) (max p_.Least (W ((W ((W (debt_0 + p_.Part)) - 1)).tdiv p_.Part)))]),W (x + 1)) _ _ (Option.some.inj hF).symm ⟨p_2,c_2,hf.keep ⟨rfl,rfl,rfl,rfl,rfl,rfl,trivial⟩,hc⟩
    ·replace hF := condF hb hF
     clear hb
     refine wp_exit ?_
     refine xThen ?_
     refine xThen ?_
     have he := Option.some.inj hF
     rw [← he] at hfin12
     refine cHit ?_
     exact hr12 _ _ _ hfin12 ⟨p_1,c_1,hf.keep ⟨rfl,rfl,rfl,rfl,rfl,rfl,trivial⟩,hc⟩

def share_claimed_1 (n : Int) : Bool :=
 (share_in n 1 1000000)
theorem share_claimed_1_ok {G : Pers} {Lf : List Ent} {w : World} (n : Int)   (hc : Ctx G (Lf) w) {res : Bool} (hF : share_claimed_1 n = res) : Calls Try.prog 121 #[.int .i64 n] w (fun e w => e = .returned (.bool res) ∧ Ctx G (Lf) w) := by
 unfold share_claimed_1 at hF
 refine fnIn (args := [.int .i64 n]) Try.func121 rfl Try.ntmps121 rfl fun a hf => wp_seq_k fun K1 h1 => cReg ?_
 refine stP hf rfl rfl rfl (pA rfl) fun a hf => cNil ?_
 refine h1 _ _ ?_
 refine wp_seq_k fun K2 h2 => cReg ?_
 refine stP hf rfl rfl rfl (pM rfl) fun a hf => stE hf hc rfl rfl rfl (eC (v := .bool (share_in n 1 1000000)) (vs := [.int .i64 n,.int .i64 1,.int .i64 1000000]) (caps := []) en_70 rfl rfl rfl rfl (fun w hc => share_in_ok n 1 1000000 hc rfl)) fun a w hf hc => stP hf rfl rfl rfl (pA rfl) fun a hf => cNil ?_
 refine h2 _ _ ?_
 refine wp_ret ?_
 obtain rfl := hF
 exact fnOut1 (by simp) rfl Try.results121 hf hc (show look _ 2 = _ from rfl) ⟨rfl,hc⟩

def share_every_int_1_s2 (x : Int) : Bool :=
 (!(share_claimed_1 x))
theorem share_every_int_1_s2_ok {G : Pers} {Lf : List Ent} {w : World} (x : Int) {b_ : Nat}  (hc : Ctx G (.box b_ [.func (.func 121) #[] #[]] 146::Lf) w) {res : Bool} (hF : share_every_int_1_s2 x = res) : Calls Try.prog 120 #[.int .i64 x,.pointer (some ⟨b_,0,none⟩)] w (fun e w => e = .returned (.bool res) ∧ Ctx G (.box b_ [.func (.func 121) #[] #[]] 146::Lf) w) := by
 unfold share_every_int_1_s2 at hF
 refine fnIn (args := [.int .i64 x,.pointer (some ⟨b_,0,none⟩)]) Try.func120 rfl Try.ntmps120 rfl fun a hf => wp_seq_k fun K1 h1 => cReg ?_
 refine stP hf rfl rfl rfl (pA rfl) fun a hf => cNil ?_
 refine h1 _ _ ?_
 refine wp_seq_k fun K2 h2 => cReg ?_
 refine stE hf hc rfl rfl rfl (eLd1 sc_146 rfl (cell_box m0 rfl)) fun a w hf hc => stP hf rfl rfl rfl (pM rfl) fun a hf => stE hf hc rfl rfl rfl (eC (v := .bool (share_claimed_1 x)) (vs := [.int .i64 x]) (caps := []) en_121 rfl rfl rfl rfl (fun w hc => share_claimed_1_ok x hc rfl)) fun a w hf hc => stP hf rfl rfl rfl (pNot rfl) fun a hf => stP hf rfl rfl rfl (pA rfl) fun a hf => cNil ?_
 refine h2 _ _ ?_
 refine wp_ret ?_
 obtain rfl := hF
 exact fnOut1 (by simp) rfl Try.results120 hf hc (show look _ 3 = _ from rfl) ⟨rfl,hc⟩

def slices_IndexFunc_Lint_int_s2_b4 (N : Nat) (s_ : List Int) (x : Int) : Option (Step (Int) (Int)) :=
 cond (decide (x < ((s_.length : Nat) : Int)))
 (Option.bind (getI s_ x) fun e_1 =>
 cond (share_every_int_1_s2 e_1)
 (some (.ret x))
 (some (.cont (W (x + 1)))))
 (some (.brk x))
def slices_IndexFunc_Lint_int_s2 (N : Nat) (s_ : List Int) : Option (Int) :=
 Option.bind (loopO (fun s4 => slices_IndexFunc_Lint_int_s2_b4 N s_ s4) N 0) fun x4 =>
 exK x4 (fun s4 => some (-1)) some
theorem slices_IndexFunc_Lint_int_s2_ok {N : Nat} {G : Pers} {Lf : List Ent} {w : World} (s_ : List Int) {s__p : Option Addr} {s__c : Nat} {b_ : Nat} (h_s_ : Rd G 1 s__p s__c (s_.map encI_i64)) (hc : Ctx G (.box b_ [.func (.func 121) #[] #[]] 146::Lf) w) {res : Int} (hF : slices_IndexFunc_Lint_int_s2 N s_ = some res) : Calls Try.prog 145 #[.slice s__p s_.length s__c,.func (.func 120) #[] #[.pointer (some ⟨b_,0,none⟩)]] w (fun e w => e = .returned (.int .i64 res) ∧ Ctx G (.box b_ [.func (.func 121) #[] #[]] 146::Lf) w) := by
 unfold slices_IndexFunc_Lint_int_s2 at hF
 refine fnIn (args := [.slice s__p s_.length s__c,.func (.func 120) #[] #[.pointer (some ⟨b_,0,none⟩)]]) Try.func145 rfl Try.ntmps145 rfl fun a hf => wp_seq_k fun K1 h1 => cReg ?_
 refine stP hf rfl rfl rfl (pA rfl) fun a hf => cNil ?_
 refine h1 _ _ ?_
 refine wp_seq_k fun K2 h2 => wp_seq_k fun K3 h3 => cReg ?_
 refine stP hf rfl rfl rfl (pM rfl) fun a hf => stP hf rfl rfl rfl (pLenS Try.underlying36 rfl) fun a hf => stP hf rfl rfl rfl (pM rfl) fun a hf => cNil ?_
 refine h3 _ _ ?_
 refine wp_block ?_
 obtain ⟨x4,hx4,hF⟩ := bnd_some hF
 let S4 : Int → Act → World → Prop := (fun (zz : Int) a w => Has 19 a [(0,.slice s__p s_.length s__c),(1,.func (.func 120) #[] #[.pointer (some ⟨b_,0,none⟩)]),(7,.int .i64 ((s_.length : Nat) : Int)),(8,.int .i64 zz)] ∧ Ctx G (.box b_ [.func (.func 121) #[] #[]] 146::Lf) w)
 have hr4 : ∀ (zz : Int) a w,x4 = .go zz → S4 zz a w → K2 a w := by
  rintro x a w rfl ⟨hf,hc⟩
  replace hF := exK_go hF
  refine h2 _ _ ?_
  refine wp_seq_k fun K5 h5 => cReg ?_
  refine stP hf rfl rfl rfl (pA rfl) fun a hf => cNil ?_
  refine h5 _ _ ?_
  refine wp_ret ?_
  obtain rfl := Option.some.inj hF
  exact fnOut1 (by simp) rfl Try.results145 hf hc (show look _ 4 = _ from rfl) ⟨rfl,hc⟩
 have ho4 : ∀ r,x4 = .out r → r = res := by
  rintro r rfl
  exact Option.some.inj hF
 refine cLoop N (loopW (S := S4) (x := x4) ?_ N 0 _ _ ⟨hf.keep ⟨rfl,rfl,rfl,rfl,trivial⟩,hc⟩ hx4)
 clear hF hf hc
 rintro x st4 a w KB4 ⟨hf,hc⟩ hF hfin4 hK4
 unfold slices_IndexFunc_Lint_int_s2_b4 at hF
 refine wp_seq_k fun K6 h6 => cReg ?_
 refine stP hf rfl rfl rfl (pLt rfl rfl) fun a hf => cNil ?_
 refine h6 _ _ ?_
 refine wp_seq_k fun K7 h7 => cCond (b := (decide (x < ((s_.length : Nat) : Int)))) hf rfl (fun hb => ?_) (fun hb => ?_)
 ·replace hF := condT hb hF
  clear hb
  refine wp_skip ?_
  refine h7 _ _ ?_
  refine wp_seq_k fun K8 h8 => wp_block ?_
  refine wp_seq_k fun K9 h9 => cReg ?_
  refine stP hf rfl rfl rfl (pM rfl) fun a hf => stP hf rfl rfl rfl (pA rfl) fun a hf => cNil ?_
  refine h9 _ _ ?_
  refine wp_seq_k fun K10 h10 => cReg ?_
  refine stP hf rfl rfl rfl (pM rfl) fun a hf => stP hf rfl rfl rfl (pM rfl) fun a hf => stP hf rfl rfl rfl (pM rfl) fun a hf => ?_
  obtain ⟨e_1,he_1,hF⟩ := bnd_some hF
  obtain ⟨b_1,o,qa,qp⟩ := h_s_.atm he_1
  refine stP hf rfl rfl rfl (pIA Try.underlying36 sz_3 rfl rfl qa) fun a hf => stE hf hc rfl rfl rfl (eLd1 sc_3 rfl (cell_pc (j := 0) qp rfl)) fun a w hf hc => stE hf hc rfl rfl rfl (eC (v := .bool (share_every_int_1_s2 e_1)) (vs := [.int .i64 e_1]) (caps := [.pointer (some ⟨b_,0,none⟩)]) en_120 rfl rfl rfl rfl (fun w hc => (share_every_int_1_s2_ok e_1 (hc.pick k0) rfl).mono fun e w h => ⟨h.1,(h.2.unpick k0)⟩)) fun a w hf hc => cNil ?_
  refine h10 _ _ ?_
  refine cCond (b := (share_every_int_1_s2 e_1)) hf rfl (fun hb => ?_) (fun hb => ?_)
  ·replace hF := condT hb hF
   clear hb
   refine wp_seq_k fun K11 h11 => cReg ?_
   refine stP hf rfl rfl rfl (pM rfl) fun a hf => stP hf rfl rfl rfl (pA rfl) fun a hf => cNil ?_
   refine h11 _ _ ?_
   refine wp_ret ?_
   refine xBlkR ?_
   refine xThenR ?_
   refine xThenR ?_
   have he := Option.some.inj hF
   rw [← he] at hfin4
   replace hF := ho4 _ hfin4
   refine xBlkR ?_
   refine xThenR ?_
   obtain rfl := hF
   exact fnOut1 (by simp) rfl Try.results145 hf hc (show look _ 4 = _ from rfl) ⟨rfl,hc⟩
  ·replace hF := condF hb hF
   clear hb
   refine wp_skip ?_
   refine h8 _ _ ?_
   refine cReg ?_
   refine stP hf rfl rfl rfl (pAdd rfl rfl) fun a hf => stP hf rfl rfl rfl (pM rfl) fun a hf => cNil ?_
   exact hK4 (W (x + 1)) _ _ (Option.some.inj hF).symm ⟨hf.keep ⟨rfl,rfl,rfl,rfl,trivial⟩,hc⟩
 ·replace hF := condF hb hF
  clear hb
  refine wp_exit ?_
  refine xThen ?_
  refine xThen ?_
  have he := Option.some.inj hF
  rw [← he] at hfin4
  refine cHit ?_
  exact hr4 _ _ _ hfin4 ⟨hf.keep ⟨rfl,rfl,rfl,rfl,trivial⟩,hc⟩

def slices_ContainsFunc_Lint_int_s2 (N : Nat) (s_ : List Int) : Option (Bool) :=
 Option.bind (slices_IndexFunc_Lint_int_s2 N s_) fun r =>
 some (decide (0 ≤ r))
theorem slices_ContainsFunc_Lint_int_s2_ok {N : Nat} {G : Pers} {Lf : List Ent} {w : World} (s_ : List Int) {s__p : Option Addr} {s__c : Nat} {b_ : Nat} (h_s_ : Rd G 1 s__p s__c (s_.map encI_i64)) (hc : Ctx G (.box b_ [.func (.func 121) #[] #[]] 146::Lf) w) {res : Bool} (hF : slices_ContainsFunc_Lint_int_s2 N s_ = some res) : Calls Try.prog 119 #[.slice s__p s_.length s__c,.func (.func 120) #[] #[.pointer (some ⟨b_,0,none⟩)]] w (fun e w => e = .returned (.bool res) ∧ Ctx G (.box b_ [.func (.func 121) #[] #[]] 146::Lf) w) := by
 unfold slices_ContainsFunc_Lint_int_s2 at hF
 refine fnIn (args := [.slice s__p s_.length s__c,.func (.func 120) #[] #[.pointer (some ⟨b_,0,none⟩)]]) Try.func119 rfl Try.ntmps119 rfl fun a hf => wp_seq_k fun K1 h1 => cReg ?_
 refine stP hf rfl rfl rfl (pA rfl) fun a hf => cNil ?_
 refine h1 _ _ ?_
 refine wp_seq_k fun K2 h2 => cReg ?_
 refine stP hf rfl rfl rfl (pM rfl) fun a hf => stP hf rfl rfl rfl (pM rfl) fun a hf => ?_
 obtain ⟨r,hr,hF⟩ := bnd_some hF
 refine stE hf hc rfl rfl rfl (eC (v := .int .i64 r) (vs := [.slice s__p s_.length s__c,.func (.func 120) #[] #[.pointer (some ⟨b_,0,none⟩)]]) (caps := []) en_145 rfl rfl rfl rfl (fun w hc => (slices_IndexFunc_Lint_int_s2_ok s_ h_s_ (hc.pick k0) hr).mono fun e w h => ⟨h.1,(h.2.unpick k0)⟩)) fun a w hf hc => stP hf rfl rfl rfl (pGe rfl rfl) fun a hf => stP hf rfl rfl rfl (pA rfl) fun a hf => cNil ?_
 refine h2 _ _ ?_
 refine wp_ret ?_
 obtain rfl := Option.some.inj hF
 exact fnOut1 (by simp) rfl Try.results119 hf hc (show look _ 4 = _ from rfl) ⟨rfl,hc⟩

def share_every_int_s2 (N : Nat) (l : List Int) : Option (Bool) :=
 Option.bind (slices_ContainsFunc_Lint_int_s2 N l) fun r =>
 some (!r)
theorem share_every_int_s2_ok {N : Nat} {G : Pers} {Lf : List Ent} {w : World} (l : List Int) {l_p : Option Addr} {l_c : Nat} (h_l : Rd G 1 l_p l_c (l.map encI_i64)) (hc : Ctx G (Lf) w) {res : Bool} (hF : share_every_int_s2 N l = some res) : Calls Try.prog 80 #[.slice l_p l.length l_c,.func (.func 121) #[] #[]] w (fun e w => e = .returned (.bool res) ∧ Ctx G (Lf) w) := by
 unfold share_every_int_s2 at hF
 refine fnIn (args := [.slice l_p l.length l_c,.func (.func 121) #[] #[]]) Try.func80 rfl Try.ntmps80 rfl fun a hf => wp_seq_k fun K1 h1 => cReg ?_
 refine stBx (cs := [.func (.func 121) #[] #[]]) hf hc rfl rfl rfl rfl fun b_1 a w hf hc => stP hf rfl rfl rfl (pA rfl) fun a hf => cNil ?_
 refine h1 _ _ ?_
 refine wp_seq_k fun K2 h2 => cReg ?_
 refine stP hf rfl rfl rfl (pM rfl) fun a hf => stP hf rfl rfl rfl (pMF (us := [.pointer (some ⟨b_1,0,none⟩)]) rfl rfl) fun a hf => ?_
 obtain ⟨r,hr,hF⟩ := bnd_some hF
 refine stE hf hc rfl rfl rfl (eC (v := .bool r) (vs := [.slice l_p l.length l_c,.func (.func 120) #[] #[.pointer (some ⟨b_1,0,none⟩)]]) (caps := []) en_119 rfl rfl rfl rfl (fun w hc => (slices_ContainsFunc_Lint_int_s2_ok l h_l (hc.pick k0) hr).mono fun e w h => ⟨h.1,(h.2.unpick k0)⟩)) fun a w hf hc => stP hf rfl rfl rfl (pNot rfl) fun a hf => stP hf rfl rfl rfl (pA rfl) fun a hf => cNil ?_
 refine h2 _ _ ?_
 refine wp_ret ?_
 obtain rfl := Option.some.inj hF
 replace hc := hc.drop k0
 exact fnOut1 (by simp) rfl Try.results80 hf hc (show look _ 4 = _ from rfl) ⟨rfl,hc⟩

def share_claimed (N : Nat) (claims : List Int) : Option (Int) :=
 cond (!(share_in ((claims.length : Nat) : Int) 1 12))
 (some 3)
 (Option.bind (share_every_int_s2 N claims) fun r =>
 cond (!r)
 (some 4)
 (some 0))
theorem share_claimed_ok {N : Nat} {G : Pers} {Lf : List Ent} {w : World} (claims : List Int) {claims_p : Option Addr} {claims_c : Nat} (h_claims : Rd G 1 claims_p claims_c (claims.map encI_i64)) (hc : Ctx G (Lf) w) {res : Int} (hF : share_claimed N claims = some res) : Calls Try.prog 81 #[.slice claims_p claims.length claims_c] w (fun e w => e = .returned (.int .i64 res) ∧ Ctx G (Lf) w) := by
 unfold share_claimed at hF
 refine fnIn (args := [.slice claims_p claims.length claims_c]) Try.func81 rfl Try.ntmps81 rfl fun a hf => wp_seq_k fun K1 h1 => cReg ?_
 refine stP hf rfl rfl rfl (pA rfl) fun a hf => cNil ?_
 refine h1 _ _ ?_
 refine wp_seq_k fun K2 h2 => wp_block ?_
 refine wp_seq_k fun K3 h3 => cReg ?_
 refine stP hf rfl rfl rfl (pM rfl) fun a hf => stP hf rfl rfl rfl (pLenS Try.underlying36 rfl) fun a hf => stE hf hc rfl rfl rfl (eC (v := .bool (share_in ((claims.length : Nat) : Int) 1 12)) (vs := [.int .i64 ((claims.length : Nat) : Int),.int .i64 1,.int .i64 12]) (caps := []) en_70 rfl rfl rfl rfl (fun w hc => share_in_ok ((claims.length : Nat) : Int) 1 12 hc rfl)) fun a w hf hc => stP hf rfl rfl rfl (pNot rfl) fun a hf => stP hf rfl rfl rfl (pA rfl) fun a hf => cNil ?_
 refine h3 _ _ ?_
 refine cCond (b := (!(share_in ((claims.length : Nat) : Int) 1 12))) hf rfl (fun hb => ?_) (fun hb => ?_)
 ·replace hF := condT hb hF
  clear hb
  refine wp_seq_k fun K4 h4 => cReg ?_
  refine stP hf rfl rfl rfl (pA rfl) fun a hf => cNil ?_
  refine h4 _ _ ?_
  refine wp_ret ?_
  refine xBlkR ?_
  refine xThenR ?_
  obtain rfl := Option.some.inj hF
  exact fnOut1 (by simp) rfl Try.results81 hf hc (show look _ 2 = _ from rfl) ⟨rfl,hc⟩
 ·replace hF := condF hb hF
  clear hb
  refine wp_seq_k fun K5 h5 => cReg ?_
  refine stP hf rfl rfl rfl (pM rfl) fun a hf => ?_
  obtain ⟨r,hr,hF⟩ := bnd_some hF
  refine stE hf hc rfl rfl rfl (eC (v := .bool r) (vs := [.slice claims_p claims.length claims_c,.func (.func 121) #[] #[]]) (caps := []) en_80 rfl rfl rfl rfl (fun w hc => share_every_int_s2_ok claims h_claims hc hr)) fun a w hf hc => stP hf rfl rfl rfl (pNot rfl) fun a hf => stP hf rfl rfl rfl (pA rfl) fun a hf => cNil ?_
  refine h5 _ _ ?_
  refine cCond (b := (!r)) hf rfl (fun hb => ?_) (fun hb => ?_)
  ·replace hF := condT hb hF
   clear hb
   refine wp_seq_k fun K6 h6 => cReg ?_
   refine stP hf rfl rfl rfl (pA rfl) fun a hf => cNil ?_
   refine h6 _ _ ?_
   refine wp_ret ?_
   refine xBlkR ?_
   refine xThenR ?_
   obtain rfl := Option.some.inj hF
   exact fnOut1 (by simp) rfl Try.results81 hf hc (show look _ 2 = _ from rfl) ⟨rfl,hc⟩
  ·replace hF := condF hb hF
   clear hb
   refine wp_skip ?_
   refine h2 _ _ ?_
   refine wp_seq_k fun K7 h7 => cReg ?_
   refine stP hf rfl rfl rfl (pA rfl) fun a hf => cNil ?_
   refine h7 _ _ ?_
   refine wp_ret ?_
   obtain rfl := Option.some.inj hF
   exact fnOut1 (by simp) rfl Try.results81 hf hc (show look _ 2 = _ from rfl) ⟨rfl,hc⟩

def share_Rule_right (r : Int) : Bool :=
 ((decide (0 ≤ r)) && (decide (r ≤ 2)))
theorem share_Rule_right_ok {G : Pers} {Lf : List Ent} {w : World} (r : Int)   (hc : Ctx G (Lf) w) {res : Bool} (hF : share_Rule_right r = res) : Calls Try.prog 82 #[.int .i64 r] w (fun e w => e = .returned (.bool res) ∧ Ctx G (Lf) w) := by
 unfold share_Rule_right at hF
 refine fnIn (args := [.int .i64 r]) Try.func82 rfl Try.ntmps82 rfl fun a hf => wp_seq_k fun K1 h1 => cReg ?_
 refine stP hf rfl rfl rfl (pA rfl) fun a hf => cNil ?_
 refine h1 _ _ ?_
 refine wp_seq_k fun K2 h2 => cReg ?_
 refine stP hf rfl rfl rfl (pM rfl) fun a hf => stP hf rfl rfl rfl (pGe rfl rfl) fun a hf => stP hf rfl rfl rfl (pM rfl) fun a hf => stCut 3 (fun a w => Has 9 a [(0,.int .i64 r),(2,.bool false),(3,.int .i64 r),(4,.bool (decide (0 ≤ r))),(5,.bool (decide (0 ≤ r))),(8,.bool ((decide (0 ≤ r)) && (decide (r ≤ 2))))] ∧ Ctx G (Lf) w) ?_ ?_
 ·cases hb : (decide (0 ≤ r))
  ·rw [hb] at hf
   refine stS hf rfl rfl rfl fun a hf => stS hf rfl rfl rfl fun a hf => stP hf rfl rfl rfl (pPf rfl rfl) fun a hf => cNil ⟨hf.keep ⟨rfl,rfl,rfl,rfl,rfl,rfl,trivial⟩,hc⟩
  ·rw [hb] at hf
   refine stP hf rfl rfl rfl (pM rfl) fun a hf => stP hf rfl rfl rfl (pLe rfl rfl) fun a hf => stP hf rfl rfl rfl (pPt rfl rfl) fun a hf => cNil ⟨hf.keep ⟨rfl,rfl,rfl,rfl,rfl,rfl,trivial⟩,hc⟩
 intro a w ⟨hf,hc⟩
 refine stP hf rfl rfl rfl (pA rfl) fun a hf => cNil ?_
 refine h2 _ _ ?_
 refine wp_ret ?_
 obtain rfl := hF
 exact fnOut1 (by simp) rfl Try.results82 hf hc (show look _ 2 = _ from rfl) ⟨rfl,hc⟩

def share_Rule_day (N : Nat) (r : Int) (claim : Int) (n : Int) : Option (share_quotient) :=
 cond (r == 0)
 (some (⟨W (2 * claim),W (2 * n)⟩ : share_quotient))
 (cond (r == 1)
 (some (⟨W (2 * claim),W ((W (2 * n)) - 1)⟩ : share_quotient))
 (some (⟨W (2 * claim),W ((W (2 * n)) - 2)⟩ : share_quotient)))
theorem share_Rule_day_ok {N : Nat} {G : Pers} {Lf : List Ent} {w : World} (r : Int) (claim : Int) (n : Int)   (hc : Ctx G (Lf) w) {res : share_quotient} (hF : share_Rule_day N r claim n = some res) : Calls Try.prog 83 #[.int .i64 r,.int .i64 claim,.int .i64 n] w (fun e w => e = .returned (.agg #[.int .i64 res.claim,.int .i64 res.by_]) ∧ Ctx G (Lf) w) := by
 unfold share_Rule_day at hF
 refine fnIn (args := [.int .i64 r,.int .i64 claim,.int .i64 n]) Try.func83 rfl Try.ntmps83 rfl fun a hf => wp_seq_k fun K1 h1 => cReg ?_
 refine stAl (cs := [.int .i64 0,.int .i64 0]) hf hc rfl rfl zr_165 rfl fun b_1 a w hf hc => cNil ?_
 refine h1 _ _ ?_
 refine wp_seq_k fun K2 h2 => wp_seq_k fun K3 h3 => cReg ?_
 refine stP hf rfl rfl rfl (pM rfl) fun a hf => cNil ?_
 refine h3 _ _ ?_
 refine wp_block ?_
 refine wp_seq_k fun K4 h4 => cReg ?_
 refine stP hf rfl rfl rfl (pEq rfl rfl) fun a hf => stP hf rfl rfl rfl (pA rfl) fun a hf => cNil ?_
 refine h4 _ _ ?_
 refine cCond (b := (r == 0)) hf rfl (fun hb => ?_) (fun hb => ?_)
 ·replace hF := condT hb hF
  clear hb
  refine wp_seq_k fun K5 h5 => cReg ?_
  refine stP hf rfl rfl rfl (pM rfl) fun a hf => stP hf rfl rfl rfl (pMul rfl rfl) fun a hf => stP hf rfl rfl rfl (pM rfl) fun a hf => stP hf rfl rfl rfl (pMul rfl rfl) fun a hf => stP hf rfl rfl rfl (pBuildS (cells := [.int .i64 (W (2 * claim)),.int .i64 (W (2 * n))]) bt_165 rfl rfl) fun a hf => stSt (vs := [.int .i64 (W (2 * claim)),.int .i64 (W (2 * n))]) hf hc rfl rfl rfl rfl sz_165 rfl rfl u0 fun w hc => cNil ?_
  refine h5 _ _ ?_
  refine wp_ret ?_
  refine xBlkR ?_
  refine xThenR ?_
  obtain rfl := Option.some.inj hF
  exact fnOut1 (by simp) rfl Try.results83 hf hc (rv_cellN (vs := [.int .i64 (W (2 * claim)),.int .i64 (W (2 * n))]) ag_165 rfl rfl (cells_box (n := 2) m0 rfl)) ⟨rfl,(hc.drop k0)⟩
 ·replace hF := condF hb hF
  clear hb
  refine wp_seq_k fun K6 h6 => cReg ?_
  refine stP hf rfl rfl rfl (pEq rfl rfl) fun a hf => stP hf rfl rfl rfl (pA rfl) fun a hf => cNil ?_
  refine h6 _ _ ?_
  refine cCond (b := (r == 1)) hf rfl (fun hb => ?_) (fun hb => ?_)
  ·replace hF := condT hb hF
   clear hb
   refine wp_seq_k fun K7 h7 => cReg ?_
   refine stP hf rfl rfl rfl (pM rfl) fun a hf => stP hf rfl rfl rfl (pMul rfl rfl) fun a hf => stP hf rfl rfl rfl (pM rfl) fun a hf => stP hf rfl rfl rfl (pMul rfl rfl) fun a hf => stP hf rfl rfl rfl (pSub rfl rfl) fun a hf => stP hf rfl rfl rfl (pBuildS (cells := [.int .i64 (W (2 * claim)),.int .i64 (W ((W (2 * n)) - 1))]) bt_165 rfl rfl) fun a hf => stSt (vs := [.int .i64 (W (2 * claim)),.int .i64 (W ((W (2 * n)) - 1))]) hf hc rfl rfl rfl rfl sz_165 rfl rfl u0 fun w hc => cNil ?_
   refine h7 _ _ ?_
   refine wp_ret ?_
   refine xBlkR ?_
   refine xThenR ?_
   obtain rfl := Option.some.inj hF
   exact fnOut1 (by simp) rfl Try.results83 hf hc (rv_cellN (vs := [.int .i64 (W (2 * claim)),.int .i64 (W ((W (2 * n)) - 1))]) ag_165 rfl rfl (cells_box (n := 2) m0 rfl)) ⟨rfl,(hc.drop k0)⟩
  ·replace hF := condF hb hF
   clear hb
   refine wp_skip ?_
   refine h2 _ _ ?_
   refine wp_seq_k fun K8 h8 => cReg ?_
   refine stP hf rfl rfl rfl (pM rfl) fun a hf => stP hf rfl rfl rfl (pMul rfl rfl) fun a hf => stP hf rfl rfl rfl (pM rfl) fun a hf => stP hf rfl rfl rfl (pMul rfl rfl) fun a hf => stP hf rfl rfl rfl (pSub rfl rfl) fun a hf => stP hf rfl rfl rfl (pBuildS (cells := [.int .i64 (W (2 * claim)),.int .i64 (W ((W (2 * n)) - 2))]) bt_165 rfl rfl) fun a hf => stSt (vs := [.int .i64 (W (2 * claim)),.int .i64 (W ((W (2 * n)) - 2))]) hf hc rfl rfl rfl rfl sz_165 rfl rfl u0 fun w hc => cNil ?_
   refine h8 _ _ ?_
   refine wp_ret ?_
   obtain rfl := Option.some.inj hF
   exact fnOut1 (by simp) rfl Try.results83 hf hc (rv_cellN (vs := [.int .i64 (W (2 * claim)),.int .i64 (W ((W (2 * n)) - 2))]) ag_165 rfl rfl (cells_box (n := 2) m0 rfl)) ⟨rfl,(hc.drop k0)⟩

def share_quotient_more (q : share_quotient) (r : share_quotient) : Bool :=
 (decide ((W (r.claim * q.by_)) < (W (q.claim * r.by_))))
theorem share_quotient_more_ok {G : Pers} {Lf : List Ent} {w : World} (q : share_quotient) (r : share_quotient)   (hc : Ctx G (Lf) w) {res : Bool} (hF : share_quotient_more q r = res) : Calls Try.prog 84 #[.agg #[.int .i64 q.claim,.int .i64 q.by_],.agg #[.int .i64 r.claim,.int .i64 r.by_]] w (fun e w => e = .returned (.bool res) ∧ Ctx G (Lf) w) := by
 unfold share_quotient_more at hF
 refine fnIn (args := [.agg #[.int .i64 q.claim,.int .i64 q.by_],.agg #[.int .i64 r.claim,.int .i64 r.by_]]) Try.func84 rfl Try.ntmps84 rfl fun a hf => wp_seq_k fun K1 h1 => cReg ?_
 refine stBx (cs := [.int .i64 q.claim,.int .i64 q.by_]) hf hc rfl rfl rfl rfl fun b_1 a w hf hc => stBx (cs := [.int .i64 r.claim,.int .i64 r.by_]) hf hc rfl rfl rfl rfl fun b_2 a w hf hc => stP hf rfl rfl rfl (pA rfl) fun a hf => cNil ?_
 refine h1 _ _ ?_
 refine wp_seq_k fun K2 h2 => cReg ?_
 refine stP hf rfl rfl rfl (pFA fa_165_0 rfl) fun a hf => stE hf hc rfl rfl rfl (eLd1 sc_3 rfl (cell_box m1 rfl)) fun a w hf hc => stP hf rfl rfl rfl (pFA fa_165_1 rfl) fun a hf => stE hf hc rfl rfl rfl (eLd1 sc_3 rfl (cell_box m0 rfl)) fun a w hf hc => stP hf rfl rfl rfl (pMul rfl rfl) fun a hf => stP hf rfl rfl rfl (pFA fa_165_0 rfl) fun a hf => stE hf hc rfl rfl rfl (eLd1 sc_3 rfl (cell_box m0 rfl)) fun a w hf hc => stP hf rfl rfl rfl (pFA fa_165_1 rfl) fun a hf => stE hf hc rfl rfl rfl (eLd1 sc_3 rfl (cell_box m1 rfl)) fun a w hf hc => stP hf rfl rfl rfl (pMul rfl rfl) fun a hf => stP hf rfl rfl rfl (pGt rfl rfl) fun a hf => stP hf rfl rfl rfl (pA rfl) fun a hf => cNil ?_
 refine h2 _ _ ?_
 refine wp_ret ?_
 obtain rfl := hF
 replace hc := hc.drop k1
 replace hc := hc.drop k0
 exact fnOut1 (by simp) rfl Try.results84 hf hc (show look _ 4 = _ from rfl) ⟨rfl,hc⟩

def share_Turns_j26 (N : Nat) (x_1 : Int) (who_1 : Int) (x_4 : Int) (x_5 : Int) : Option (Step (Int × Int × Int × Int) (Step ((List Int) × Int) ((List Int) × Int))) :=
 some (.cont (who_1,W (x_1 + 1),x_4,x_5))
def share_Turns_b23 (N : Nat) (claims : List Int) (rule : Int) (out : List Int) (who : Int) (x_1 : Int) (x_2 : Int) (x_3 : Int) : Option (Step (Int × Int × Int × Int) (Step ((List Int) × Int) ((List Int) × Int))) :=
 cond (decide (x_1 < ((claims.length : Nat) : Int)))
 (Option.bind (getI claims x_1) fun e_5 =>
 Option.bind (getI out x_1) fun e_6 =>
 Option.bind (share_Rule_day N rule e_5 (W (e_6 + 1))) fun r_2 =>
 cond ((!(r_2.claim == x_2 && r_2.by_ == x_3)) && (share_quotient_more r_2 (⟨x_2,x_3⟩ : share_quotient)))
 (share_Turns_j26 N x_1 x_1 r_2.claim r_2.by_)
 (share_Turns_j26 N x_1 who x_2 x_3))
 (some (.brk (who,x_1,x_2,x_3)))
def share_Turns_b15 (N : Nat) (claims : List Int) (days : Int) (rule : Int) (out : List Int) (x : Int) : Option (Step ((List Int) × Int) ((List Int) × Int)) :=
 cond (decide (x < days))
 (Option.bind (getI claims 0) fun e_1 =>
 Option.bind (getI out 0) fun e_2 =>
 Option.bind (share_Rule_day N rule e_1 (W (e_2 + 1))) fun r_1 =>
 Option.bind (loopO (fun s23 => share_Turns_b23 N claims rule out s23.1 s23.2.1 s23.2.2.1 s23.2.2.2) N (0,0,r_1.claim,r_1.by_)) fun x23 =>
 exK x23 (fun s23 => Option.bind (getI out s23.1) fun e_3 =>
 Option.bind (getI out s23.1) fun e_4 =>
 some (.cont ((out.set s23.1.toNat (W (e_3 + 1))),W (x + 1)))) some)
 (some (.brk (out,x)))
def share_Turns (N : Nat) (claims : List Int) (days : Int) (rule : Int) : Option ((List Int) × Int) :=
 Option.bind (share_claimed N claims) fun r =>
 cond (r != 0)
 (some (([] : List Int),r))
 (cond (!(share_in days 1 366))
 (some (([] : List Int),4))
 (cond (!(share_Rule_right rule))
 (some (([] : List Int),2))
 (cond ((rule == 2) && (decide (days < ((claims.length : Nat) : Int))))
 (some (([] : List Int),6))
 (Option.bind (inM ((claims.length : Nat) : Int)) fun un =>
 Option.bind (loopO (fun s15 => share_Turns_b15 N claims days rule s15.1 s15.2) N ((List.replicate ((claims.length : Nat) : Int).toNat (0 : Int)),0)) fun x15 =>
 exK x15 (fun s15 => some (s15.1,0)) some))))
theorem share_Turns_ok {N : Nat} {G : Pers} {Lf : List Ent} {w : World} (claims : List Int) (days : Int) (rule : Int) {claims_p : Option Addr} {claims_c : Nat} (h_claims : Rd G 1 claims_p claims_c (claims.map encI_i64)) (hc : Ctx G (Lf) w) {res : (List Int) × Int} (hF : share_Turns N claims days rule = some res) : Calls Try.prog 34 #[.slice claims_p claims.length claims_c,.int .i64 days,.int .i64 rule] w (fun e w => ∃ (p'1 : Option Addr) (c'1 : Nat),e = .returned (.tuple #[.slice p'1 res.1.length c'1,.int .i64 res.2]) ∧ Ctx G (.row p'1 c'1 (res.1.map encI_i64) 3 1::Lf) w) := by
 unfold share_Turns at hF
 refine fnIn (args := [.slice claims_p claims.length claims_c,.int .i64 days,.int .i64 rule]) Try.func34 rfl Try.ntmps34 rfl fun a hf => wp_seq_k fun K1 h1 => cReg ?_
 refine stP hf rfl rfl rfl (pA rfl) fun a hf => stP hf rfl rfl rfl (pA rfl) fun a hf => cNil ?_
 refine h1 _ _ ?_
 refine wp_seq_k fun K2 h2 => cReg ?_
 refine stP hf rfl rfl rfl (pM rfl) fun a hf => ?_
 obtain ⟨r,hr,hF⟩ := bnd_some hF
 refine stE hf hc rfl rfl rfl (eC (v := .int .i64 r) (vs := [.slice claims_p claims.length claims_c]) (caps := []) en_81 rfl rfl rfl rfl (fun w hc => share_claimed_ok claims h_claims hc hr)) fun a w hf hc => stP hf rfl rfl rfl (pA rfl) fun a hf => cNil ?_
 refine h2 _ _ ?_
 refine wp_seq_k fun K3 h3 => wp_block ?_
 refine wp_seq_k fun K4 h4 => cReg ?_
 refine stP hf rfl rfl rfl (pM rfl) fun a hf => stP hf rfl rfl rfl (pNe rfl rfl) fun a hf => stP hf rfl rfl rfl (pA rfl) fun a hf => cNil ?_
 refine h4 _ _ ?_
 refine cCond (b := (r != 0)) hf rfl (fun hb => ?_) (fun hb => ?_)
 ·replace hF := condT hb hF
  clear hb
  refine wp_seq_k fun K5 h5 => cReg ?_
  refine stP hf rfl rfl rfl (pM rfl) fun a hf => stP hf rfl rfl rfl (pA rfl) fun a hf => stP hf rfl rfl rfl (pA rfl) fun a hf => cNil ?_
  refine h5 _ _ ?_
  refine wp_ret ?_
  refine xBlkR ?_
  refine xThenR ?_
  obtain rfl := Option.some.inj hF
  replace hc := hc.nilRow 3 1
  exact fnOut2 (by simp) rfl Try.results34 hf hc (show look _ 6 = _ from rfl) (show look _ 7 = _ from rfl) ⟨none,0,rfl,hc⟩
 ·replace hF := condF hb hF
  clear hb
  refine wp_seq_k fun K6 h6 => cReg ?_
  refine stP hf rfl rfl rfl (pM rfl) fun a hf => stE hf hc rfl rfl rfl (eC (v := .bool (share_in days 1 366)) (vs := [.int .i64 days,.int .i64 1,.int .i64 366]) (caps := []) en_70 rfl rfl rfl rfl (fun w hc => share_in_ok days 1 366 hc rfl)) fun a w hf hc => stP hf rfl rfl rfl (pNot rfl) fun a hf => stP hf rfl rfl rfl (pA rfl) fun a hf => cNil ?_
  refine h6 _ _ ?_
  refine cCond (b := (!(share_in days 1 366))) hf rfl (fun hb => ?_) (fun hb => ?_)
  ·replace hF := condT hb hF
   clear hb
   refine wp_seq_k fun K7 h7 => cReg ?_
   refine stP hf rfl rfl rfl (pA rfl) fun a hf => stP hf rfl rfl rfl (pA rfl) fun a hf => cNil ?_
   refine h7 _ _ ?_
   refine wp_ret ?_
   refine xBlkR ?_
   refine xThenR ?_
   obtain rfl := Option.some.inj hF
   replace hc := hc.nilRow 3 1
   exact fnOut2 (by simp) rfl Try.results34 hf hc (show look _ 6 = _ from rfl) (show look _ 7 = _ from rfl) ⟨none,0,rfl,hc⟩
  ·replace hF := condF hb hF
   clear hb
   refine wp_seq_k fun K8 h8 => cReg ?_
   refine stP hf rfl rfl rfl (pM rfl) fun a hf => stE hf hc rfl rfl rfl (eC (v := .bool (share_Rule_right rule)) (vs := [.int .i64 rule]) (caps := []) en_82 rfl rfl rfl rfl (fun w hc => share_Rule_right_ok rule hc rfl)) fun a w hf hc => stP hf rfl rfl rfl (pNot rfl) fun a hf => stP hf rfl rfl rfl (pA rfl) fun a hf => cNil ?_
   refine h8 _ _ ?_
   refine cCond (b := (!(share_Rule_right rule))) hf rfl (fun hb => ?_) (fun hb => ?_)
   ·replace hF := condT hb hF
    clear hb
    refine wp_seq_k fun K9 h9 => cReg ?_
    refine stP hf rfl rfl rfl (pA rfl) fun a hf => stP hf rfl rfl rfl (pA rfl) fun a hf => cNil ?_
    refine h9 _ _ ?_
    refine wp_ret ?_
    refine xBlkR ?_
    refine xThenR ?_
    obtain rfl := Option.some.inj hF
    replace hc := hc.nilRow 3 1
    exact fnOut2 (by simp) rfl Try.results34 hf hc (show look _ 6 = _ from rfl) (show look _ 7 = _ from rfl) ⟨none,0,rfl,hc⟩
   ·replace hF := condF hb hF
    clear hb
    refine wp_seq_k fun K10 h10 => cReg ?_
    refine stP hf rfl rfl rfl (pM rfl) fun a hf => stP hf rfl rfl rfl (pEq rfl rfl) fun a hf => stP hf rfl rfl rfl (pM rfl) fun a hf => stCut 5 (fun a w => Has 87 a [(0,.slice claims_p claims.length claims_c),(1,.int .i64 days),(2,.int .i64 rule),(30,.int .i64 rule),(31,.bool (rule == 2)),(32,.bool (rule == 2)),(37,.bool ((rule == 2) && (decide (days < ((claims.length : Nat) : Int)))))] ∧ Ctx G (Lf) w) ?_ ?_
    ·cases hb : (rule == 2)
     ·rw [hb] at hf
      refine stS hf rfl rfl rfl fun a hf => stS hf rfl rfl rfl fun a hf => stS hf rfl rfl rfl fun a hf => stS hf rfl rfl rfl fun a hf => stP hf rfl rfl rfl (pPf rfl rfl) fun a hf => cNil ⟨hf.keep ⟨rfl,rfl,rfl,rfl,rfl,rfl,rfl,trivial⟩,hc⟩
     ·rw [hb] at hf
      refine stP hf rfl rfl rfl (pM rfl) fun a hf => stP hf rfl rfl rfl (pM rfl) fun a hf => stP hf rfl rfl rfl (pLenS Try.underlying36 rfl) fun a hf => stP hf rfl rfl rfl (pLt rfl rfl) fun a hf => stP hf rfl rfl rfl (pPt rfl rfl) fun a hf => cNil ⟨hf.keep ⟨rfl,rfl,rfl,rfl,rfl,rfl,rfl,trivial⟩,hc⟩
    intro a w ⟨hf,hc⟩
    refine stP hf rfl rfl rfl (pA rfl) fun a hf => cNil ?_
    refine h10 _ _ ?_
    refine cCond (b := ((rule == 2) && (decide (days < ((claims.length : Nat) : Int))))) hf rfl (fun hb => ?_) (fun hb => ?_)
    ·replace hF := condT hb hF
     clear hb
     refine wp_seq_k fun K11 h11 => cReg ?_
     refine stP hf rfl rfl rfl (pA rfl) fun a hf => stP hf rfl rfl rfl (pA rfl) fun a hf => cNil ?_
     refine h11 _ _ ?_
     refine wp_ret ?_
     refine xBlkR ?_
     refine xThenR ?_
     obtain rfl := Option.some.inj hF
     replace hc := hc.nilRow 3 1
     exact fnOut2 (by simp) rfl Try.results34 hf hc (show look _ 6 = _ from rfl) (show look _ 7 = _ from rfl) ⟨none,0,rfl,hc⟩
    ·replace hF := condF hb hF
     clear hb
     refine wp_skip ?_
     refine h3 _ _ ?_
     refine wp_seq_k fun K12 h12 => cReg ?_
     refine stP hf rfl rfl rfl (pM rfl) fun a hf => stP hf rfl rfl rfl (pLenS Try.underlying36 rfl) fun a hf => ?_
     obtain ⟨un,hun,hF⟩ := bnd_some hF
     refine stMk (m := (List.replicate ((claims.length : Nat) : Int).toNat (0 : Int)).length) (rows := (List.replicate ((claims.length : Nat) : Int).toNat (0 : Int)).map encI_i64) hf hc rfl rfl sl_36 rfl rfl (inM_spec hun) rfl rfl (by simp [List.map_replicate,Value.cells]) (by simp) fun b_1 a w hf hc => stP hf rfl rfl rfl (pA rfl) fun a hf => cNil ?_
     refine h12 _ _ ?_
     refine wp_seq_k fun K13 h13 => wp_seq_k fun K14 h14 => cReg ?_
     refine stP hf rfl rfl rfl (pM rfl) fun a hf => stP hf rfl rfl rfl (pM rfl) fun a hf => cNil ?_
     refine h14 _ _ ?_
     refine wp_block ?_
     obtain ⟨x15,hx15,hF⟩ := bnd_some hF
     let S15 : ((List Int) × Int) → Act → World → Prop := (fun (zz : (List Int) × Int) a w => ∃ (p_1 : Option Addr) (c_1 : Nat),Has 87 a [(0,.slice claims_p claims.length claims_c),(2,.int .i64 rule),(9,.slice p_1 zz.1.length c_1),(41,.int .i64 days),(42,.int .i64 zz.2)] ∧ Ctx G (.row p_1 c_1 (zz.1.map encI_i64) 3 1::Lf) w)
     have hr15 : ∀ (zz : (List Int) × Int) a w,x15 = .go zz → S15 zz a w → K13 a w := by
      rintro ⟨out,x⟩ a w rfl ⟨p_1,c_1,hf,hc⟩
      replace hF := exK_go hF
      refine h13 _ _ ?_
      refine wp_seq_k fun K16 h16 => cReg ?_
      refine stP hf rfl rfl rfl (pM rfl) fun a hf => stP hf rfl rfl rfl (pA rfl) fun a hf => stP hf rfl rfl rfl (pA rfl) fun a hf => cNil ?_
      refine h16 _ _ ?_
      refine wp_ret ?_
      obtain rfl := Option.some.inj hF
      exact fnOut2 (by simp) rfl Try.results34 hf hc (show look _ 6 = _ from rfl) (show look _ 7 = _ from rfl) ⟨p_1,c_1,rfl,hc⟩
     have ho15 : ∀ r,x15 = .out r → r = res := by
      rintro r rfl
      exact Option.some.inj hF
     refine cLoop N (loopW (S := S15) (x := x15) ?_ N ((List.replicate ((claims.length : Nat) : Int).toNat (0 : Int)),0) _ _ ⟨(some ⟨b_1,0,none⟩),((claims.length : Nat) : Int).toNat,hf.keep ⟨rfl,rfl,rfl,rfl,rfl,trivial⟩,hc⟩ hx15)
     clear hF hf hc
     rintro ⟨out,x⟩ st15 a w KB15 ⟨p_1,c_1,hf,hc⟩ hF hfin15 hK15
     unfold share_Turns_b15 at hF
     refine wp_seq_k fun K17 h17 => cReg ?_
     refine stP hf rfl rfl rfl (pLt rfl rfl) fun a hf => cNil ?_
     refine h17 _ _ ?_
     refine wp_seq_k fun K18 h18 => cCond (b := (decide (x < days))) hf rfl (fun hb => ?_) (fun hb => ?_)
     ·replace hF := condT hb hF
      clear hb
      refine wp_skip ?_
      refine h18 _ _ ?_
      refine wp_seq_k fun K19 h19 => wp_block ?_
      refine wp_seq_k fun K20 h20 => ?_
      obtain ⟨e_1,he_1,hF⟩ := bnd_some hF
      obtain ⟨b_2,o,qa,qp⟩ := h_claims.atm he_1
      obtain ⟨e_2,he_2,hF⟩ := bnd_some hF
      obtain ⟨g,rfl,qa_1,qr⟩ := row_atm hc m0 he_2
      obtain ⟨r_1,hr_1,hF⟩ := bnd_some hF
      replace hc := hc.nilRow 0 0
      refine regionE (fun θ => [⟨none,none,0,.slice claims_p claims.length claims_c⟩,⟨none,none,2,.int .i64 rule⟩,⟨none,none,9,.slice (some ⟨g,0,none⟩) out.length c_1⟩,⟨none,none,41,.int .i64 days⟩,⟨none,none,42,.int .i64 x⟩,⟨some 0,none,44,.int .i64 rule⟩,⟨some 1,none,45,.slice claims_p claims.length claims_c⟩,⟨some 2,none,46,.pointer (some ⟨b_2,o,none⟩)⟩,⟨some 3,none,47,.int .i64 e_1⟩,⟨some 4,none,48,.slice (some ⟨g,0,none⟩) out.length c_1⟩,⟨some 5,none,49,.pointer (some ⟨g,(0 : Int).toNat * 1,none⟩)⟩,⟨some 6,none,50,.int .i64 e_2⟩,⟨some 7,none,51,.int .i64 (W (e_2 + 1))⟩,⟨some 8,none,52,.agg #[.int .i64 r_1.claim,.int .i64 r_1.by_]⟩,⟨some 9,none,11,.pointer (some ⟨(θ 72).b,0,none⟩)⟩,⟨some 10,none,10,.int .i64 0⟩]) (fun E θ => (bif E 11 then .box (θ 72).b [.int .i64 r_1.claim,.int .i64 r_1.by_] 165 else bif E 9 then .box (θ 72).b [.int .i64 0,.int .i64 0] 165 else .row none 0 [] 0 0)::.row (some ⟨g,0,none⟩) c_1 (out.map encI_i64) 3 1::Lf) [(11,9)] (fun a w => ∃ (b_4 : Nat),Has 87 a [(0,.slice claims_p claims.length claims_c),(2,.int .i64 rule),(9,.slice (some ⟨g,0,none⟩) out.length c_1),(41,.int .i64 days),(42,.int .i64 x),(11,.pointer (some ⟨b_4,0,none⟩)),(10,.int .i64 0)] ∧ Ctx G (.box b_4 [.int .i64 r_1.claim,.int .i64 r_1.by_] 165::.row (some ⟨g,0,none⟩) c_1 (out.map encI_i64) 3 1::Lf) w) follows_mx (by kernel_rfl) (by kernel_rfl) (HasE.of hf ⟨rfl,rfl,rfl,rfl,rfl,trivial,trivial,trivial,trivial,trivial,trivial,trivial,trivial,trivial,trivial,trivial,trivial⟩) hc ⟨?_,?_,?_,?_,?_,?_,?_,?_,?_,?_,?_,?_,trivial⟩ ?_ ?_
      ·intro E θ a w hD hi hp he hc
       have hf := he.h0
       replace hf := hf.more he 1 rfl onT
       refine stP hf rfl rfl rfl (pM rfl) fun a hf => cNil ?_
       refine xThenN ?_
       intro ds u hau
       refine ⟨θ,he.put0 hi hau hf rfl 5 rfl rfl,?_⟩
       exact hc
      ·intro E θ a w hD hi hp he hc
       have hf := he.h0
       replace hf := hf.more he 0 rfl onT
       refine stP hf rfl rfl rfl (pM rfl) fun a hf => cNil ?_
       refine xThenN ?_
       intro ds u hau
       refine ⟨θ,he.put0 hi hau hf rfl 6 rfl rfl,?_⟩
       exact hc
      ·intro E θ a w hD hi hp he hc
       have e1 := hp.of (k := 1) rfl
       have hf := he.h0
       replace hf := hf.more he 6 rfl (onP e1)
       refine stP hf rfl rfl rfl (pIA Try.underlying36 sz_3 rfl rfl qa) fun a hf => cNil ?_
       refine xThenN ?_
       intro ds u hau
       refine ⟨θ,he.put0 hi hau hf rfl 7 rfl rfl,?_⟩
       exact hc
      ·intro E θ a w hD hi hp he hc
       have e2 := hp.of (k := 2) rfl
       have hf := he.h0
       replace hf := hf.more he 7 rfl (onP e2)
       refine stE hf hc rfl rfl rfl (eLd1 sc_3 rfl (cell_pc (j := 0) qp rfl)) fun a w hf hc => cNil ?_
       refine xThenN ?_
       intro ds u hau
       refine ⟨θ,he.put0 hi hau hf rfl 8 rfl rfl,?_⟩
       exact hc
      ·intro E θ a w hD hi hp he hc
       have hf := he.h0
       replace hf := hf.more he 2 rfl onT
       refine stP hf rfl rfl rfl (pM rfl) fun a hf => cNil ?_
       refine xThenN ?_
       intro ds u hau
       refine ⟨θ,he.put0 hi hau hf rfl 9 rfl rfl,?_⟩
       exact hc
      ·intro E θ a w hD hi hp he hc
       have e4 := hp.of (k := 4) rfl
       have hf := he.h0
       replace hf := hf.more he 9 rfl (onP e4)
       refine stP hf rfl rfl rfl (pIA Try.underlying36 sz_3 rfl rfl qa_1) fun a hf => cNil ?_
       refine xThenN ?_
       intro ds u hau
       refine ⟨θ,he.put0 hi hau hf rfl 10 rfl rfl,?_⟩
       exact hc
      ·intro E θ a w hD hi hp he hc
       have e5 := hp.of (k := 5) rfl
       have hf := he.h0
       replace hf := hf.more he 10 rfl (onP e5)
       refine stE hf hc rfl rfl rfl (eLd1 sc_3 rfl (cell_row (sz := 1) (i := (0 : Int).toNat) (j := 0) m1 qr rfl)) fun a w hf hc => cNil ?_
       refine xThenN ?_
       intro ds u hau
       refine ⟨θ,he.put0 hi hau hf rfl 11 rfl rfl,?_⟩
       exact hc
      ·intro E θ a w hD hi hp he hc
       have e6 := hp.of (k := 6) rfl
       have hf := he.h0
       replace hf := hf.more he 11 rfl (onP e6)
       refine stP hf rfl rfl rfl (pAdd rfl rfl) fun a hf => cNil ?_
       refine xThenN ?_
       intro ds u hau
       refine ⟨θ,he.put0 hi hau hf rfl 12 rfl rfl,?_⟩
       exact hc
      ·intro E θ a w hD hi hp he hc
       have e0 := hp.of (k := 0) rfl
       have e3 := hp.of (k := 3) rfl
       have e7 := hp.of (k := 7) rfl
       have hf := he.h0
       replace hf := hf.more he 5 rfl (onP e0)
       replace hf := hf.more he 8 rfl (onP e3)
       replace hf := hf.more he 12 rfl (onP e7)
       refine stE hf hc rfl rfl rfl (eC (v := .agg #[.int .i64 r_1.claim,.int .i64 r_1.by_]) (vs := [.int .i64 rule,.int .i64 e_1,.int .i64 (W (e_2 + 1))]) (caps := []) en_83 rfl rfl rfl rfl (fun w hc => share_Rule_day_ok rule e_1 (W (e_2 + 1)) hc hr_1)) fun a w hf hc => cNil ?_
       refine xThenN ?_
       intro ds u hau
       refine ⟨θ,he.put0 hi hau hf rfl 13 rfl rfl,?_⟩
       exact hc
      ·intro E θ a w hD hi hp he hc
       have e11 := hD.f 0 rfl hi
       try dsimp only at hc
       rw [hi,e11] at hc
       have hf := he.h0
       refine stAl (cs := [.int .i64 0,.int .i64 0]) hf hc rfl rfl zr_165 rfl fun b_3 a w hf hc => cNil ?_
       refine xThenN ?_
       intro ds u hau
       replace hc := hc.drop k1
       refine ⟨(setT θ 72 ⟨b_3,none,0,(fun _ => (none,0))⟩),he.put hi hau hf rfl [] trivial ⟨qq,qq,qq,qq,qq,qq,qq,qq,qq,qq,qq,qq,qq,qq,qq,qq,trivial⟩,?_⟩
       try dsimp only
       rw [updE_self E 9,updE_fls 9 e11 rfl]
       exact hc
      ·intro E θ a w hD hi hp he hc
       have hf := he.h0
       refine stP hf rfl rfl rfl (pA rfl) fun a hf => cNil ?_
       refine xThenN ?_
       intro ds u hau
       refine ⟨θ,he.put0 hi hau hf rfl 15 rfl rfl,?_⟩
       exact hc
      ·intro E θ a w hD hi hp he hc
       have e8 := hp.of (k := 8) rfl
       have e9 := hp.of (k := 9) rfl
       try dsimp only at hc
       rw [e9,hi] at hc
       have hf := he.h0
       replace hf := hf.more he 13 rfl (onP e8)
       replace hf := hf.more he 14 rfl (onP e9)
       refine stSt (vs := [.int .i64 r_1.claim,.int .i64 r_1.by_]) hf hc rfl rfl rfl rfl sz_165 rfl rfl u0 fun w hc => cNil ?_
       refine xThenN ?_
       intro ds u hau
       refine ⟨θ,he.stay0 hi hau hf rfl,?_⟩
       try dsimp only
       rw [updE_tru 11 e9,updE_self E 11]
       exact hc
      ·intro E θ a w hall he hc
       have hf := he.h0
       have e9 := hall 9 rfl
       have e10 := hall 10 rfl
       have e11 := hall 11 rfl
       replace hf := hf.more he 15 rfl (onP e10)
       replace hf := hf.more he 14 rfl (onP e9)
       replace hf := hf.more he 4 rfl (onT)
       replace hf := hf.more he 3 rfl (onT)
       replace hf := hf.more he 2 rfl (onT)
       replace hf := hf.more he 1 rfl (onT)
       replace hf := hf.more he 0 rfl (onT)
       try dsimp only at hc
       rw [e9,e11] at hc
       exact ⟨(θ 72).b,hf.keep ⟨rfl,rfl,rfl,rfl,rfl,rfl,rfl,trivial⟩,hc⟩
      rintro a w ⟨b_4,hf,hc⟩
      refine h20 _ _ ?_
      refine wp_seq_k fun K21 h21 => wp_seq_k fun K22 h22 => cReg ?_
      refine stP hf rfl rfl rfl (pM rfl) fun a hf => stP hf rfl rfl rfl (pLenS Try.underlying36 rfl) fun a hf => stP hf rfl rfl rfl (pM rfl) fun a hf => cNil ?_
      refine h22 _ _ ?_
      refine wp_block ?_
      obtain ⟨x23,hx23,hF⟩ := bnd_some hF
      let S23 : (Int × Int × Int × Int) → Act → World → Prop := (fun (zz : Int × Int × Int × Int) a w => Has 87 a [(0,.slice claims_p claims.length claims_c),(2,.int .i64 rule),(9,.slice (some ⟨g,0,none⟩) out.length c_1),(10,.int .i64 zz.1),(11,.pointer (some ⟨b_4,0,none⟩)),(41,.int .i64 days),(42,.int .i64 x),(53,.slice claims_p claims.length claims_c),(54,.int .i64 ((claims.length : Nat) : Int)),(55,.int .i64 zz.2.1)] ∧ Ctx G (.box b_4 [.int .i64 zz.2.2.1,.int .i64 zz.2.2.2] 165::.row (some ⟨g,0,none⟩) c_1 (out.map encI_i64) 3 1::Lf) w)
      have hr23 : ∀ (zz : Int × Int × Int × Int) a w,x23 = .go zz → S23 zz a w → K21 a w := by
       rintro ⟨who,x_1,x_2,x_3⟩ a w rfl ⟨hf,hc⟩
       replace hF := exK_go hF
       refine h21 _ _ ?_
       refine cReg ?_
       refine stP hf rfl rfl rfl (pM rfl) fun a hf => stP hf rfl rfl rfl (pM rfl) fun a hf => ?_
       obtain ⟨e_3,he_3,hF⟩ := bnd_some hF
       obtain ⟨qa_2,qr_1⟩ := row_atk hc m1 he_3
       refine stP hf rfl rfl rfl (pIA Try.underlying36 sz_3 rfl rfl qa_2) fun a hf => stE hf hc rfl rfl rfl (eLd1 sc_3 rfl (cell_row (sz := 1) (i := who.toNat) (j := 0) m1 qr_1 rfl)) fun a w hf hc => stP hf rfl rfl rfl (pAdd rfl rfl) fun a hf => ?_
       obtain ⟨e_4,he_4,hF⟩ := bnd_some hF
       obtain ⟨qa_3,qr_2⟩ := row_atk hc m1 he_4
       refine stP hf rfl rfl rfl (pIA Try.underlying36 sz_3 rfl rfl qa_3) fun a hf => stRw (vs := [.int .i64 (W (e_3 + 1))]) (o' := 0) (z := W (e_3 + 1)) (xs := out) hf hc rfl rfl rfl rfl sz_3 rfl (fun x => (one_encI_i64 x).1) (getI_lt he_4) (fun _ _ => rfl) rfl u1 fun w hc => cNil ?_
       refine h19 _ _ ?_
       refine cReg ?_
       refine stP hf rfl rfl rfl (pAdd rfl rfl) fun a hf => stP hf rfl rfl rfl (pM rfl) fun a hf => cNil ?_
       replace hf := hf.castAt 9 (v' := .slice (some ⟨g,0,none⟩) ((out.set who.toNat (W (e_3 + 1))).length) c_1) rfl (congrArg (fun k => Value.slice (some ⟨g,0,none⟩) k c_1) (by simp))
       replace hc := hc.drop k0
       exact hK15 ((out.set who.toNat (W (e_3 + 1))),W (x + 1)) _ _ (Option.some.inj hF).symm ⟨(some ⟨g,0,none⟩),c_1,hf.keep ⟨rfl,rfl,rfl,rfl,rfl,trivial⟩,hc⟩
      have ho23 : ∀ r,x23 = .out r → r = st15 := by
       rintro r rfl
       exact Option.some.inj hF
      refine cLoop N (loopW (S := S23) (x := x23) ?_ N (0,0,r_1.claim,r_1.by_) _ _ ⟨hf.keep ⟨rfl,rfl,rfl,rfl,rfl,rfl,rfl,rfl,rfl,rfl,trivial⟩,hc⟩ hx23)
      clear hF hf hc
      rintro ⟨who,x_1,x_2,x_3⟩ st23 a w KB23 ⟨hf,hc⟩ hF hfin23 hK23
      unfold share_Turns_b23 at hF
      refine wp_seq_k fun K24 h24 => cReg ?_
      refine stP hf rfl rfl rfl (pLt rfl rfl) fun a hf => cNil ?_
      refine h24 _ _ ?_
      refine wp_seq_k fun K25 h25 => cCond (b := (decide (x_1 < ((claims.length : Nat) : Int)))) hf rfl (fun hb => ?_) (fun hb => ?_)
      ·replace hF := condT hb hF
       clear hb
       refine wp_skip ?_
       refine h25 _ _ ?_
       refine wp_seq_k fun K26 h26 => ?_
       have hj26 : ∀ (who_1 : Int) (x_4 : Int) (x_5 : Int) a w,Has 87 a [(0,.slice claims_p claims.length claims_c),(2,.int .i64 rule),(9,.slice (some ⟨g,0,none⟩) out.length c_1),(10,.int .i64 who_1),(11,.pointer (some ⟨b_4,0,none⟩)),(41,.int .i64 days),(42,.int .i64 x),(53,.slice claims_p claims.length claims_c),(54,.int .i64 ((claims.length : Nat) : Int)),(55,.int .i64 x_1)] → Ctx G (.box b_4 [.int .i64 x_4,.int .i64 x_5] 165::.row (some ⟨g,0,none⟩) c_1 (out.map encI_i64) 3 1::Lf) w → share_Turns_j26 N x_1 who_1 x_4 x_5 = some st23 → K26 a w := by
        repeat (clear hF)
        repeat (clear hc)
        repeat (clear hf)
        intro who_1 x_4 x_5 a w hf hc hF
        unfold share_Turns_j26 at hF
        refine h26 _ _ ?_
        refine cReg ?_
        refine stP hf rfl rfl rfl (pAdd rfl rfl) fun a hf => stP hf rfl rfl rfl (pM rfl) fun a hf => cNil ?_
        exact hK23 (who_1,W (x_1 + 1),x_4,x_5) _ _ (Option.some.inj hF).symm ⟨hf.keep ⟨rfl,rfl,rfl,rfl,rfl,rfl,rfl,rfl,rfl,rfl,trivial⟩,hc⟩
       refine wp_block ?_
       refine wp_seq_k fun K27 h27 => cReg ?_
       refine stP hf rfl rfl rfl (pM rfl) fun a hf => ?_
       obtain ⟨e_5,he_5,hF⟩ := bnd_some hF
       obtain ⟨b_5,o_1,qa_4,qp_1⟩ := h_claims.atm he_5
       refine stP hf rfl rfl rfl (pIA Try.underlying36 sz_3 rfl rfl qa_4) fun a hf => stE hf hc rfl rfl rfl (eLd1 sc_3 rfl (cell_pc (j := 0) qp_1 rfl)) fun a w hf hc => stP hf rfl rfl rfl (pA rfl) fun a hf => stP hf rfl rfl rfl (pA rfl) fun a hf => cNil ?_
       refine h27 _ _ ?_
       refine wp_seq_k fun K28 h28 => cReg ?_
       refine stP hf rfl rfl rfl (pM rfl) fun a hf => stP hf rfl rfl rfl (pM rfl) fun a hf => stP hf rfl rfl rfl (pM rfl) fun a hf => stP hf rfl rfl rfl (pM rfl) fun a hf => ?_
       obtain ⟨e_6,he_6,hF⟩ := bnd_some hF
       obtain ⟨qa_5,qr_3⟩ := row_atk hc m1 he_6
       refine stP hf rfl rfl rfl (pIA Try.underlying36 sz_3 rfl rfl qa_5) fun a hf => stE hf hc rfl rfl rfl (eLd1 sc_3 rfl (cell_row (sz := 1) (i := x_1.toNat) (j := 0) m1 qr_3 rfl)) fun a w hf hc => stP hf rfl rfl rfl (pAdd rfl rfl) fun a hf => ?_
       obtain ⟨r_2,hr_2,hF⟩ := bnd_some hF
       refine stE hf hc rfl rfl rfl (eC (v := .agg #[.int .i64 r_2.claim,.int .i64 r_2.by_]) (vs := [.int .i64 rule,.int .i64 e_5,.int .i64 (W (e_6 + 1))]) (caps := []) en_83 rfl rfl rfl rfl (fun w hc => share_Rule_day_ok rule e_5 (W (e_6 + 1)) hc hr_2)) fun a w hf hc => stAl (cs := [.int .i64 0,.int .i64 0]) hf hc rfl rfl zr_165 rfl fun b_6 a w hf hc => stSt (vs := [.int .i64 r_2.claim,.int .i64 r_2.by_]) hf hc rfl rfl rfl rfl sz_165 rfl rfl u0 fun w hc => cNil ?_
       refine h28 _ _ ?_
       refine wp_seq_k fun K29 h29 => cReg ?_
       refine stE hf hc rfl rfl rfl (eLdN (vs := [.int .i64 r_2.claim,.int .i64 r_2.by_]) ag_165 rfl rfl (cells_box (n := 2) m0 rfl)) fun a w hf hc => stE hf hc rfl rfl rfl (eLdN (vs := [.int .i64 x_2,.int .i64 x_3]) ag_165 rfl rfl (cells_box (n := 2) m1 rfl)) fun a w hf hc => stP hf rfl rfl rfl (pNeA ge_165 rfl rfl (eqs_165 _ _ _ _)) fun a hf => stP hf rfl rfl rfl (pM rfl) fun a hf => stCut 4 (fun a w => Has 87 a [(0,.slice claims_p claims.length claims_c),(2,.int .i64 rule),(9,.slice (some ⟨g,0,none⟩) out.length c_1),(10,.int .i64 who),(11,.pointer (some ⟨b_4,0,none⟩)),(41,.int .i64 days),(42,.int .i64 x),(53,.slice claims_p claims.length claims_c),(54,.int .i64 ((claims.length : Nat) : Int)),(55,.int .i64 x_1),(12,.int .i64 x_1),(14,.pointer (some ⟨b_6,0,none⟩)),(68,.agg #[.int .i64 r_2.claim,.int .i64 r_2.by_]),(69,.agg #[.int .i64 x_2,.int .i64 x_3]),(70,.bool (!(r_2.claim == x_2 && r_2.by_ == x_3))),(71,.bool (!(r_2.claim == x_2 && r_2.by_ == x_3))),(75,.bool ((!(r_2.claim == x_2 && r_2.by_ == x_3)) && (share_quotient_more r_2 (⟨x_2,x_3⟩ : share_quotient))))] ∧ Ctx G (.box b_6 [.int .i64 r_2.claim,.int .i64 r_2.by_] 165::.box b_4 [.int .i64 x_2,.int .i64 x_3] 165::.row (some ⟨g,0,none⟩) c_1 (out.map encI_i64) 3 1::Lf) w) ?_ ?_
       ·cases hb : (!(r_2.claim == x_2 && r_2.by_ == x_3))
        ·rw [hb] at hf
         refine stS hf rfl rfl rfl fun a hf => stS hf rfl rfl rfl fun a hf => stS hf rfl rfl rfl fun a hf => stP hf rfl rfl rfl (pPf rfl rfl) fun a hf => cNil ⟨hf.keep ⟨rfl,rfl,rfl,rfl,rfl,rfl,rfl,rfl,rfl,rfl,rfl,rfl,rfl,rfl,rfl,rfl,rfl,trivial⟩,hc⟩
        ·rw [hb] at hf
         refine stE hf hc rfl rfl rfl (eLdN (vs := [.int .i64 r_2.claim,.int .i64 r_2.by_]) ag_165 rfl rfl (cells_box (n := 2) m0 rfl)) fun a w hf hc => stE hf hc rfl rfl rfl (eLdN (vs := [.int .i64 x_2,.int .i64 x_3]) ag_165 rfl rfl (cells_box (n := 2) m1 rfl)) fun a w hf hc => stE hf hc rfl rfl rfl (eC (v := .bool (share_quotient_more r_2 (⟨x_2,x_3⟩ : share_quotient))) (vs := [.agg #[.int .i64 r_2.claim,.int .i64 r_2.by_],.agg #[.int .i64 x_2,.int .i64 x_3]]) (caps := []) en_84 rfl rfl rfl rfl (fun w hc => share_quotient_more_ok r_2 (⟨x_2,x_3⟩ : share_quotient) hc rfl)) fun a w hf hc => stP hf rfl rfl rfl (pPt rfl rfl) fun a hf => cNil ⟨hf.keep ⟨rfl,rfl,rfl,rfl,rfl,rfl,rfl,rfl,rfl,rfl,rfl,rfl,rfl,rfl,rfl,rfl,rfl,trivial⟩,hc⟩
       intro a w ⟨hf,hc⟩
       refine cNil ?_
       refine h29 _ _ ?_
       refine cCond (b := ((!(r_2.claim == x_2 && r_2.by_ == x_3)) && (share_quotient_more r_2 (⟨x_2,x_3⟩ : share_quotient)))) hf rfl (fun hb => ?_) (fun hb => ?_)
       ·replace hF := condT hb hF
        clear hb
        refine regionE (fun θ => [⟨none,none,0,.slice claims_p claims.length claims_c⟩,⟨none,none,2,.int .i64 rule⟩,⟨none,none,9,.slice (some ⟨g,0,none⟩) out.length c_1⟩,⟨none,some 2,10,.int .i64 who⟩,⟨none,none,11,.pointer (some ⟨b_4,0,none⟩)⟩,⟨none,none,12,.int .i64 x_1⟩,⟨none,none,14,.pointer (some ⟨b_6,0,none⟩)⟩,⟨none,none,41,.int .i64 days⟩,⟨none,none,42,.int .i64 x⟩,⟨none,none,53,.slice claims_p claims.length claims_c⟩,⟨none,none,54,.int .i64 ((claims.length : Nat) : Int)⟩,⟨none,none,55,.int .i64 x_1⟩,⟨some 0,none,76,.int .i64 x_1⟩,⟨some 1,none,77,.agg #[.int .i64 r_2.claim,.int .i64 r_2.by_]⟩,⟨some 2,none,10,.int .i64 x_1⟩]) (fun E θ => .box b_6 [.int .i64 r_2.claim,.int .i64 r_2.by_] 165::(bif E 3 then .box b_4 [.int .i64 r_2.claim,.int .i64 r_2.by_] 165 else .box b_4 [.int .i64 x_2,.int .i64 x_3] 165)::.row (some ⟨g,0,none⟩) c_1 (out.map encI_i64) 3 1::Lf) [] (fun a w => Has 87 a [(0,.slice claims_p claims.length claims_c),(2,.int .i64 rule),(9,.slice (some ⟨g,0,none⟩) out.length c_1),(11,.pointer (some ⟨b_4,0,none⟩)),(41,.int .i64 days),(42,.int .i64 x),(53,.slice claims_p claims.length claims_c),(54,.int .i64 ((claims.length : Nat) : Int)),(55,.int .i64 x_1),(10,.int .i64 x_1)] ∧ Ctx G (.box b_6 [.int .i64 r_2.claim,.int .i64 r_2.by_] 165::.box b_4 [.int .i64 r_2.claim,.int .i64 r_2.by_] 165::.row (some ⟨g,0,none⟩) c_1 (out.map encI_i64) 3 1::Lf) w) follows_mx (by kernel_rfl) (by kernel_rfl) (HasE.of hf ⟨rfl,rfl,rfl,rfl,rfl,rfl,rfl,rfl,rfl,rfl,rfl,rfl,trivial,trivial,trivial,trivial⟩) hc ⟨?_,?_,?_,?_,trivial⟩ ?_ ?_
        ·intro E θ a w hD hi hp he hc
         have hf := he.h0
         replace hf := hf.more he 5 rfl onT
         refine stP hf rfl rfl rfl (pM rfl) fun a hf => cNil ?_
         refine xThenN ?_
         intro ds u hau
         refine ⟨θ,he.put0 hi hau hf rfl 12 rfl rfl,?_⟩
         exact hc
        ·intro E θ a w hD hi hp he hc
         have hf := he.h0
         replace hf := hf.more he 6 rfl onT
         refine stE hf hc rfl rfl rfl (eLdN (vs := [.int .i64 r_2.claim,.int .i64 r_2.by_]) ag_165 rfl rfl (cells_box (n := 2) m0 rfl)) fun a w hf hc => cNil ?_
         refine xThenN ?_
         intro ds u hau
         refine ⟨θ,he.put0 hi hau hf rfl 13 rfl rfl,?_⟩
         exact hc
        ·intro E θ a w hD hi hp he hc
         have e0 := hp.of (k := 0) rfl
         have hf := he.h0
         replace hf := hf.more he 12 rfl (onP e0)
         refine stP hf rfl rfl rfl (pA rfl) fun a hf => cNil ?_
         refine xThenN ?_
         intro ds u hau
         refine ⟨θ,he.put0 hi hau hf rfl 14 rfl rfl,?_⟩
         exact hc
        ·intro E θ a w hD hi hp he hc
         have e1 := hp.of (k := 1) rfl
         try dsimp only at hc
         rw [hi] at hc
         have hf := he.h0
         replace hf := hf.more he 4 rfl onT
         replace hf := hf.more he 13 rfl (onP e1)
         refine stSt (vs := [.int .i64 r_2.claim,.int .i64 r_2.by_]) hf hc rfl rfl rfl rfl sz_165 rfl rfl u1 fun w hc => cNil ?_
         refine xThenN ?_
         intro ds u hau
         refine ⟨θ,he.stay0 hi hau hf rfl,?_⟩
         try dsimp only
         rw [updE_self E 3]
         exact hc
        ·intro E θ a w hall he hc
         have hf := he.h0
         have e2 := hall 2 rfl
         have e3 := hall 3 rfl
         replace hf := hf.more he 14 rfl (onP e2)
         replace hf := hf.more he 11 rfl (onT)
         replace hf := hf.more he 10 rfl (onT)
         replace hf := hf.more he 9 rfl (onT)
         replace hf := hf.more he 8 rfl (onT)
         replace hf := hf.more he 7 rfl (onT)
         replace hf := hf.more he 4 rfl (onT)
         replace hf := hf.more he 2 rfl (onT)
         replace hf := hf.more he 1 rfl (onT)
         replace hf := hf.more he 0 rfl (onT)
         try dsimp only at hc
         rw [e3] at hc
         exact ⟨hf.keep ⟨rfl,rfl,rfl,rfl,rfl,rfl,rfl,rfl,rfl,rfl,trivial⟩,hc⟩
        rintro a w ⟨hf,hc⟩
        replace hc := hc.drop k0
        exact hj26 x_1 r_2.claim r_2.by_ _ _  (hf.keep ⟨rfl,rfl,rfl,rfl,rfl,rfl,rfl,rfl,rfl,rfl,trivial⟩) hc hF
       ·replace hF := condF hb hF
        clear hb
        refine wp_skip ?_
        replace hc := hc.drop k0
        exact hj26 who x_2 x_3 _ _  (hf.keep ⟨rfl,rfl,rfl,rfl,rfl,rfl,rfl,rfl,rfl,rfl,trivial⟩) hc hF
      ·replace hF := condF hb hF
       clear hb
       refine wp_exit ?_
       refine xThen ?_
       refine xThen ?_
       have he := Option.some.inj hF
       rw [← he] at hfin23
       refine cHit ?_
       exact hr23 _ _ _ hfin23 ⟨hf.keep ⟨rfl,rfl,rfl,rfl,rfl,rfl,rfl,rfl,rfl,rfl,trivial⟩,hc⟩
     ·replace hF := condF hb hF
      clear hb
      refine wp_exit ?_
      refine xThen ?_
      refine xThen ?_
      have he := Option.some.inj hF
      rw [← he] at hfin15
      refine cHit ?_
      exact hr15 _ _ _ hfin15 ⟨p_1,c_1,hf.keep ⟨rfl,rfl,rfl,rfl,rfl,trivial⟩,hc⟩

def share_shared_1 (n : Int) : Bool :=
 (share_in n 0 366)
theorem share_shared_1_ok {G : Pers} {Lf : List Ent} {w : World} (n : Int)   (hc : Ctx G (Lf) w) {res : Bool} (hF : share_shared_1 n = res) : Calls Try.prog 122 #[.int .i64 n] w (fun e w => e = .returned (.bool res) ∧ Ctx G (Lf) w) := by
 unfold share_shared_1 at hF
 refine fnIn (args := [.int .i64 n]) Try.func122 rfl Try.ntmps122 rfl fun a hf => wp_seq_k fun K1 h1 => cReg ?_
 refine stP hf rfl rfl rfl (pA rfl) fun a hf => cNil ?_
 refine h1 _ _ ?_
 refine wp_seq_k fun K2 h2 => cReg ?_
 refine stP hf rfl rfl rfl (pM rfl) fun a hf => stE hf hc rfl rfl rfl (eC (v := .bool (share_in n 0 366)) (vs := [.int .i64 n,.int .i64 0,.int .i64 366]) (caps := []) en_70 rfl rfl rfl rfl (fun w hc => share_in_ok n 0 366 hc rfl)) fun a w hf hc => stP hf rfl rfl rfl (pA rfl) fun a hf => cNil ?_
 refine h2 _ _ ?_
 refine wp_ret ?_
 obtain rfl := hF
 exact fnOut1 (by simp) rfl Try.results122 hf hc (show look _ 2 = _ from rfl) ⟨rfl,hc⟩

def share_every_int_1_s3 (x : Int) : Bool :=
 (!(share_shared_1 x))
theorem share_every_int_1_s3_ok {G : Pers} {Lf : List Ent} {w : World} (x : Int) {b_ : Nat}  (hc : Ctx G (.box b_ [.func (.func 122) #[] #[]] 146::Lf) w) {res : Bool} (hF : share_every_int_1_s3 x = res) : Calls Try.prog 120 #[.int .i64 x,.pointer (some ⟨b_,0,none⟩)] w (fun e w => e = .returned (.bool res) ∧ Ctx G (.box b_ [.func (.func 122) #[] #[]] 146::Lf) w) := by
 unfold share_every_int_1_s3 at hF
 refine fnIn (args := [.int .i64 x,.pointer (some ⟨b_,0,none⟩)]) Try.func120 rfl Try.ntmps120 rfl fun a hf => wp_seq_k fun K1 h1 => cReg ?_
 refine stP hf rfl rfl rfl (pA rfl) fun a hf => cNil ?_
 refine h1 _ _ ?_
 refine wp_seq_k fun K2 h2 => cReg ?_
 refine stE hf hc rfl rfl rfl (eLd1 sc_146 rfl (cell_box m0 rfl)) fun a w hf hc => stP hf rfl rfl rfl (pM rfl) fun a hf => stE hf hc rfl rfl rfl (eC (v := .bool (share_shared_1 x)) (vs := [.int .i64 x]) (caps := []) en_122 rfl rfl rfl rfl (fun w hc => share_shared_1_ok x hc rfl)) fun a w hf hc => stP hf rfl rfl rfl (pNot rfl) fun a hf => stP hf rfl rfl rfl (pA rfl) fun a hf => cNil ?_
 refine h2 _ _ ?_
 refine wp_ret ?_
 obtain rfl := hF
 exact fnOut1 (by simp) rfl Try.results120 hf hc (show look _ 3 = _ from rfl) ⟨rfl,hc⟩

def slices_IndexFunc_Lint_int_s3_b4 (N : Nat) (s_ : List Int) (x : Int) : Option (Step (Int) (Int)) :=
 cond (decide (x < ((s_.length : Nat) : Int)))
 (Option.bind (getI s_ x) fun e_1 =>
 cond (share_every_int_1_s3 e_1)
 (some (.ret x))
 (some (.cont (W (x + 1)))))
 (some (.brk x))
def slices_IndexFunc_Lint_int_s3 (N : Nat) (s_ : List Int) : Option (Int) :=
 Option.bind (loopO (fun s4 => slices_IndexFunc_Lint_int_s3_b4 N s_ s4) N 0) fun x4 =>
 exK x4 (fun s4 => some (-1)) some
theorem slices_IndexFunc_Lint_int_s3_ok {N : Nat} {G : Pers} {Lf : List Ent} {w : World} (s_ : List Int) {s__p : Option Addr} {s__c : Nat} {b_ : Nat} (h_s_ : Rd G 1 s__p s__c (s_.map encI_i64)) (hc : Ctx G (.box b_ [.func (.func 122) #[] #[]] 146::Lf) w) {res : Int} (hF : slices_IndexFunc_Lint_int_s3 N s_ = some res) : Calls Try.prog 145 #[.slice s__p s_.length s__c,.func (.func 120) #[] #[.pointer (some ⟨b_,0,none⟩)]] w (fun e w => e = .returned (.int .i64 res) ∧ Ctx G (.box b_ [.func (.func 122) #[] #[]] 146::Lf) w) := by
 unfold slices_IndexFunc_Lint_int_s3 at hF
 refine fnIn (args := [.slice s__p s_.length s__c,.func (.func 120) #[] #[.pointer (some ⟨b_,0,none⟩)]]) Try.func145 rfl Try.ntmps145 rfl fun a hf => wp_seq_k fun K1 h1 => cReg ?_
 refine stP hf rfl rfl rfl (pA rfl) fun a hf => cNil ?_
 refine h1 _ _ ?_
 refine wp_seq_k fun K2 h2 => wp_seq_k fun K3 h3 => cReg ?_
 refine stP hf rfl rfl rfl (pM rfl) fun a hf => stP hf rfl rfl rfl (pLenS Try.underlying36 rfl) fun a hf => stP hf rfl rfl rfl (pM rfl) fun a hf => cNil ?_
 refine h3 _ _ ?_
 refine wp_block ?_
 obtain ⟨x4,hx4,hF⟩ := bnd_some hF
 let S4 : Int → Act → World → Prop := (fun (zz : Int) a w => Has 19 a [(0,.slice s__p s_.length s__c),(1,.func (.func 120) #[] #[.pointer (some ⟨b_,0,none⟩)]),(7,.int .i64 ((s_.length : Nat) : Int)),(8,.int .i64 zz)] ∧ Ctx G (.box b_ [.func (.func 122) #[] #[]] 146::Lf) w)
 have hr4 : ∀ (zz : Int) a w,x4 = .go zz → S4 zz a w → K2 a w := by
  rintro x a w rfl ⟨hf,hc⟩
  replace hF := exK_go hF
  refine h2 _ _ ?_
  refine wp_seq_k fun K5 h5 => cReg ?_
  refine stP hf rfl rfl rfl (pA rfl) fun a hf => cNil ?_
  refine h5 _ _ ?_
  refine wp_ret ?_
  obtain rfl := Option.some.inj hF
  exact fnOut1 (by simp) rfl Try.results145 hf hc (show look _ 4 = _ from rfl) ⟨rfl,hc⟩
 have ho4 : ∀ r,x4 = .out r → r = res := by
  rintro r rfl
  exact Option.some.inj hF
 refine cLoop N (loopW (S := S4) (x := x4) ?_ N 0 _ _ ⟨hf.keep ⟨rfl,rfl,rfl,rfl,trivial⟩,hc⟩ hx4)
 clear hF hf hc
 rintro x st4 a w KB4 ⟨hf,hc⟩ hF hfin4 hK4
 unfold slices_IndexFunc_Lint_int_s3_b4 at hF
 refine wp_seq_k fun K6 h6 => cReg ?_
 refine stP hf rfl rfl rfl (pLt rfl rfl) fun a hf => cNil ?_
 refine h6 _ _ ?_
 refine wp_seq_k fun K7 h7 => cCond (b := (decide (x < ((s_.length : Nat) : Int)))) hf rfl (fun hb => ?_) (fun hb => ?_)
 ·replace hF := condT hb hF
  clear hb
  refine wp_skip ?_
  refine h7 _ _ ?_
  refine wp_seq_k fun K8 h8 => wp_block ?_
  refine wp_seq_k fun K9 h9 => cReg ?_
  refine stP hf rfl rfl rfl (pM rfl) fun a hf => stP hf rfl rfl rfl (pA rfl) fun a hf => cNil ?_
  refine h9 _ _ ?_
  refine wp_seq_k fun K10 h10 => cReg ?_
  refine stP hf rfl rfl rfl (pM rfl) fun a hf => stP hf rfl rfl rfl (pM rfl) fun a hf => stP hf rfl rfl rfl (pM rfl) fun a hf => ?_
  obtain ⟨e_1,he_1,hF⟩ := bnd_some hF
  obtain ⟨b_1,o,qa,qp⟩ := h_s_.atm he_1
  refine stP hf rfl rfl rfl (pIA Try.underlying36 sz_3 rfl rfl qa) fun a hf => stE hf hc rfl rfl rfl (eLd1 sc_3 rfl (cell_pc (j := 0) qp rfl)) fun a w hf hc => stE hf hc rfl rfl rfl (eC (v := .bool (share_every_int_1_s3 e_1)) (vs := [.int .i64 e_1]) (caps := [.pointer (some ⟨b_,0,none⟩)]) en_120 rfl rfl rfl rfl (fun w hc => (share_every_int_1_s3_ok e_1 (hc.pick k0) rfl).mono fun e w h => ⟨h.1,(h.2.unpick k0)⟩)) fun a w hf hc => cNil ?_
  refine h10 _ _ ?_
  refine cCond (b := (share_every_int_1_s3 e_1)) hf rfl (fun hb => ?_) (fun hb => ?_)
  ·replace hF := condT hb hF
   clear hb
   refine wp_seq_k fun K11 h11 => cReg ?_
   refine stP hf rfl rfl rfl (pM rfl) fun a hf => stP hf rfl rfl rfl (pA rfl) fun a hf => cNil ?_
   refine h11 _ _ ?_
   refine wp_ret ?_
   refine xBlkR ?_
   refine xThenR ?_
   refine xThenR ?_
   have he := Option.some.inj hF
   rw [← he] at hfin4
   replace hF := ho4 _ hfin4
   refine xBlkR ?_
   refine xThenR ?_
   obtain rfl := hF
   exact fnOut1 (by simp) rfl Try.results145 hf hc (show look _ 4 = _ from rfl) ⟨rfl,hc⟩
  ·replace hF := condF hb hF
   clear hb
   refine wp_skip ?_
   refine h8 _ _ ?_
   refine cReg ?_
   refine stP hf rfl rfl rfl (pAdd rfl rfl) fun a hf => stP hf rfl rfl rfl (pM rfl) fun a hf => cNil ?_
   exact hK4 (W (x + 1)) _ _ (Option.some.inj hF).symm ⟨hf.keep ⟨rfl,rfl,rfl,rfl,trivial⟩,hc⟩
 ·replace hF := condF hb hF
  clear hb
  refine wp_exit ?_
  refine xThen ?_
  refine xThen ?_
  have he := Option.some.inj hF
  rw [← he] at hfin4
  refine cHit ?_
  exact hr4 _ _ _ hfin4 ⟨hf.keep ⟨rfl,rfl,rfl,rfl,trivial⟩,hc⟩

def slices_ContainsFunc_Lint_int_s3 (N : Nat) (s_ : List Int) : Option (Bool) :=
 Option.bind (slices_IndexFunc_Lint_int_s3 N s_) fun r =>
 some (decide (0 ≤ r))
theorem slices_ContainsFunc_Lint_int_s3_ok {N : Nat} {G : Pers} {Lf : List Ent} {w : World} (s_ : List Int) {s__p : Option Addr} {s__c : Nat} {b_ : Nat} (h_s_ : Rd G 1 s__p s__c (s_.map encI_i64)) (hc : Ctx G (.box b_ [.func (.func 122) #[] #[]] 146::Lf) w) {res : Bool} (hF : slices_ContainsFunc_Lint_int_s3 N s_ = some res) : Calls Try.prog 119 #[.slice s__p s_.length s__c,.func (.func 120) #[] #[.pointer (some ⟨b_,0,none⟩)]] w (fun e w => e = .returned (.bool res) ∧ Ctx G (.box b_ [.func (.func 122) #[] #[]] 146::Lf) w) := by
 unfold slices_ContainsFunc_Lint_int_s3 at hF
 refine fnIn (args := [.slice s__p s_.length s__c,.func (.func 120) #[] #[.pointer (some ⟨b_,0,none⟩)]]) Try.func119 rfl Try.ntmps119 rfl fun a hf => wp_seq_k fun K1 h1 => cReg ?_
 refine stP hf rfl rfl rfl (pA rfl) fun a hf => cNil ?_
 refine h1 _ _ ?_
 refine wp_seq_k fun K2 h2 => cReg ?_
 refine stP hf rfl rfl rfl (pM rfl) fun a hf => stP hf rfl rfl rfl (pM rfl) fun a hf => ?_
 obtain ⟨r,hr,hF⟩ := bnd_some hF
 refine stE hf hc rfl rfl rfl (eC (v := .int .i64 r) (vs := [.slice s__p s_.length s__c,.func (.func 120) #[] #[.pointer (some ⟨b_,0,none⟩)]]) (caps := []) en_145 rfl rfl rfl rfl (fun w hc => (slices_IndexFunc_Lint_int_s3_ok s_ h_s_ (hc.pick k0) hr).mono fun e w h => ⟨h.1,(h.2.unpick k0)⟩)) fun a w hf hc => stP hf rfl rfl rfl (pGe rfl rfl) fun a hf => stP hf rfl rfl rfl (pA rfl) fun a hf => cNil ?_
 refine h2 _ _ ?_
 refine wp_ret ?_
 obtain rfl := Option.some.inj hF
 exact fnOut1 (by simp) rfl Try.results119 hf hc (show look _ 4 = _ from rfl) ⟨rfl,hc⟩

def share_every_int_s3 (N : Nat) (l : List Int) : Option (Bool) :=
 Option.bind (slices_ContainsFunc_Lint_int_s3 N l) fun r =>
 some (!r)
theorem share_every_int_s3_ok {N : Nat} {G : Pers} {Lf : List Ent} {w : World} (l : List Int) {l_p : Option Addr} {l_c : Nat} (h_l : Rd G 1 l_p l_c (l.map encI_i64)) (hc : Ctx G (Lf) w) {res : Bool} (hF : share_every_int_s3 N l = some res) : Calls Try.prog 80 #[.slice l_p l.length l_c,.func (.func 122) #[] #[]] w (fun e w => e = .returned (.bool res) ∧ Ctx G (Lf) w) := by
 unfold share_every_int_s3 at hF
 refine fnIn (args := [.slice l_p l.length l_c,.func (.func 122) #[] #[]]) Try.func80 rfl Try.ntmps80 rfl fun a hf => wp_seq_k fun K1 h1 => cReg ?_
 refine stBx (cs := [.func (.func 122) #[] #[]]) hf hc rfl rfl rfl rfl fun b_1 a w hf hc => stP hf rfl rfl rfl (pA rfl) fun a hf => cNil ?_
 refine h1 _ _ ?_
 refine wp_seq_k fun K2 h2 => cReg ?_
 refine stP hf rfl rfl rfl (pM rfl) fun a hf => stP hf rfl rfl rfl (pMF (us := [.pointer (some ⟨b_1,0,none⟩)]) rfl rfl) fun a hf => ?_
 obtain ⟨r,hr,hF⟩ := bnd_some hF
 refine stE hf hc rfl rfl rfl (eC (v := .bool r) (vs := [.slice l_p l.length l_c,.func (.func 120) #[] #[.pointer (some ⟨b_1,0,none⟩)]]) (caps := []) en_119 rfl rfl rfl rfl (fun w hc => (slices_ContainsFunc_Lint_int_s3_ok l h_l (hc.pick k0) hr).mono fun e w h => ⟨h.1,(h.2.unpick k0)⟩)) fun a w hf hc => stP hf rfl rfl rfl (pNot rfl) fun a hf => stP hf rfl rfl rfl (pA rfl) fun a hf => cNil ?_
 refine h2 _ _ ?_
 refine wp_ret ?_
 obtain rfl := Option.some.inj hF
 replace hc := hc.drop k0
 exact fnOut1 (by simp) rfl Try.results80 hf hc (show look _ 4 = _ from rfl) ⟨rfl,hc⟩

def share_shared (N : Nat) (claims : List Int) (shares : List Int) (rule : Int) : Option (Int) :=
 Option.bind (share_claimed N claims) fun r =>
 cond (r != 0)
 (some r)
 (cond (((shares.length : Nat) : Int) != ((claims.length : Nat) : Int))
 (some 2)
 (Option.bind (share_every_int_s3 N shares) fun r_1 =>
 cond (!r_1)
 (some 4)
 (cond (!(share_Rule_right rule))
 (some 2)
 (some 0))))
theorem share_shared_ok {N : Nat} {G : Pers} {Lf : List Ent} {w : World} (claims : List Int) (shares : List Int) (rule : Int) {claims_p : Option Addr} {claims_c : Nat} {shares_p : Option Addr} {shares_c : Nat} (h_claims : Rd G 1 claims_p claims_c (claims.map encI_i64)) (h_shares : Rd G 1 shares_p shares_c (shares.map encI_i64)) (hc : Ctx G (Lf) w) {res : Int} (hF : share_shared N claims shares rule = some res) : Calls Try.prog 88 #[.slice claims_p claims.length claims_c,.slice shares_p shares.length shares_c,.int .i64 rule] w (fun e w => e = .returned (.int .i64 res) ∧ Ctx G (Lf) w) := by
 unfold share_shared at hF
 refine fnIn (args := [.slice claims_p claims.length claims_c,.slice shares_p shares.length shares_c,.int .i64 rule]) Try.func88 rfl Try.ntmps88 rfl fun a hf => wp_seq_k fun K1 h1 => cReg ?_
 refine stP hf rfl rfl rfl (pA rfl) fun a hf => cNil ?_
 refine h1 _ _ ?_
 refine wp_seq_k fun K2 h2 => cReg ?_
 refine stP hf rfl rfl rfl (pM rfl) fun a hf => ?_
 obtain ⟨r,hr,hF⟩ := bnd_some hF
 refine stE hf hc rfl rfl rfl (eC (v := .int .i64 r) (vs := [.slice claims_p claims.length claims_c]) (caps := []) en_81 rfl rfl rfl rfl (fun w hc => share_claimed_ok claims h_claims hc hr)) fun a w hf hc => stP hf rfl rfl rfl (pA rfl) fun a hf => cNil ?_
 refine h2 _ _ ?_
 refine wp_seq_k fun K3 h3 => wp_block ?_
 refine wp_seq_k fun K4 h4 => cReg ?_
 refine stP hf rfl rfl rfl (pM rfl) fun a hf => stP hf rfl rfl rfl (pNe rfl rfl) fun a hf => stP hf rfl rfl rfl (pA rfl) fun a hf => cNil ?_
 refine h4 _ _ ?_
 refine cCond (b := (r != 0)) hf rfl (fun hb => ?_) (fun hb => ?_)
 ·replace hF := condT hb hF
  clear hb
  refine wp_seq_k fun K5 h5 => cReg ?_
  refine stP hf rfl rfl rfl (pM rfl) fun a hf => stP hf rfl rfl rfl (pA rfl) fun a hf => cNil ?_
  refine h5 _ _ ?_
  refine wp_ret ?_
  refine xBlkR ?_
  refine xThenR ?_
  obtain rfl := Option.some.inj hF
  exact fnOut1 (by simp) rfl Try.results88 hf hc (show look _ 6 = _ from rfl) ⟨rfl,hc⟩
 ·replace hF := condF hb hF
  clear hb
  refine wp_seq_k fun K6 h6 => cReg ?_
  refine stP hf rfl rfl rfl (pM rfl) fun a hf => stP hf rfl rfl rfl (pLenS Try.underlying36 rfl) fun a hf => stP hf rfl rfl rfl (pM rfl) fun a hf => stP hf rfl rfl rfl (pLenS Try.underlying36 rfl) fun a hf => stP hf rfl rfl rfl (pNe rfl rfl) fun a hf => stP hf rfl rfl rfl (pA rfl) fun a hf => cNil ?_
  refine h6 _ _ ?_
  refine cCond (b := (((shares.length : Nat) : Int) != ((claims.length : Nat) : Int))) hf rfl (fun hb => ?_) (fun hb => ?_)
  ·replace hF := condT hb hF
   clear hb
   refine wp_seq_k fun K7 h7 => cReg ?_
   refine stP hf rfl rfl rfl (pA rfl) fun a hf => cNil ?_
   refine h7 _ _ ?_
   refine wp_ret ?_
   refine xBlkR ?_
   refine xThenR ?_
   obtain rfl := Option.some.inj hF
   exact fnOut1 (by simp) rfl Try.results88 hf hc (show look _ 6 = _ from rfl) ⟨rfl,hc⟩
  ·replace hF := condF hb hF
   clear hb
   refine wp_seq_k fun K8 h8 => cReg ?_
   refine stP hf rfl rfl rfl (pM rfl) fun a hf => ?_
   obtain ⟨r_1,hr_1,hF⟩ := bnd_some hF
   refine stE hf hc rfl rfl rfl (eC (v := .bool r_1) (vs := [.slice shares_p shares.length shares_c,.func (.func 122) #[] #[]]) (caps := []) en_80 rfl rfl rfl rfl (fun w hc => share_every_int_s3_ok shares h_shares hc hr_1)) fun a w hf hc => stP hf rfl rfl rfl (pNot rfl) fun a hf => stP hf rfl rfl rfl (pA rfl) fun a hf => cNil ?_
   refine h8 _ _ ?_
   refine cCond (b := (!r_1)) hf rfl (fun hb => ?_) (fun hb => ?_)
   ·replace hF := condT hb hF
    clear hb
    refine wp_seq_k fun K9 h9 => cReg ?_
    refine stP hf rfl rfl rfl (pA rfl) fun a hf => cNil ?_
    refine h9 _ _ ?_
    refine wp_ret ?_
    refine xBlkR ?_
    refine xThenR ?_
    obtain rfl := Option.some.inj hF
    exact fnOut1 (by simp) rfl Try.results88 hf hc (show look _ 6 = _ from rfl) ⟨rfl,hc⟩
   ·replace hF := condF hb hF
    clear hb
    refine wp_seq_k fun K10 h10 => cReg ?_
    refine stP hf rfl rfl rfl (pM rfl) fun a hf => stE hf hc rfl rfl rfl (eC (v := .bool (share_Rule_right rule)) (vs := [.int .i64 rule]) (caps := []) en_82 rfl rfl rfl rfl (fun w hc => share_Rule_right_ok rule hc rfl)) fun a w hf hc => stP hf rfl rfl rfl (pNot rfl) fun a hf => stP hf rfl rfl rfl (pA rfl) fun a hf => cNil ?_
    refine h10 _ _ ?_
    refine cCond (b := (!(share_Rule_right rule))) hf rfl (fun hb => ?_) (fun hb => ?_)
    ·replace hF := condT hb hF
     clear hb
     refine wp_seq_k fun K11 h11 => cReg ?_
     refine stP hf rfl rfl rfl (pA rfl) fun a hf => cNil ?_
     refine h11 _ _ ?_
     refine wp_ret ?_
     refine xBlkR ?_
     refine xThenR ?_
     obtain rfl := Option.some.inj hF
     exact fnOut1 (by simp) rfl Try.results88 hf hc (show look _ 6 = _ from rfl) ⟨rfl,hc⟩
    ·replace hF := condF hb hF
     clear hb
     refine wp_skip ?_
     refine h3 _ _ ?_
     refine wp_seq_k fun K12 h12 => cReg ?_
     refine stP hf rfl rfl rfl (pA rfl) fun a hf => cNil ?_
     refine h12 _ _ ?_
     refine wp_ret ?_
     obtain rfl := Option.some.inj hF
     exact fnOut1 (by simp) rfl Try.results88 hf hc (show look _ 6 = _ from rfl) ⟨rfl,hc⟩

def share_greatest_j8 (N : Nat) (x : Int) (x_3 : Int) (x_4 : Int) : Option (Step (Int × Int × Int) (share_quotient)) :=
 some (.cont (W (x + 1),x_3,x_4))
def share_greatest_b4 (N : Nat) (l : List share_quotient) (x : Int) (x_1 : Int) (x_2 : Int) : Option (Step (Int × Int × Int) (share_quotient)) :=
 cond (decide (x < ((l.length : Nat) : Int)))
 (Option.bind (getI l x) fun e_1 =>
 cond (share_quotient_more e_1 (⟨x_1,x_2⟩ : share_quotient))
 (share_greatest_j8 N x e_1.claim e_1.by_)
 (share_greatest_j8 N x x_1 x_2))
 (some (.brk (x,x_1,x_2)))
def share_greatest (N : Nat) (first : share_quotient) (l : List share_quotient) : Option (share_quotient) :=
 Option.bind (loopO (fun s4 => share_greatest_b4 N l s4.1 s4.2.1 s4.2.2) N (0,first.claim,first.by_)) fun x4 =>
 exK x4 (fun s4 => some (⟨s4.2.1,s4.2.2⟩ : share_quotient)) some
theorem share_greatest_ok {N : Nat} {G : Pers} {Lf : List Ent} {w : World} (first : share_quotient) (l : List share_quotient) {l_p : Option Addr} {l_c : Nat} (h_l : Rd G 2 l_p l_c (l.map enc_share_quotient)) (hc : Ctx G (Lf) w) {res : share_quotient} (hF : share_greatest N first l = some res) : Calls Try.prog 90 #[.agg #[.int .i64 first.claim,.int .i64 first.by_],.slice l_p l.length l_c] w (fun e w => e = .returned (.agg #[.int .i64 res.claim,.int .i64 res.by_]) ∧ Ctx G (Lf) w) := by
 unfold share_greatest at hF
 refine fnIn (args := [.agg #[.int .i64 first.claim,.int .i64 first.by_],.slice l_p l.length l_c]) Try.func90 rfl Try.ntmps90 rfl fun a hf => wp_seq_k fun K1 h1 => cReg ?_
 refine stBx (cs := [.int .i64 first.claim,.int .i64 first.by_]) hf hc rfl rfl rfl rfl fun b_1 a w hf hc => stAl (cs := [.int .i64 0,.int .i64 0]) hf hc rfl rfl zr_165 rfl fun b_2 a w hf hc => cNil ?_
 refine h1 _ _ ?_
 refine wp_seq_k fun K2 h2 => wp_seq_k fun K3 h3 => cReg ?_
 refine stP hf rfl rfl rfl (pM rfl) fun a hf => stP hf rfl rfl rfl (pLenS Try.underlying171 rfl) fun a hf => stP hf rfl rfl rfl (pM rfl) fun a hf => cNil ?_
 refine h3 _ _ ?_
 refine wp_block ?_
 obtain ⟨x4,hx4,hF⟩ := bnd_some hF
 let S4 : (Int × Int × Int) → Act → World → Prop := (fun (zz : Int × Int × Int) a w => Has 19 a [(2,.pointer (some ⟨b_1,0,none⟩)),(4,.pointer (some ⟨b_2,0,none⟩)),(7,.slice l_p l.length l_c),(8,.int .i64 ((l.length : Nat) : Int)),(9,.int .i64 zz.1)] ∧ Ctx G (.box b_2 [.int .i64 0,.int .i64 0] 165::.box b_1 [.int .i64 zz.2.1,.int .i64 zz.2.2] 165::Lf) w)
 have hr4 : ∀ (zz : Int × Int × Int) a w,x4 = .go zz → S4 zz a w → K2 a w := by
  rintro ⟨x,x_1,x_2⟩ a w rfl ⟨hf,hc⟩
  replace hF := exK_go hF
  refine h2 _ _ ?_
  refine wp_seq_k fun K5 h5 => cReg ?_
  refine stE hf hc rfl rfl rfl (eLdN (vs := [.int .i64 x_1,.int .i64 x_2]) ag_165 rfl rfl (cells_box (n := 2) m1 rfl)) fun a w hf hc => stSt (vs := [.int .i64 x_1,.int .i64 x_2]) hf hc rfl rfl rfl rfl sz_165 rfl rfl u0 fun w hc => cNil ?_
  refine h5 _ _ ?_
  refine wp_ret ?_
  obtain rfl := Option.some.inj hF
  replace hc := hc.drop k1
  exact fnOut1 (by simp) rfl Try.results90 hf hc (rv_cellN (vs := [.int .i64 x_1,.int .i64 x_2]) ag_165 rfl rfl (cells_box (n := 2) m0 rfl)) ⟨rfl,(hc.drop k0)⟩
 have ho4 : ∀ r,x4 = .out r → r = res := by
  rintro r rfl
  exact Option.some.inj hF
 refine cLoop N (loopW (S := S4) (x := x4) ?_ N (0,first.claim,first.by_) _ _ ⟨hf.keep ⟨rfl,rfl,rfl,rfl,rfl,trivial⟩,hc⟩ hx4)
 clear hF hf hc
 rintro ⟨x,x_1,x_2⟩ st4 a w KB4 ⟨hf,hc⟩ hF hfin4 hK4
 unfold share_greatest_b4 at hF
 refine wp_seq_k fun K6 h6 => cReg ?_
 refine stP hf rfl rfl rfl (pLt rfl rfl) fun a hf => cNil ?_
 refine h6 _ _ ?_
 refine wp_seq_k fun K7 h7 => cCond (b := (decide (x < ((l.length : Nat) : Int)))) hf rfl (fun hb => ?_) (fun hb => ?_)
 ·replace hF := condT hb hF
  clear hb
  refine wp_skip ?_
  refine h7 _ _ ?_
  refine wp_seq_k fun K8 h8 => ?_
  have hj8 : ∀ (x_3 : Int) (x_4 : Int) a w,Has 19 a [(2,.pointer (some ⟨b_1,0,none⟩)),(4,.pointer (some ⟨b_2,0,none⟩)),(7,.slice l_p l.length l_c),(8,.int .i64 ((l.length : Nat) : Int)),(9,.int .i64 x)] → Ctx G (.box b_2 [.int .i64 0,.int .i64 0] 165::.box b_1 [.int .i64 x_3,.int .i64 x_4] 165::Lf) w → share_greatest_j8 N x x_3 x_4 = some st4 → K8 a w := by
   repeat (clear hF)
   repeat (clear hc)
   repeat (clear hf)
   intro x_3 x_4 a w hf hc hF
   unfold share_greatest_j8 at hF
   refine h8 _ _ ?_
   refine cReg ?_
   refine stP hf rfl rfl rfl (pAdd rfl rfl) fun a hf => stP hf rfl rfl rfl (pM rfl) fun a hf => cNil ?_
   exact hK4 (W (x + 1),x_3,x_4) _ _ (Option.some.inj hF).symm ⟨hf.keep ⟨rfl,rfl,rfl,rfl,rfl,trivial⟩,hc⟩
  refine wp_block ?_
  refine wp_seq_k fun K9 h9 => cReg ?_
  obtain ⟨e_1,he_1,hF⟩ := bnd_some hF
  obtain ⟨b_3,o,qa,qp⟩ := h_l.atm he_1
  refine stP hf rfl rfl rfl (pIA Try.underlying171 sz_165 rfl rfl qa) fun a hf => stE hf hc rfl rfl rfl (eLdN (vs := [.int .i64 e_1.claim,.int .i64 e_1.by_]) ag_165 rfl rfl (cells_pc qp (n := 2) (o' := 0) rfl)) fun a w hf hc => stAl (cs := [.int .i64 0,.int .i64 0]) hf hc rfl rfl zr_165 rfl fun b_4 a w hf hc => stSt (vs := [.int .i64 e_1.claim,.int .i64 e_1.by_]) hf hc rfl rfl rfl rfl sz_165 rfl rfl u0 fun w hc => cNil ?_
  refine h9 _ _ ?_
  refine wp_seq_k fun K10 h10 => cReg ?_
  refine stE hf hc rfl rfl rfl (eLdN (vs := [.int .i64 e_1.claim,.int .i64 e_1.by_]) ag_165 rfl rfl (cells_box (n := 2) m0 rfl)) fun a w hf hc => stE hf hc rfl rfl rfl (eLdN (vs := [.int .i64 x_1,.int .i64 x_2]) ag_165 rfl rfl (cells_box (n := 2) m2 rfl)) fun a w hf hc => stE hf hc rfl rfl rfl (eC (v := .bool (share_quotient_more e_1 (⟨x_1,x_2⟩ : share_quotient))) (vs := [.agg #[.int .i64 e_1.claim,.int .i64 e_1.by_],.agg #[.int .i64 x_1,.int .i64 x_2]]) (caps := []) en_84 rfl rfl rfl rfl (fun w hc => share_quotient_more_ok e_1 (⟨x_1,x_2⟩ : share_quotient) hc rfl)) fun a w hf hc => cNil ?_
  refine h10 _ _ ?_
  refine cCond (b := (share_quotient_more e_1 (⟨x_1,x_2⟩ : share_quotient))) hf rfl (fun hb => ?_) (fun hb => ?_)
  ·replace hF := condT hb hF
   clear hb
   refine cReg ?_
   refine stE hf hc rfl rfl rfl (eLdN (vs := [.int .i64 e_1.claim,.int .i64 e_1.by_]) ag_165 rfl rfl (cells_box (n := 2) m0 rfl)) fun a w hf hc => stSt (vs := [.int .i64 e_1.claim,.int .i64 e_1.by_]) hf hc rfl rfl rfl rfl sz_165 rfl rfl u2 fun w hc => cNil ?_
   replace hc := hc.drop k0
   exact hj8 e_1.claim e_1.by_ _ _  (hf.keep ⟨rfl,rfl,rfl,rfl,rfl,trivial⟩) hc hF
  ·replace hF := condF hb hF
   clear hb
   refine wp_skip ?_
   replace hc := hc.drop k0
   exact hj8 x_1 x_2 _ _  (hf.keep ⟨rfl,rfl,rfl,rfl,rfl,trivial⟩) hc hF
 ·replace hF := condF hb hF
  clear hb
  refine wp_exit ?_
  refine xThen ?_
  refine xThen ?_
  have he := Option.some.inj hF
  rw [← he] at hfin4
  refine cHit ?_
  exact hr4 _ _ _ hfin4 ⟨hf.keep ⟨rfl,rfl,rfl,rfl,rfl,trivial⟩,hc⟩

def share_quotient_ratio_b4 (N : Nat) (a_1 : Int) (b_3 : Int) : Option (Step (Int × Int) (api_Ratio)) :=
 cond (b_3 != 0)
 (Option.bind (nz b_3) fun un_2 =>
 some (.cont (b_3,a_1.tmod b_3)))
 (some (.brk (a_1,b_3)))
def share_quotient_ratio (N : Nat) (q : share_quotient) : Option (api_Ratio) :=
 Option.bind (loopO (fun s4 => share_quotient_ratio_b4 N s4.1 s4.2) N (q.claim,q.by_)) fun x4 =>
 exK x4 (fun s4 => Option.bind (nz s4.1) fun un =>
 Option.bind (nz s4.1) fun un_1 =>
 some (⟨W (q.claim.tdiv s4.1),W (q.by_.tdiv s4.1)⟩ : api_Ratio)) some
theorem share_quotient_ratio_ok {N : Nat} {G : Pers} {Lf : List Ent} {w : World} (q : share_quotient)   (hc : Ctx G (Lf) w) {res : api_Ratio} (hF : share_quotient_ratio N q = some res) : Calls Try.prog 91 #[.agg #[.int .i64 q.claim,.int .i64 q.by_]] w (fun e w => e = .returned (.agg #[.int .i64 res.N,.int .i64 res.D]) ∧ Ctx G (Lf) w) := by
 unfold share_quotient_ratio at hF
 refine fnIn (args := [.agg #[.int .i64 q.claim,.int .i64 q.by_]]) Try.func91 rfl Try.ntmps91 rfl fun a hf => wp_seq_k fun K1 h1 => cReg ?_
 refine stBx (cs := [.int .i64 q.claim,.int .i64 q.by_]) hf hc rfl rfl rfl rfl fun b_1 a w hf hc => stAl (cs := [.int .i64 0,.int .i64 0]) hf hc rfl rfl zr_71 rfl fun b_2 a w hf hc => cNil ?_
 refine h1 _ _ ?_
 refine wp_seq_k fun K2 h2 => cQ hc follows_mx (by kernel_rfl) ?_
 refine qE hf rfl rfl rfl (Pu.ev (pFA fa_165_0 rfl)) fun a hf => qE hf rfl rfl rfl (eLd1 sc_3 rfl (cell_box m1 rfl)) fun a hf => qE hf rfl rfl rfl (Pu.ev (pFA fa_165_1 rfl)) fun a hf => qE hf rfl rfl rfl (eLd1 sc_3 rfl (cell_box m1 rfl)) fun a hf => qE hf rfl rfl rfl (Pu.ev (pA rfl)) fun a hf => qE hf rfl rfl rfl (Pu.ev (pA rfl)) fun a hf => ?_
 intro w hc
 refine h2 _ _ ?_
 refine wp_seq_k fun K3 h3 => wp_block ?_
 obtain ⟨x4,hx4,hF⟩ := bnd_some hF
 let S4 : (Int × Int) → Act → World → Prop := (fun (zz : Int × Int) a w => Has 24 a [(1,.pointer (some ⟨b_1,0,none⟩)),(2,.pointer (some ⟨b_2,0,none⟩)),(3,.int .i64 zz.1),(4,.int .i64 zz.2)] ∧ Ctx G (.box b_2 [.int .i64 0,.int .i64 0] 71::.box b_1 [.int .i64 q.claim,.int .i64 q.by_] 165::Lf) w)
 have hr4 : ∀ (zz : Int × Int) a w,x4 = .go zz → S4 zz a w → K3 a w := by
  rintro ⟨a_1,b_3⟩ a w rfl ⟨hf,hc⟩
  replace hF := exK_go hF
  refine h3 _ _ ?_
  refine wp_seq_k fun K5 h5 => ?_
  obtain ⟨un,hun,hF⟩ := bnd_some hF
  obtain ⟨un_1,hun_1,hF⟩ := bnd_some hF
  refine regionE (fun θ => [⟨none,none,1,.pointer (some ⟨b_1,0,none⟩)⟩,⟨none,none,2,.pointer (some ⟨b_2,0,none⟩)⟩,⟨none,none,3,.int .i64 a_1⟩,⟨some 0,none,15,.pointer (some ⟨b_1,0,none⟩)⟩,⟨some 1,none,16,.int .i64 q.claim⟩,⟨some 2,none,17,.int .i64 a_1⟩,⟨some 3,none,18,.int .i64 (W (q.claim.tdiv a_1))⟩,⟨some 4,none,19,.pointer (some ⟨b_1,1,none⟩)⟩,⟨some 5,none,20,.int .i64 q.by_⟩,⟨some 6,none,21,.int .i64 a_1⟩,⟨some 7,none,22,.int .i64 (W (q.by_.tdiv a_1))⟩,⟨some 8,none,23,.agg #[.int .i64 (W (q.claim.tdiv a_1)),.int .i64 (W (q.by_.tdiv a_1))]⟩]) (fun E θ => (bif E 9 then .box b_2 [.int .i64 (W (q.claim.tdiv a_1)),.int .i64 (W (q.by_.tdiv a_1))] 71 else .box b_2 [.int .i64 0,.int .i64 0] 71)::.box b_1 [.int .i64 q.claim,.int .i64 q.by_] 165::Lf) [] (fun a w => Has 24 a [(2,.pointer (some ⟨b_2,0,none⟩))] ∧ Ctx G (.box b_2 [.int .i64 (W (q.claim.tdiv a_1)),.int .i64 (W (q.by_.tdiv a_1))] 71::.box b_1 [.int .i64 q.claim,.int .i64 q.by_] 165::Lf) w) follows_mx (by kernel_rfl) (by kernel_rfl) (HasE.of hf ⟨rfl,rfl,rfl,trivial,trivial,trivial,trivial,trivial,trivial,trivial,trivial,trivial,trivial⟩) hc ⟨?_,?_,?_,?_,?_,?_,?_,?_,?_,?_,trivial⟩ ?_ ?_
  ·intro E θ a w hD hi hp he hc
   have hf := he.h0
   replace hf := hf.more he 0 rfl onT
   refine stP hf rfl rfl rfl (pFA fa_165_0 rfl) fun a hf => cNil ?_
   refine xThenN ?_
   intro ds u hau
   refine ⟨θ,he.put0 hi hau hf rfl 3 rfl rfl,?_⟩
   exact hc
  ·intro E θ a w hD hi hp he hc
   have e0 := hp.of (k := 0) rfl
   have hf := he.h0
   replace hf := hf.more he 3 rfl (onP e0)
   refine stE hf hc rfl rfl rfl (eLd1 sc_3 rfl (cell_box m1 rfl)) fun a w hf hc => cNil ?_
   refine xThenN ?_
   intro ds u hau
   refine ⟨θ,he.put0 hi hau hf rfl 4 rfl rfl,?_⟩
   exact hc
  ·intro E θ a w hD hi hp he hc
   have hf := he.h0
   replace hf := hf.more he 2 rfl onT
   refine stP hf rfl rfl rfl (pM rfl) fun a hf => cNil ?_
   refine xThenN ?_
   intro ds u hau
   refine ⟨θ,he.put0 hi hau hf rfl 5 rfl rfl,?_⟩
   exact hc
  ·intro E θ a w hD hi hp he hc
   have e1 := hp.of (k := 1) rfl
   have e2 := hp.of (k := 2) rfl
   have hf := he.h0
   replace hf := hf.more he 4 rfl (onP e1)
   replace hf := hf.more he 5 rfl (onP e2)
   refine stP hf rfl rfl rfl (pQuo rfl rfl (nz_spec hun)) fun a hf => cNil ?_
   refine xThenN ?_
   intro ds u hau
   refine ⟨θ,he.put0 hi hau hf rfl 6 rfl rfl,?_⟩
   exact hc
  ·intro E θ a w hD hi hp he hc
   have hf := he.h0
   replace hf := hf.more he 0 rfl onT
   refine stP hf rfl rfl rfl (pFA fa_165_1 rfl) fun a hf => cNil ?_
   refine xThenN ?_
   intro ds u hau
   refine ⟨θ,he.put0 hi hau hf rfl 7 rfl rfl,?_⟩
   exact hc
  ·intro E θ a w hD hi hp he hc
   have e4 := hp.of (k := 4) rfl
   have hf := he.h0
   replace hf := hf.more he 7 rfl (onP e4)
   refine stE hf hc rfl rfl rfl (eLd1 sc_3 rfl (cell_box m1 rfl)) fun a w hf hc => cNil ?_
   refine xThenN ?_
   intro ds u hau
   refine ⟨θ,he.put0 hi hau hf rfl 8 rfl rfl,?_⟩
   exact hc
  ·intro E θ a w hD hi hp he hc
   have hf := he.h0
   replace hf := hf.more he 2 rfl onT
   refine stP hf rfl rfl rfl (pM rfl) fun a hf => cNil ?_
   refine xThenN ?_
   intro ds u hau
   refine ⟨θ,he.put0 hi hau hf rfl 9 rfl rfl,?_⟩
   exact hc
  ·intro E θ a w hD hi hp he hc
   have e5 := hp.of (k := 5) rfl
   have e6 := hp.of (k := 6) rfl
   have hf := he.h0
   replace hf := hf.more he 8 rfl (onP e5)
   replace hf := hf.more he 9 rfl (onP e6)
   refine stP hf rfl rfl rfl (pQuo rfl rfl (nz_spec hun_1)) fun a hf => cNil ?_
   refine xThenN ?_
   intro ds u hau
   refine ⟨θ,he.put0 hi hau hf rfl 10 rfl rfl,?_⟩
   exact hc
  ·intro E θ a w hD hi hp he hc
   have e3 := hp.of (k := 3) rfl
   have e7 := hp.of (k := 7) rfl
   have hf := he.h0
   replace hf := hf.more he 6 rfl (onP e3)
   replace hf := hf.more he 10 rfl (onP e7)
   refine stP hf rfl rfl rfl (pBuildS (cells := [.int .i64 (W (q.claim.tdiv a_1)),.int .i64 (W (q.by_.tdiv a_1))]) bt_71 rfl rfl) fun a hf => cNil ?_
   refine xThenN ?_
   intro ds u hau
   refine ⟨θ,he.put0 hi hau hf rfl 11 rfl rfl,?_⟩
   exact hc
  ·intro E θ a w hD hi hp he hc
   have e8 := hp.of (k := 8) rfl
   try dsimp only at hc
   rw [hi] at hc
   have hf := he.h0
   replace hf := hf.more he 1 rfl onT
   replace hf := hf.more he 11 rfl (onP e8)
   refine stSt (vs := [.int .i64 (W (q.claim.tdiv a_1)),.int .i64 (W (q.by_.tdiv a_1))]) hf hc rfl rfl rfl rfl sz_71 rfl rfl u0 fun w hc => cNil ?_
   refine xThenN ?_
   intro ds u hau
   refine ⟨θ,he.stay0 hi hau hf rfl,?_⟩
   try dsimp only
   rw [updE_self E 9]
   exact hc
  ·intro E θ a w hall he hc
   have hf := he.h0
   have e9 := hall 9 rfl
   replace hf := hf.more he 1 rfl (onT)
   try dsimp only at hc
   rw [e9] at hc
   exact ⟨hf.keep ⟨rfl,trivial⟩,hc⟩
  rintro a w ⟨hf,hc⟩
  refine h5 _ _ ?_
  refine wp_ret ?_
  obtain rfl := Option.some.inj hF
  replace hc := hc.drop k1
  exact fnOut1 (by simp) rfl Try.results91 hf hc (rv_cellN (vs := [.int .i64 (W (q.claim.tdiv a_1)),.int .i64 (W (q.by_.tdiv a_1))]) ag_71 rfl rfl (cells_box (n := 2) m0 rfl)) ⟨rfl,(hc.drop k0)⟩
 have ho4 : ∀ r,x4 = .out r → r = res := by
  rintro r rfl
  exact Option.some.inj hF
 refine cLoop N (loopW (S := S4) (x := x4) ?_ N (q.claim,q.by_) _ _ ⟨hf.keep ⟨rfl,rfl,rfl,rfl,trivial⟩,hc⟩ hx4)
 clear hF hf hc
 rintro ⟨a_1,b_3⟩ st4 a w KB4 ⟨hf,hc⟩ hF hfin4 hK4
 unfold share_quotient_ratio_b4 at hF
 refine wp_seq_k fun K6 h6 => wp_seq_k fun K7 h7 => cReg ?_
 refine stP hf rfl rfl rfl (pM rfl) fun a hf => stP hf rfl rfl rfl (pNe rfl rfl) fun a hf => cNil ?_
 refine h7 _ _ ?_
 refine cCond (b := (b_3 != 0)) hf rfl (fun hb => ?_) (fun hb => ?_)
 ·replace hF := condT hb hF
  clear hb
  refine wp_skip ?_
  refine h6 _ _ ?_
  refine wp_thenK fun K8 h8 => wp_block ?_
  obtain ⟨un_2,hun_2,hF⟩ := bnd_some hF
  refine cQ hc follows_mx (by kernel_rfl) ?_
  refine qE hf rfl rfl rfl (Pu.ev (pM rfl)) fun a hf => qE hf rfl rfl rfl (Pu.ev (pM rfl)) fun a hf => qE hf rfl rfl rfl (Pu.ev (pM rfl)) fun a hf => qE hf rfl rfl rfl (Pu.ev (pRem rfl rfl (nz_spec hun_2))) fun a hf => qE hf rfl rfl rfl (Pu.ev (pA rfl)) fun a hf => qE hf rfl rfl rfl (Pu.ev (pA rfl)) fun a hf => ?_
  intro w hc
  refine h8 _ _ ?_
  exact hK4 (b_3,a_1.tmod b_3) _ _ (Option.some.inj hF).symm ⟨hf.keep ⟨rfl,rfl,rfl,rfl,trivial⟩,hc⟩
 ·replace hF := condF hb hF
  clear hb
  refine wp_exit ?_
  refine xThen ?_
  refine xThen ?_
  have he := Option.some.inj hF
  rw [← he] at hfin4
  refine cHit ?_
  exact hr4 _ _ _ hfin4 ⟨hf.keep ⟨rfl,rfl,rfl,rfl,trivial⟩,hc⟩

def share_Divisors_j18 (N : Nat) (x : Int) (next__1 : List share_quotient) (x_3 : Int) (x_4 : Int) : Option (Step ((List share_quotient) × Int × Int × Int) (api_Ratio × api_Ratio × Int)) :=
 some (.cont (next__1,W (x + 1),x_3,x_4))
def share_Divisors_b10 (N : Nat) (claims : List Int) (shares : List Int) (rule : Int) (next_ : List share_quotient) (x : Int) (x_1 : Int) (x_2 : Int) : Option (Step ((List share_quotient) × Int × Int × Int) (api_Ratio × api_Ratio × Int)) :=
 cond (decide (x < ((shares.length : Nat) : Int)))
 (Option.bind (getI shares x) fun e_2 =>
 Option.bind (getI claims x) fun e_3 =>
 Option.bind (share_Rule_day N rule e_3 (W (e_2 + 1))) fun r_4 =>
 Option.bind (room ((next_ ++ [r_4])).length) fun un =>
 Option.bind (getI claims x) fun e_4 =>
 Option.bind (share_Rule_day N rule e_4 e_2) fun r_5 =>
 cond ((decide (0 < r_5.by_)) && (share_quotient_more (⟨x_1,x_2⟩ : share_quotient) r_5))
 (share_Divisors_j18 N x (next_ ++ [r_4]) r_5.claim r_5.by_)
 (share_Divisors_j18 N x (next_ ++ [r_4]) x_1 x_2))
 (some (.brk (next_,x,x_1,x_2)))
def share_Divisors (N : Nat) (claims : List Int) (shares : List Int) (rule : Int) : Option (api_Ratio × api_Ratio × Int) :=
 Option.bind (share_shared N claims shares rule) fun r =>
 cond (r != 0)
 (some ((⟨0,0⟩ : api_Ratio),(⟨0,0⟩ : api_Ratio),r))
 (Option.bind (loopO (fun s10 => share_Divisors_b10 N claims shares rule s10.1 s10.2.1 s10.2.2.1 s10.2.2.2) N (([] : List share_quotient),0,2000000,1)) fun x10 =>
 exK x10 (fun s10 => Option.bind (getI s10.1 0) fun e_1 =>
 Option.bind (subO s10.1 1 ((s10.1.length : Nat) : Int)) fun sub =>
 Option.bind (share_greatest N e_1 sub) fun r_1 =>
 cond (share_quotient_more r_1 (⟨s10.2.2.1,s10.2.2.2⟩ : share_quotient))
 (some ((⟨0,0⟩ : api_Ratio),(⟨0,0⟩ : api_Ratio),7))
 (Option.bind (share_quotient_ratio N r_1) fun r_2 =>
 Option.bind (share_quotient_ratio N (⟨s10.2.2.1,s10.2.2.2⟩ : share_quotient)) fun r_3 =>
 some (r_2,r_3,0))) some)
theorem share_Divisors_ok {N : Nat} {G : Pers} {Lf : List Ent} {w : World} (claims : List Int) (shares : List Int) (rule : Int) {claims_p : Option Addr} {claims_c : Nat} {shares_p : Option Addr} {shares_c : Nat} (h_claims : Rd G 1 claims_p claims_c (claims.map encI_i64)) (h_shares : Rd G 1 shares_p shares_c (shares.map encI_i64)) (hc : Ctx G (Lf) w) {res : api_Ratio × api_Ratio × Int} (hF : share_Divisors N claims shares rule = some res) : Calls Try.prog 39 #[.slice claims_p claims.length claims_c,.slice shares_p shares.length shares_c,.int .i64 rule] w (fun e w => e = .returned (.tuple #[.agg #[.int .i64 res.1.N,.int .i64 res.1.D],.agg #[.int .i64 res.2.1.N,.int .i64 res.2.1.D],.int .i64 res.2.2]) ∧ Ctx G (Lf) w) := by
 unfold share_Divisors at hF
 refine fnIn (args := [.slice claims_p claims.length claims_c,.slice shares_p shares.length shares_c,.int .i64 rule]) Try.func39 rfl Try.ntmps39 rfl fun a hf => wp_seq_k fun K1 h1 => cReg ?_
 refine stAl (cs := [.int .i64 0,.int .i64 0]) hf hc rfl rfl zr_71 rfl fun b_1 a w hf hc => stAl (cs := [.int .i64 0,.int .i64 0]) hf hc rfl rfl zr_71 rfl fun b_2 a w hf hc => stP hf rfl rfl rfl (pA rfl) fun a hf => cNil ?_
 refine h1 _ _ ?_
 refine wp_seq_k fun K2 h2 => wp_seq_k fun K3 h3 => cReg ?_
 refine stP hf rfl rfl rfl (pM rfl) fun a hf => stP hf rfl rfl rfl (pM rfl) fun a hf => stP hf rfl rfl rfl (pM rfl) fun a hf => ?_
 obtain ⟨r,hr,hF⟩ := bnd_some hF
 refine stE hf hc rfl rfl rfl (eC (v := .int .i64 r) (vs := [.slice claims_p claims.length claims_c,.slice shares_p shares.length shares_c,.int .i64 rule]) (caps := []) en_88 rfl rfl rfl rfl (fun w hc => share_shared_ok claims shares rule h_claims h_shares hc hr)) fun a w hf hc => stP hf rfl rfl rfl (pA rfl) fun a hf => cNil ?_
 refine h3 _ _ ?_
 refine wp_seq_k fun K4 h4 => cReg ?_
 refine stP hf rfl rfl rfl (pM rfl) fun a hf => stP hf rfl rfl rfl (pNe rfl rfl) fun a hf => cNil ?_
 refine h4 _ _ ?_
 refine cCond (b := (r != 0)) hf rfl (fun hb => ?_) (fun hb => ?_)
 ·replace hF := condT hb hF
  clear hb
  refine wp_seq_k fun K5 h5 => cReg ?_
  refine stP hf rfl rfl rfl (pBuildS (cells := [.int .i64 0,.int .i64 0]) bt_71 rfl rfl) fun a hf => stP hf rfl rfl rfl (pBuildS (cells := [.int .i64 0,.int .i64 0]) bt_71 rfl rfl) fun a hf => stP hf rfl rfl rfl (pM rfl) fun a hf => stSt (vs := [.int .i64 0,.int .i64 0]) hf hc rfl rfl rfl rfl sz_71 rfl rfl u1 fun w hc => stSt (vs := [.int .i64 0,.int .i64 0]) hf hc rfl rfl rfl rfl sz_71 rfl rfl u0 fun w hc => stP hf rfl rfl rfl (pA rfl) fun a hf => cNil ?_
  refine h5 _ _ ?_
  refine wp_ret ?_
  refine xThenR ?_
  obtain rfl := Option.some.inj hF
  replace hc := hc.pick k0
  replace hc := hc.pick k1
  exact fnOut3 (by simp) rfl Try.results39 hf hc (rv_cellN (vs := [.int .i64 0,.int .i64 0]) ag_71 rfl rfl (cells_box (n := 2) m0 rfl)) (rv_cellN (vs := [.int .i64 0,.int .i64 0]) ag_71 rfl rfl (cells_box (n := 2) m1 rfl)) (show look _ 8 = _ from rfl) ⟨rfl,((hc.drop k1).drop k0)⟩
 ·replace hF := condF hb hF
  clear hb
  refine wp_skip ?_
  refine h2 _ _ ?_
  refine wp_seq_k fun K6 h6 => cReg ?_
  refine stP hf rfl rfl rfl (pA rfl) fun a hf => cNil ?_
  refine h6 _ _ ?_
  refine wp_seq_k fun K7 h7 => cReg ?_
  refine stP hf rfl rfl rfl (pBuildS (cells := [.int .i64 2000000,.int .i64 1]) bt_165 rfl rfl) fun a hf => stAl (cs := [.int .i64 0,.int .i64 0]) hf hc rfl rfl zr_165 rfl fun b_3 a w hf hc => stSt (vs := [.int .i64 2000000,.int .i64 1]) hf hc rfl rfl rfl rfl sz_165 rfl rfl u0 fun w hc => cNil ?_
  refine h7 _ _ ?_
  refine wp_seq_k fun K8 h8 => wp_seq_k fun K9 h9 => cReg ?_
  refine stP hf rfl rfl rfl (pM rfl) fun a hf => stP hf rfl rfl rfl (pLenS Try.underlying36 rfl) fun a hf => stP hf rfl rfl rfl (pM rfl) fun a hf => cNil ?_
  refine h9 _ _ ?_
  refine wp_block ?_
  obtain ⟨x10,hx10,hF⟩ := bnd_some hF
  let S10 : ((List share_quotient) × Int × Int × Int) → Act → World → Prop := (fun (zz : (List share_quotient) × Int × Int × Int) a w => ∃ (p_1 : Option Addr) (c_1 : Nat),Has 76 a [(0,.slice claims_p claims.length claims_c),(2,.int .i64 rule),(6,.pointer (some ⟨b_1,0,none⟩)),(7,.pointer (some ⟨b_2,0,none⟩)),(10,.slice p_1 zz.1.length c_1),(11,.pointer (some ⟨b_3,0,none⟩)),(26,.slice shares_p shares.length shares_c),(27,.int .i64 ((shares.length : Nat) : Int)),(28,.int .i64 zz.2.1)] ∧ Ctx G (.row p_1 c_1 (zz.1.map enc_share_quotient) 165 2::.box b_3 [.int .i64 zz.2.2.1,.int .i64 zz.2.2.2] 165::.box b_2 [.int .i64 0,.int .i64 0] 71::.box b_1 [.int .i64 0,.int .i64 0] 71::Lf) w)
  have hr10 : ∀ (zz : (List share_quotient) × Int × Int × Int) a w,x10 = .go zz → S10 zz a w → K8 a w := by
   rintro ⟨next_,x,x_1,x_2⟩ a w rfl ⟨p_1,c_1,hf,hc⟩
   replace hF := exK_go hF
   refine h8 _ _ ?_
   refine wp_seq_k fun K11 h11 => ?_
   obtain ⟨e_1,he_1,hF⟩ := bnd_some hF
   obtain ⟨g,rfl,qa,qr⟩ := row_atm hc m0 he_1
   have qc := row_cap hc m0
   obtain ⟨sub,hsub,hF⟩ := bnd_some hF
   obtain ⟨r_1,hr_1,hF⟩ := bnd_some hF
   replace hc := hc.nilRow 0 0
   refine regionE (fun θ => [⟨none,none,6,.pointer (some ⟨b_1,0,none⟩)⟩,⟨none,none,7,.pointer (some ⟨b_2,0,none⟩)⟩,⟨none,none,10,.slice (some ⟨g,0,none⟩) next_.length c_1⟩,⟨none,none,11,.pointer (some ⟨b_3,0,none⟩)⟩,⟨some 0,none,61,.slice (some ⟨g,0,none⟩) next_.length c_1⟩,⟨some 1,none,62,.pointer (some ⟨g,(0 : Int).toNat * 2,none⟩)⟩,⟨some 2,none,63,.agg #[.int .i64 e_1.claim,.int .i64 e_1.by_]⟩,⟨some 3,none,64,.slice (some ⟨g,0,none⟩) next_.length c_1⟩,⟨some 4,none,65,.slice (subP (some ⟨g,0,none⟩) c_1 (1 : Int).toNat 2) sub.length (c_1 - (1 : Int).toNat)⟩,⟨some 5,none,66,.agg #[.int .i64 r_1.claim,.int .i64 r_1.by_]⟩,⟨some 6,none,15,.pointer (some ⟨(θ 48).b,0,none⟩)⟩]) (fun E θ => (bif E 7 then .box (θ 48).b [.int .i64 r_1.claim,.int .i64 r_1.by_] 165 else bif E 6 then .box (θ 48).b [.int .i64 0,.int .i64 0] 165 else .row none 0 [] 0 0)::.row (some ⟨g,0,none⟩) c_1 (next_.map enc_share_quotient) 165 2::.box b_3 [.int .i64 x_1,.int .i64 x_2] 165::.box b_2 [.int .i64 0,.int .i64 0] 71::.box b_1 [.int .i64 0,.int .i64 0] 71::Lf) [(7,6)] (fun a w => ∃ (b_5 : Nat),Has 76 a [(6,.pointer (some ⟨b_1,0,none⟩)),(7,.pointer (some ⟨b_2,0,none⟩)),(11,.pointer (some ⟨b_3,0,none⟩)),(15,.pointer (some ⟨b_5,0,none⟩))] ∧ Ctx G (.box b_5 [.int .i64 r_1.claim,.int .i64 r_1.by_] 165::.row (some ⟨g,0,none⟩) c_1 (next_.map enc_share_quotient) 165 2::.box b_3 [.int .i64 x_1,.int .i64 x_2] 165::.box b_2 [.int .i64 0,.int .i64 0] 71::.box b_1 [.int .i64 0,.int .i64 0] 71::Lf) w) follows_mx (by kernel_rfl) (by kernel_rfl) (HasE.of hf ⟨rfl,rfl,rfl,rfl,trivial,trivial,trivial,trivial,trivial,trivial,trivial,trivial⟩) hc ⟨?_,?_,?_,?_,?_,?_,?_,?_,trivial⟩ ?_ ?_
   ·intro E θ a w hD hi hp he hc
    have hf := he.h0
    replace hf := hf.more he 2 rfl onT
    refine stP hf rfl rfl rfl (pM rfl) fun a hf => cNil ?_
    refine xThenN ?_
    intro ds u hau
    refine ⟨θ,he.put0 hi hau hf rfl 4 rfl rfl,?_⟩
    exact hc
   ·intro E θ a w hD hi hp he hc
    have e0 := hp.of (k := 0) rfl
    have hf := he.h0
    replace hf := hf.more he 4 rfl (onP e0)
    refine stP hf rfl rfl rfl (pIA Try.underlying171 sz_165 rfl rfl qa) fun a hf => cNil ?_
    refine xThenN ?_
    intro ds u hau
    refine ⟨θ,he.put0 hi hau hf rfl 5 rfl rfl,?_⟩
    exact hc
   ·intro E θ a w hD hi hp he hc
    have e1 := hp.of (k := 1) rfl
    have hf := he.h0
    replace hf := hf.more he 5 rfl (onP e1)
    refine stE hf hc rfl rfl rfl (eLdN (vs := [.int .i64 e_1.claim,.int .i64 e_1.by_]) ag_165 rfl rfl (cells_rw (sz := 2) (i := (0 : Int).toNat) m1 qr (n := 2) (o' := 0) rfl)) fun a w hf hc => cNil ?_
    refine xThenN ?_
    intro ds u hau
    refine ⟨θ,he.put0 hi hau hf rfl 6 rfl rfl,?_⟩
    exact hc
   ·intro E θ a w hD hi hp he hc
    have hf := he.h0
    replace hf := hf.more he 2 rfl onT
    refine stP hf rfl rfl rfl (pM rfl) fun a hf => cNil ?_
    refine xThenN ?_
    intro ds u hau
    refine ⟨θ,he.put0 hi hau hf rfl 7 rfl rfl,?_⟩
    exact hc
   ·intro E θ a w hD hi hp he hc
    have e3 := hp.of (k := 3) rfl
    have hf := he.h0
    replace hf := hf.more he 7 rfl (onP e3)
    refine stP hf rfl rfl rfl (pSl Try.underlying171 sz_165 rfl rfl qc rfl rfl hsub) fun a hf => cNil ?_
    refine xThenN ?_
    intro ds u hau
    refine ⟨θ,he.put0 hi hau hf rfl 8 rfl rfl,?_⟩
    exact hc
   ·intro E θ a w hD hi hp he hc
    have e2 := hp.of (k := 2) rfl
    have e4 := hp.of (k := 4) rfl
    have hf := he.h0
    replace hf := hf.more he 6 rfl (onP e2)
    replace hf := hf.more he 8 rfl (onP e4)
    refine stE hf hc rfl rfl rfl (eC (v := .agg #[.int .i64 r_1.claim,.int .i64 r_1.by_]) (vs := [.agg #[.int .i64 e_1.claim,.int .i64 e_1.by_],.slice (subP (some ⟨g,0,none⟩) c_1 (1 : Int).toNat 2) sub.length (c_1 - (1 : Int).toNat)]) (caps := []) en_90 rfl rfl rfl rfl (fun w hc => by obtain ⟨G1,hle1,hrd1,hc,hth1⟩ := lend hc k1; exact (share_greatest_ok e_1 sub (Rd.sub hrd1 hsub) hc hr_1).mono fun e w h => ⟨h.1,((hth1 _ _ h.2).unpick k1)⟩)) fun a w hf hc => cNil ?_
    refine xThenN ?_
    intro ds u hau
    refine ⟨θ,he.put0 hi hau hf rfl 9 rfl rfl,?_⟩
    exact hc
   ·intro E θ a w hD hi hp he hc
    have e7 := hD.f 0 rfl hi
    try dsimp only at hc
    rw [hi,e7] at hc
    have hf := he.h0
    refine stAl (cs := [.int .i64 0,.int .i64 0]) hf hc rfl rfl zr_165 rfl fun b_4 a w hf hc => cNil ?_
    refine xThenN ?_
    intro ds u hau
    replace hc := hc.drop k1
    refine ⟨(setT θ 48 ⟨b_4,none,0,(fun _ => (none,0))⟩),he.put hi hau hf rfl [] trivial ⟨qq,qq,qq,qq,qq,qq,qq,qq,qq,qq,qq,trivial⟩,?_⟩
    try dsimp only
    rw [updE_self E 6,updE_fls 6 e7 rfl]
    exact hc
   ·intro E θ a w hD hi hp he hc
    have e5 := hp.of (k := 5) rfl
    have e6 := hp.of (k := 6) rfl
    try dsimp only at hc
    rw [e6,hi] at hc
    have hf := he.h0
    replace hf := hf.more he 9 rfl (onP e5)
    replace hf := hf.more he 10 rfl (onP e6)
    refine stSt (vs := [.int .i64 r_1.claim,.int .i64 r_1.by_]) hf hc rfl rfl rfl rfl sz_165 rfl rfl u0 fun w hc => cNil ?_
    refine xThenN ?_
    intro ds u hau
    refine ⟨θ,he.stay0 hi hau hf rfl,?_⟩
    try dsimp only
    rw [updE_tru 7 e6,updE_self E 7]
    exact hc
   ·intro E θ a w hall he hc
    have hf := he.h0
    have e6 := hall 6 rfl
    have e7 := hall 7 rfl
    replace hf := hf.more he 10 rfl (onP e6)
    replace hf := hf.more he 3 rfl (onT)
    replace hf := hf.more he 1 rfl (onT)
    replace hf := hf.more he 0 rfl (onT)
    try dsimp only at hc
    rw [e6,e7] at hc
    exact ⟨(θ 48).b,hf.keep ⟨rfl,rfl,rfl,rfl,trivial⟩,hc⟩
   rintro a w ⟨b_5,hf,hc⟩
   refine h11 _ _ ?_
   refine wp_seq_k fun K12 h12 => wp_seq_k fun K13 h13 => cReg ?_
   refine stE hf hc rfl rfl rfl (eLdN (vs := [.int .i64 r_1.claim,.int .i64 r_1.by_]) ag_165 rfl rfl (cells_box (n := 2) m0 rfl)) fun a w hf hc => stE hf hc rfl rfl rfl (eLdN (vs := [.int .i64 x_1,.int .i64 x_2]) ag_165 rfl rfl (cells_box (n := 2) m2 rfl)) fun a w hf hc => stE hf hc rfl rfl rfl (eC (v := .bool (share_quotient_more r_1 (⟨x_1,x_2⟩ : share_quotient))) (vs := [.agg #[.int .i64 r_1.claim,.int .i64 r_1.by_],.agg #[.int .i64 x_1,.int .i64 x_2]]) (caps := []) en_84 rfl rfl rfl rfl (fun w hc => share_quotient_more_ok r_1 (⟨x_1,x_2⟩ : share_quotient) hc rfl)) fun a w hf hc => cNil ?_
   refine h13 _ _ ?_
   refine cCond (b := (share_quotient_more r_1 (⟨x_1,x_2⟩ : share_quotient))) hf rfl (fun hb => ?_) (fun hb => ?_)
   ·replace hF := condT hb hF
    clear hb
    refine wp_seq_k fun K14 h14 => cReg ?_
    refine stP hf rfl rfl rfl (pBuildS (cells := [.int .i64 0,.int .i64 0]) bt_71 rfl rfl) fun a hf => stP hf rfl rfl rfl (pBuildS (cells := [.int .i64 0,.int .i64 0]) bt_71 rfl rfl) fun a hf => stSt (vs := [.int .i64 0,.int .i64 0]) hf hc rfl rfl rfl rfl sz_71 rfl rfl u4 fun w hc => stSt (vs := [.int .i64 0,.int .i64 0]) hf hc rfl rfl rfl rfl sz_71 rfl rfl u3 fun w hc => stP hf rfl rfl rfl (pA rfl) fun a hf => cNil ?_
    refine h14 _ _ ?_
    refine wp_ret ?_
    refine xThenR ?_
    obtain rfl := Option.some.inj hF
    replace hc := hc.drop k2
    replace hc := hc.drop k1
    replace hc := hc.drop k0
    replace hc := hc.pick k0
    replace hc := hc.pick k1
    exact fnOut3 (by simp) rfl Try.results39 hf hc (rv_cellN (vs := [.int .i64 0,.int .i64 0]) ag_71 rfl rfl (cells_box (n := 2) m0 rfl)) (rv_cellN (vs := [.int .i64 0,.int .i64 0]) ag_71 rfl rfl (cells_box (n := 2) m1 rfl)) (show look _ 8 = _ from rfl) ⟨rfl,((hc.drop k1).drop k0)⟩
   ·replace hF := condF hb hF
    clear hb
    refine wp_skip ?_
    refine h12 _ _ ?_
    refine wp_seq_k fun K15 h15 => ?_
    obtain ⟨r_2,hr_2,hF⟩ := bnd_some hF
    obtain ⟨r_3,hr_3,hF⟩ := bnd_some hF
    refine regionE (fun θ => [⟨none,none,6,.pointer (some ⟨b_1,0,none⟩)⟩,⟨none,none,7,.pointer (some ⟨b_2,0,none⟩)⟩,⟨none,none,11,.pointer (some ⟨b_3,0,none⟩)⟩,⟨none,none,15,.pointer (some ⟨b_5,0,none⟩)⟩,⟨some 0,none,72,.agg #[.int .i64 r_1.claim,.int .i64 r_1.by_]⟩,⟨some 1,none,73,.agg #[.int .i64 r_2.N,.int .i64 r_2.D]⟩,⟨some 2,none,74,.agg #[.int .i64 x_1,.int .i64 x_2]⟩,⟨some 3,none,75,.agg #[.int .i64 r_3.N,.int .i64 r_3.D]⟩,⟨some 6,none,8,.int .i64 0⟩]) (fun E θ => .box b_5 [.int .i64 r_1.claim,.int .i64 r_1.by_] 165::.row (some ⟨g,0,none⟩) c_1 (next_.map enc_share_quotient) 165 2::.box b_3 [.int .i64 x_1,.int .i64 x_2] 165::(bif E 5 then .box b_2 [.int .i64 r_3.N,.int .i64 r_3.D] 71 else .box b_2 [.int .i64 0,.int .i64 0] 71)::(bif E 4 then .box b_1 [.int .i64 r_2.N,.int .i64 r_2.D] 71 else .box b_1 [.int .i64 0,.int .i64 0] 71)::Lf) [] (fun a w => Has 76 a [(6,.pointer (some ⟨b_1,0,none⟩)),(7,.pointer (some ⟨b_2,0,none⟩)),(8,.int .i64 0)] ∧ Ctx G (.box b_5 [.int .i64 r_1.claim,.int .i64 r_1.by_] 165::.row (some ⟨g,0,none⟩) c_1 (next_.map enc_share_quotient) 165 2::.box b_3 [.int .i64 x_1,.int .i64 x_2] 165::.box b_2 [.int .i64 r_3.N,.int .i64 r_3.D] 71::.box b_1 [.int .i64 r_2.N,.int .i64 r_2.D] 71::Lf) w) follows_mx (by kernel_rfl) (by kernel_rfl) (HasE.of hf ⟨rfl,rfl,rfl,rfl,trivial,trivial,trivial,trivial,trivial,trivial⟩) hc ⟨?_,?_,?_,?_,?_,?_,?_,trivial⟩ ?_ ?_
    ·intro E θ a w hD hi hp he hc
     have hf := he.h0
     replace hf := hf.more he 3 rfl onT
     refine stE hf hc rfl rfl rfl (eLdN (vs := [.int .i64 r_1.claim,.int .i64 r_1.by_]) ag_165 rfl rfl (cells_box (n := 2) m0 rfl)) fun a w hf hc => cNil ?_
     refine xThenN ?_
     intro ds u hau
     refine ⟨θ,he.put0 hi hau hf rfl 4 rfl rfl,?_⟩
     exact hc
    ·intro E θ a w hD hi hp he hc
     have e0 := hp.of (k := 0) rfl
     have hf := he.h0
     replace hf := hf.more he 4 rfl (onP e0)
     refine stE hf hc rfl rfl rfl (eC (v := .agg #[.int .i64 r_2.N,.int .i64 r_2.D]) (vs := [.agg #[.int .i64 r_1.claim,.int .i64 r_1.by_]]) (caps := []) en_91 rfl rfl rfl rfl (fun w hc => share_quotient_ratio_ok r_1 hc hr_2)) fun a w hf hc => cNil ?_
     refine xThenN ?_
     intro ds u hau
     refine ⟨θ,he.put0 hi hau hf rfl 5 rfl rfl,?_⟩
     exact hc
    ·intro E θ a w hD hi hp he hc
     have hf := he.h0
     replace hf := hf.more he 2 rfl onT
     refine stE hf hc rfl rfl rfl (eLdN (vs := [.int .i64 x_1,.int .i64 x_2]) ag_165 rfl rfl (cells_box (n := 2) m2 rfl)) fun a w hf hc => cNil ?_
     refine xThenN ?_
     intro ds u hau
     refine ⟨θ,he.put0 hi hau hf rfl 6 rfl rfl,?_⟩
     exact hc
    ·intro E θ a w hD hi hp he hc
     have e2 := hp.of (k := 2) rfl
     have hf := he.h0
     replace hf := hf.more he 6 rfl (onP e2)
     refine stE hf hc rfl rfl rfl (eC (v := .agg #[.int .i64 r_3.N,.int .i64 r_3.D]) (vs := [.agg #[.int .i64 x_1,.int .i64 x_2]]) (caps := []) en_91 rfl rfl rfl rfl (fun w hc => share_quotient_ratio_ok (⟨x_1,x_2⟩ : share_quotient) hc hr_3)) fun a w hf hc => cNil ?_
     refine xThenN ?_
     intro ds u hau
     refine ⟨θ,he.put0 hi hau hf rfl 7 rfl rfl,?_⟩
     exact hc
    ·intro E θ a w hD hi hp he hc
     have e1 := hp.of (k := 1) rfl
     try dsimp only at hc
     rw [hi] at hc
     have hf := he.h0
     replace hf := hf.more he 0 rfl onT
     replace hf := hf.more he 5 rfl (onP e1)
     refine stSt (vs := [.int .i64 r_2.N,.int .i64 r_2.D]) hf hc rfl rfl rfl rfl sz_71 rfl rfl u4 fun w hc => cNil ?_
     refine xThenN ?_
     intro ds u hau
     refine ⟨θ,he.stay0 hi hau hf rfl,?_⟩
     try dsimp only
     rw [updE_self E 4]
     exact hc
    ·intro E θ a w hD hi hp he hc
     have e3 := hp.of (k := 3) rfl
     try dsimp only at hc
     rw [hi] at hc
     have hf := he.h0
     replace hf := hf.more he 1 rfl onT
     replace hf := hf.more he 7 rfl (onP e3)
     refine stSt (vs := [.int .i64 r_3.N,.int .i64 r_3.D]) hf hc rfl rfl rfl rfl sz_71 rfl rfl u3 fun w hc => cNil ?_
     refine xThenN ?_
     intro ds u hau
     refine ⟨θ,he.stay0 hi hau hf rfl,?_⟩
     try dsimp only
     rw [updE_self E 5]
     exact hc
    ·intro E θ a w hD hi hp he hc
     have hf := he.h0
     refine stP hf rfl rfl rfl (pA rfl) fun a hf => cNil ?_
     refine xThenN ?_
     intro ds u hau
     refine ⟨θ,he.put0 hi hau hf rfl 8 rfl rfl,?_⟩
     exact hc
    ·intro E θ a w hall he hc
     have hf := he.h0
     have e4 := hall 4 rfl
     have e5 := hall 5 rfl
     have e6 := hall 6 rfl
     replace hf := hf.more he 8 rfl (onP e6)
     replace hf := hf.more he 1 rfl (onT)
     replace hf := hf.more he 0 rfl (onT)
     try dsimp only at hc
     rw [e4,e5] at hc
     exact ⟨hf.keep ⟨rfl,rfl,rfl,trivial⟩,hc⟩
    rintro a w ⟨hf,hc⟩
    refine h15 _ _ ?_
    refine wp_ret ?_
    obtain rfl := Option.some.inj hF
    replace hc := hc.drop k2
    replace hc := hc.drop k1
    replace hc := hc.drop k0
    replace hc := hc.pick k0
    replace hc := hc.pick k1
    exact fnOut3 (by simp) rfl Try.results39 hf hc (rv_cellN (vs := [.int .i64 r_2.N,.int .i64 r_2.D]) ag_71 rfl rfl (cells_box (n := 2) m0 rfl)) (rv_cellN (vs := [.int .i64 r_3.N,.int .i64 r_3.D]) ag_71 rfl rfl (cells_box (n := 2) m1 rfl)) (show look _ 8 = _ from rfl) ⟨rfl,((hc.drop k1).drop k0)⟩
  have ho10 : ∀ r,x10 = .out r → r = res := by
   rintro r rfl
   exact Option.some.inj hF
  replace hc := hc.nilRow 165 2
  refine cLoop N (loopW (S := S10) (x := x10) ?_ N (([] : List share_quotient),0,2000000,1) _ _ ⟨none,0,hf.keep ⟨rfl,rfl,rfl,rfl,rfl,rfl,rfl,rfl,rfl,trivial⟩,hc⟩ hx10)
  clear hF hf hc
  rintro ⟨next_,x,x_1,x_2⟩ st10 a w KB10 ⟨p_1,c_1,hf,hc⟩ hF hfin10 hK10
  unfold share_Divisors_b10 at hF
  refine wp_seq_k fun K16 h16 => cReg ?_
  refine stP hf rfl rfl rfl (pLt rfl rfl) fun a hf => cNil ?_
  refine h16 _ _ ?_
  refine wp_seq_k fun K17 h17 => cCond (b := (decide (x < ((shares.length : Nat) : Int)))) hf rfl (fun hb => ?_) (fun hb => ?_)
  ·replace hF := condT hb hF
   clear hb
   refine wp_skip ?_
   refine h17 _ _ ?_
   refine wp_seq_k fun K18 h18 => ?_
   have hj18 : ∀ (next__1 : List share_quotient) (x_3 : Int) (x_4 : Int) (p_2 : Option Addr) (c_2 : Nat) a w,Has 76 a [(0,.slice claims_p claims.length claims_c),(2,.int .i64 rule),(6,.pointer (some ⟨b_1,0,none⟩)),(7,.pointer (some ⟨b_2,0,none⟩)),(10,.slice p_2 next__1.length c_2),(11,.pointer (some ⟨b_3,0,none⟩)),(26,.slice shares_p shares.length shares_c),(27,.int .i64 ((shares.length : Nat) : Int)),(28,.int .i64 x)] → Ctx G (.row p_2 c_2 (next__1.map enc_share_quotient) 165 2::.box b_3 [.int .i64 x_3,.int .i64 x_4] 165::.box b_2 [.int .i64 0,.int .i64 0] 71::.box b_1 [.int .i64 0,.int .i64 0] 71::Lf) w → share_Divisors_j18 N x next__1 x_3 x_4 = some st10 → K18 a w := by
    repeat (clear hF)
    repeat (clear hc)
    repeat (clear hf)
    intro next__1 x_3 x_4 p_2 c_2 a w hf hc hF
    unfold share_Divisors_j18 at hF
    refine h18 _ _ ?_
    refine cReg ?_
    refine stP hf rfl rfl rfl (pAdd rfl rfl) fun a hf => stP hf rfl rfl rfl (pM rfl) fun a hf => cNil ?_
    exact hK10 (next__1,W (x + 1),x_3,x_4) _ _ (Option.some.inj hF).symm ⟨p_2,c_2,hf.keep ⟨rfl,rfl,rfl,rfl,rfl,rfl,rfl,rfl,rfl,trivial⟩,hc⟩
   refine wp_block ?_
   refine wp_seq_k fun K19 h19 => cReg ?_
   refine stP hf rfl rfl rfl (pM rfl) fun a hf => ?_
   obtain ⟨e_2,he_2,hF⟩ := bnd_some hF
   obtain ⟨b_6,o,qa_1,qp⟩ := h_shares.atm he_2
   refine stP hf rfl rfl rfl (pIA Try.underlying36 sz_3 rfl rfl qa_1) fun a hf => stE hf hc rfl rfl rfl (eLd1 sc_3 rfl (cell_pc (j := 0) qp rfl)) fun a w hf hc => stP hf rfl rfl rfl (pA rfl) fun a hf => stP hf rfl rfl rfl (pA rfl) fun a hf => cNil ?_
   refine h19 _ _ ?_
   refine wp_seq_k fun K20 h20 => cReg ?_
   refine stP hf rfl rfl rfl (pM rfl) fun a hf => stP hf rfl rfl rfl (pM rfl) fun a hf => stP hf rfl rfl rfl (pM rfl) fun a hf => stP hf rfl rfl rfl (pM rfl) fun a hf => ?_
   obtain ⟨e_3,he_3,hF⟩ := bnd_some hF
   obtain ⟨b_7,o_1,qa_2,qp_1⟩ := h_claims.atm he_3
   refine stP hf rfl rfl rfl (pIA Try.underlying36 sz_3 rfl rfl qa_2) fun a hf => stE hf hc rfl rfl rfl (eLd1 sc_3 rfl (cell_pc (j := 0) qp_1 rfl)) fun a w hf hc => stP hf rfl rfl rfl (pM rfl) fun a hf => stP hf rfl rfl rfl (pAdd rfl rfl) fun a hf => ?_
   obtain ⟨r_4,hr_4,hF⟩ := bnd_some hF
   refine stE hf hc rfl rfl rfl (eC (v := .agg #[.int .i64 r_4.claim,.int .i64 r_4.by_]) (vs := [.int .i64 rule,.int .i64 e_3,.int .i64 (W (e_2 + 1))]) (caps := []) en_83 rfl rfl rfl rfl (fun w hc => share_Rule_day_ok rule e_3 (W (e_2 + 1)) hc hr_4)) fun a w hf hc => stBS (rows := ([r_4] : List share_quotient).map enc_share_quotient) (vs := [(0,.agg #[.int .i64 r_4.claim,.int .i64 r_4.by_])]) hf hc rfl rfl sl_171 rfl ⟨rfl,rfl,rfl,trivial⟩ rfl rfl fun b_8 a w hf hc => ?_
   obtain ⟨un,hun,hF⟩ := bnd_some hF
   refine stApm (xs := next_) (ys := ([r_4] : List share_quotient)) hf hc rfl rfl sl_171 rfl rfl rfl rfl rfl one_enc_share_quotient (src_row hc m0) (fun _ _ => u1) (by simpa using room_spec hun) fun p_3 c_3 a w hf hc => stP hf rfl rfl rfl (pA rfl) fun a hf => cNil ?_
   refine h20 _ _ ?_
   refine wp_seq_k fun K21 h21 => cReg ?_
   refine stP hf rfl rfl rfl (pM rfl) fun a hf => stP hf rfl rfl rfl (pM rfl) fun a hf => stP hf rfl rfl rfl (pM rfl) fun a hf => ?_
   obtain ⟨e_4,he_4,hF⟩ := bnd_some hF
   obtain ⟨b_9,o_2,qa_3,qp_2⟩ := h_claims.atm he_4
   refine stP hf rfl rfl rfl (pIA Try.underlying36 sz_3 rfl rfl qa_3) fun a hf => stE hf hc rfl rfl rfl (eLd1 sc_3 rfl (cell_pc (j := 0) qp_2 rfl)) fun a w hf hc => stP hf rfl rfl rfl (pM rfl) fun a hf => ?_
   obtain ⟨r_5,hr_5,hF⟩ := bnd_some hF
   refine stE hf hc rfl rfl rfl (eC (v := .agg #[.int .i64 r_5.claim,.int .i64 r_5.by_]) (vs := [.int .i64 rule,.int .i64 e_4,.int .i64 e_2]) (caps := []) en_83 rfl rfl rfl rfl (fun w hc => share_Rule_day_ok rule e_4 e_2 hc hr_5)) fun a w hf hc => stAl (cs := [.int .i64 0,.int .i64 0]) hf hc rfl rfl zr_165 rfl fun b_10 a w hf hc => stSt (vs := [.int .i64 r_5.claim,.int .i64 r_5.by_]) hf hc rfl rfl rfl rfl sz_165 rfl rfl u0 fun w hc => cNil ?_
   refine h21 _ _ ?_
   refine wp_seq_k fun K22 h22 => cReg ?_
   refine stP hf rfl rfl rfl (pFA fa_165_1 rfl) fun a hf => stE hf hc rfl rfl rfl (eLd1 sc_3 rfl (cell_box m0 rfl)) fun a w hf hc => stP hf rfl rfl rfl (pGt rfl rfl) fun a hf => stP hf rfl rfl rfl (pM rfl) fun a hf => stCut 4 (fun a w => Has 76 a [(0,.slice claims_p claims.length claims_c),(2,.int .i64 rule),(6,.pointer (some ⟨b_1,0,none⟩)),(7,.pointer (some ⟨b_2,0,none⟩)),(10,.slice p_3 ((next_ ++ [r_4]).length) c_3),(11,.pointer (some ⟨b_3,0,none⟩)),(26,.slice shares_p shares.length shares_c),(27,.int .i64 ((shares.length : Nat) : Int)),(28,.int .i64 x),(14,.pointer (some ⟨b_10,0,none⟩)),(51,.pointer (some ⟨b_10,1,none⟩)),(52,.int .i64 r_5.by_),(53,.bool (decide (0 < r_5.by_))),(54,.bool (decide (0 < r_5.by_))),(58,.bool ((decide (0 < r_5.by_)) && (share_quotient_more (⟨x_1,x_2⟩ : share_quotient) r_5)))] ∧ Ctx G (.box b_10 [.int .i64 r_5.claim,.int .i64 r_5.by_] 165::.row (some ⟨b_8,0,none⟩) 1 (([r_4] : List share_quotient).map enc_share_quotient) 165 2::.row p_3 c_3 ((next_ ++ [r_4]).map enc_share_quotient) 165 2::.box b_3 [.int .i64 x_1,.int .i64 x_2] 165::.box b_2 [.int .i64 0,.int .i64 0] 71::.box b_1 [.int .i64 0,.int .i64 0] 71::Lf) w) ?_ ?_
   ·cases hb : (decide (0 < r_5.by_))
    ·rw [hb] at hf
     refine stS hf rfl rfl rfl fun a hf => stS hf rfl rfl rfl fun a hf => stS hf rfl rfl rfl fun a hf => stP hf rfl rfl rfl (pPf rfl rfl) fun a hf => cNil ⟨hf.keep ⟨rfl,rfl,rfl,rfl,rfl,rfl,rfl,rfl,rfl,rfl,rfl,rfl,rfl,rfl,rfl,trivial⟩,hc⟩
    ·rw [hb] at hf
     refine stE hf hc rfl rfl rfl (eLdN (vs := [.int .i64 x_1,.int .i64 x_2]) ag_165 rfl rfl (cells_box (n := 2) m3 rfl)) fun a w hf hc => stE hf hc rfl rfl rfl (eLdN (vs := [.int .i64 r_5.claim,.int .i64 r_5.by_]) ag_165 rfl rfl (cells_box (n := 2) m0 rfl)) fun a w hf hc => stE hf hc rfl rfl rfl (eC (v := .bool (share_quotient_more (⟨x_1,x_2⟩ : share_quotient) r_5)) (vs := [.agg #[.int .i64 x_1,.int .i64 x_2],.agg #[.int .i64 r_5.claim,.int .i64 r_5.by_]]) (caps := []) en_84 rfl rfl rfl rfl (fun w hc => share_quotient_more_ok (⟨x_1,x_2⟩ : share_quotient) r_5 hc rfl)) fun a w hf hc => stP hf rfl rfl rfl (pPt rfl rfl) fun a hf => cNil ⟨hf.keep ⟨rfl,rfl,rfl,rfl,rfl,rfl,rfl,rfl,rfl,rfl,rfl,rfl,rfl,rfl,rfl,trivial⟩,hc⟩
   intro a w ⟨hf,hc⟩
   refine cNil ?_
   refine h22 _ _ ?_
   refine cCond (b := ((decide (0 < r_5.by_)) && (share_quotient_more (⟨x_1,x_2⟩ : share_quotient) r_5))) hf rfl (fun hb => ?_) (fun hb => ?_)
   ·replace hF := condT hb hF
    clear hb
    refine cReg ?_
    refine stE hf hc rfl rfl rfl (eLdN (vs := [.int .i64 r_5.claim,.int .i64 r_5.by_]) ag_165 rfl rfl (cells_box (n := 2) m0 rfl)) fun a w hf hc => stSt (vs := [.int .i64 r_5.claim,.int .i64 r_5.by_]) hf hc rfl rfl rfl rfl sz_165 rfl rfl u3 fun w hc => cNil ?_
    replace hc := hc.drop k1
    replace hc := hc.drop k0
    exact hj18 (next_ ++ [r_4]) r_5.claim r_5.by_ p_3 c_3 _ _  (hf.keep ⟨rfl,rfl,rfl,rfl,rfl,rfl,rfl,rfl,rfl,trivial⟩) hc hF
   ·replace hF := condF hb hF
    clear hb
    refine wp_skip ?_
    replace hc := hc.drop k1
    replace hc := hc.drop k0
    exact hj18 (next_ ++ [r_4]) x_1 x_2 p_3 c_3 _ _  (hf.keep ⟨rfl,rfl,rfl,rfl,rfl,rfl,rfl,rfl,rfl,trivial⟩) hc hF
  ·replace hF := condF hb hF
   clear hb
   refine wp_exit ?_
   refine xThen ?_
   refine xThen ?_
   have he := Option.some.inj hF
   rw [← he] at hfin10
   refine cHit ?_
   exact hr10 _ _ _ hfin10 ⟨p_1,c_1,hf.keep ⟨rfl,rfl,rfl,rfl,rfl,rfl,rfl,rfl,rfl,trivial⟩,hc⟩

def share_Unfair_b18 (N : Nat) (claims : List Int) (shares : List Int) (rule : Int) (x : Int) (e_2 : Int) (x_1 : Int) : Option (Step (Int) (Step (Int × Int × Int × Int) (Int × Int × Int))) :=
 cond (decide (x_1 < ((shares.length : Nat) : Int)))
 (Option.bind (getI shares x_1) fun e_3 =>
 Option.bind (cond ((decide (0 < e_2)) && (x_1 != x)) (Option.bind (getI claims x_1) fun e_4 =>
 Option.bind (share_Rule_day N rule e_4 (W (e_3 + 1))) fun r_1 =>
 Option.bind (getI claims x) fun e_5 =>
 Option.bind (share_Rule_day N rule e_5 e_2) fun r_2 =>
 some (share_quotient_more r_1 r_2)) (some false)) fun t_1 =>
 cond t_1
 (some (.ret (.brk (x,x_1,0,x))))
 (some (.cont (W (x_1 + 1)))))
 (some (.brk x_1))
def share_Unfair_b10 (N : Nat) (claims : List Int) (shares : List Int) (rule : Int) (a_1 : Int) (b_1 : Int) (e_1 : Int) (x : Int) : Option (Step (Int × Int × Int × Int) (Int × Int × Int)) :=
 cond (decide (x < ((shares.length : Nat) : Int)))
 (Option.bind (getI shares x) fun e_2 =>
 Option.bind (loopO (fun s18 => share_Unfair_b18 N claims shares rule x e_2 s18) N 0) fun x18 =>
 exK x18 (fun s18 => some (.cont (a_1,b_1,e_1,W (x + 1)))) some)
 (some (.brk (a_1,b_1,e_1,x)))
def share_Unfair (N : Nat) (claims : List Int) (shares : List Int) (rule : Int) : Option (Int × Int × Int) :=
 Option.bind (share_shared N claims shares rule) fun r =>
 cond (r != 0)
 (some (0,0,r))
 (Option.bind (loopO (fun s10 => share_Unfair_b10 N claims shares rule s10.1 s10.2.1 s10.2.2.1 s10.2.2.2) N (0,0,5,0)) fun x10 =>
 exK x10 (fun s10 => some (s10.1,s10.2.1,s10.2.2.1)) some)
theorem share_Unfair_ok {N : Nat} {G : Pers} {Lf : List Ent} {w : World} (claims : List Int) (shares : List Int) (rule : Int) {claims_p : Option Addr} {claims_c : Nat} {shares_p : Option Addr} {shares_c : Nat} (h_claims : Rd G 1 claims_p claims_c (claims.map encI_i64)) (h_shares : Rd G 1 shares_p shares_c (shares.map encI_i64)) (hc : Ctx G (Lf) w) {res : Int × Int × Int} (hF : share_Unfair N claims shares rule = some res) : Calls Try.prog 37 #[.slice claims_p claims.length claims_c,.slice shares_p shares.length shares_c,.int .i64 rule] w (fun e w => e = .returned (.tuple #[.int .i64 res.1,.int .i64 res.2.1,.int .i64 res.2.2]) ∧ Ctx G (Lf) w) := by
 unfold share_Unfair at hF
 refine fnIn (args := [.slice claims_p claims.length claims_c,.slice shares_p shares.length shares_c,.int .i64 rule]) Try.func37 rfl Try.ntmps37 rfl fun a hf => wp_seq_k fun K1 h1 => cReg ?_
 refine stP hf rfl rfl rfl (pA rfl) fun a hf => stP hf rfl rfl rfl (pA rfl) fun a hf => stP hf rfl rfl rfl (pA rfl) fun a hf => cNil ?_
 refine h1 _ _ ?_
 refine wp_scope_straight ?_
 refine wp_seq_k fun K2 h2 => wp_seq_k fun K3 h3 => cReg ?_
 refine stP hf rfl rfl rfl (pM rfl) fun a hf => stP hf rfl rfl rfl (pM rfl) fun a hf => stP hf rfl rfl rfl (pM rfl) fun a hf => ?_
 obtain ⟨r,hr,hF⟩ := bnd_some hF
 refine stE hf hc rfl rfl rfl (eC (v := .int .i64 r) (vs := [.slice claims_p claims.length claims_c,.slice shares_p shares.length shares_c,.int .i64 rule]) (caps := []) en_88 rfl rfl rfl rfl (fun w hc => share_shared_ok claims shares rule h_claims h_shares hc hr)) fun a w hf hc => stP hf rfl rfl rfl (pA rfl) fun a hf => cNil ?_
 refine h3 _ _ ?_
 refine wp_seq_k fun K4 h4 => cReg ?_
 refine stP hf rfl rfl rfl (pM rfl) fun a hf => stP hf rfl rfl rfl (pNe rfl rfl) fun a hf => cNil ?_
 refine h4 _ _ ?_
 refine cCond (b := (r != 0)) hf rfl (fun hb => ?_) (fun hb => ?_)
 ·replace hF := condT hb hF
  clear hb
  refine wp_seq_k fun K5 h5 => cReg ?_
  refine stP hf rfl rfl rfl (pM rfl) fun a hf => stP hf rfl rfl rfl (pA rfl) fun a hf => stP hf rfl rfl rfl (pA rfl) fun a hf => stP hf rfl rfl rfl (pA rfl) fun a hf => cNil ?_
  refine h5 _ _ ?_
  refine wp_ret ?_
  refine xThenR ?_
  refine xScopeR ?_
  obtain rfl := Option.some.inj hF
  exact fnOut3 (by simp) rfl Try.results37 hf hc (show look _ 6 = _ from rfl) (show look _ 7 = _ from rfl) (show look _ 8 = _ from rfl) ⟨rfl,hc⟩
 ·replace hF := condF hb hF
  clear hb
  refine wp_skip ?_
  refine h2 _ _ ?_
  refine wp_seq_k fun K6 h6 => cReg ?_
  refine stP hf rfl rfl rfl (pA rfl) fun a hf => stP hf rfl rfl rfl (pA rfl) fun a hf => stP hf rfl rfl rfl (pA rfl) fun a hf => cNil ?_
  refine h6 _ _ ?_
  refine wp_seq_k fun K7 h7 => wp_label ?_
  refine h7 _ _ ?_
  refine wp_seq_k fun K8 h8 => wp_seq_k fun K9 h9 => cReg ?_
  refine stP hf rfl rfl rfl (pM rfl) fun a hf => stP hf rfl rfl rfl (pLenS Try.underlying36 rfl) fun a hf => stP hf rfl rfl rfl (pM rfl) fun a hf => cNil ?_
  refine h9 _ _ ?_
  refine wp_block ?_
  obtain ⟨x10,hx10,hF⟩ := bnd_some hF
  let S10 : (Int × Int × Int × Int) → Act → World → Prop := (fun (zz : Int × Int × Int × Int) a w => Has 70 a [(0,.slice claims_p claims.length claims_c),(1,.slice shares_p shares.length shares_c),(2,.int .i64 rule),(10,.int .i64 zz.1),(11,.int .i64 zz.2.1),(12,.int .i64 zz.2.2.1),(24,.slice shares_p shares.length shares_c),(25,.int .i64 ((shares.length : Nat) : Int)),(26,.int .i64 zz.2.2.2)] ∧ Ctx G (Lf) w)
  have hr10 : ∀ (zz : Int × Int × Int × Int) a w,x10 = .go zz → S10 zz a w → K8 a w := by
   rintro ⟨a_1,b_1,e_1,x⟩ a w rfl ⟨hf,hc⟩
   replace hF := exK_go hF
   refine h8 _ _ ?_
   refine wp_seq_k fun K11 h11 => cReg ?_
   refine stP hf rfl rfl rfl (pM rfl) fun a hf => stP hf rfl rfl rfl (pM rfl) fun a hf => stP hf rfl rfl rfl (pM rfl) fun a hf => stP hf rfl rfl rfl (pA rfl) fun a hf => stP hf rfl rfl rfl (pA rfl) fun a hf => stP hf rfl rfl rfl (pA rfl) fun a hf => cNil ?_
   refine h11 _ _ ?_
   refine wp_ret ?_
   refine xScopeR ?_
   obtain rfl := Option.some.inj hF
   exact fnOut3 (by simp) rfl Try.results37 hf hc (show look _ 6 = _ from rfl) (show look _ 7 = _ from rfl) (show look _ 8 = _ from rfl) ⟨rfl,hc⟩
  have ho10 : ∀ r,x10 = .out r → r = res := by
   rintro r rfl
   exact Option.some.inj hF
  refine cLoop N (loopW (S := S10) (x := x10) ?_ N (0,0,5,0) _ _ ⟨hf.keep ⟨rfl,rfl,rfl,rfl,rfl,rfl,rfl,rfl,rfl,trivial⟩,hc⟩ hx10)
  clear hF hf hc
  rintro ⟨a_1,b_1,e_1,x⟩ st10 a w KB10 ⟨hf,hc⟩ hF hfin10 hK10
  unfold share_Unfair_b10 at hF
  refine wp_seq_k fun K12 h12 => cReg ?_
  refine stP hf rfl rfl rfl (pLt rfl rfl) fun a hf => cNil ?_
  refine h12 _ _ ?_
  refine wp_seq_k fun K13 h13 => cCond (b := (decide (x < ((shares.length : Nat) : Int)))) hf rfl (fun hb => ?_) (fun hb => ?_)
  ·replace hF := condT hb hF
   clear hb
   refine wp_skip ?_
   refine h13 _ _ ?_
   refine wp_seq_k fun K14 h14 => wp_block ?_
   refine wp_seq_k fun K15 h15 => cReg ?_
   refine stP hf rfl rfl rfl (pM rfl) fun a hf => ?_
   obtain ⟨e_2,he_2,hF⟩ := bnd_some hF
   obtain ⟨b_2,o,qa,qp⟩ := h_shares.atm he_2
   refine stP hf rfl rfl rfl (pIA Try.underlying36 sz_3 rfl rfl qa) fun a hf => stE hf hc rfl rfl rfl (eLd1 sc_3 rfl (cell_pc (j := 0) qp rfl)) fun a w hf hc => stP hf rfl rfl rfl (pA rfl) fun a hf => stP hf rfl rfl rfl (pA rfl) fun a hf => cNil ?_
   refine h15 _ _ ?_
   refine wp_seq_k fun K16 h16 => cReg ?_
   refine stP hf rfl rfl rfl (pM rfl) fun a hf => stP hf rfl rfl rfl (pLenS Try.underlying36 rfl) fun a hf => stP hf rfl rfl rfl (pM rfl) fun a hf => cNil ?_
   refine h16 _ _ ?_
   refine wp_thenK fun K17 h17 => wp_block ?_
   obtain ⟨x18,hx18,hF⟩ := bnd_some hF
   let S18 : Int → Act → World → Prop := (fun (zz : Int) a w => Has 70 a [(0,.slice claims_p claims.length claims_c),(1,.slice shares_p shares.length shares_c),(2,.int .i64 rule),(10,.int .i64 a_1),(11,.int .i64 b_1),(12,.int .i64 e_1),(13,.int .i64 x),(14,.int .i64 e_2),(24,.slice shares_p shares.length shares_c),(25,.int .i64 ((shares.length : Nat) : Int)),(26,.int .i64 x),(31,.slice shares_p shares.length shares_c),(32,.int .i64 ((shares.length : Nat) : Int)),(33,.int .i64 zz)] ∧ Ctx G (Lf) w)
   have hr18 : ∀ (zz : Int) a w,x18 = .go zz → S18 zz a w → K17 a w := by
    rintro x_1 a w rfl ⟨hf,hc⟩
    replace hF := exK_go hF
    refine h17 _ _ ?_
    refine h14 _ _ ?_
    refine cReg ?_
    refine stP hf rfl rfl rfl (pAdd rfl rfl) fun a hf => stP hf rfl rfl rfl (pM rfl) fun a hf => cNil ?_
    exact hK10 (a_1,b_1,e_1,W (x + 1)) _ _ (Option.some.inj hF).symm ⟨hf.keep ⟨rfl,rfl,rfl,rfl,rfl,rfl,rfl,rfl,rfl,trivial⟩,hc⟩
   have ho18 : ∀ r,x18 = .out r → r = st10 := by
    rintro r rfl
    exact Option.some.inj hF
   refine cLoop N (loopW (S := S18) (x := x18) ?_ N 0 _ _ ⟨hf.keep ⟨rfl,rfl,rfl,rfl,rfl,rfl,rfl,rfl,rfl,rfl,rfl,rfl,rfl,rfl,trivial⟩,hc⟩ hx18)
   clear hF hf hc
   rintro x_1 st18 a w KB18 ⟨hf,hc⟩ hF hfin18 hK18
   unfold share_Unfair_b18 at hF
   refine wp_seq_k fun K19 h19 => cReg ?_
   refine stP hf rfl rfl rfl (pLt rfl rfl) fun a hf => cNil ?_
   refine h19 _ _ ?_
   refine wp_seq_k fun K20 h20 => cCond (b := (decide (x_1 < ((shares.length : Nat) : Int)))) hf rfl (fun hb => ?_) (fun hb => ?_)
   ·replace hF := condT hb hF
    clear hb
    refine wp_skip ?_
    refine h20 _ _ ?_
    refine wp_seq_k fun K21 h21 => wp_block ?_
    refine wp_seq_k fun K22 h22 => cReg ?_
    refine stP hf rfl rfl rfl (pM rfl) fun a hf => ?_
    obtain ⟨e_3,he_3,hF⟩ := bnd_some hF
    obtain ⟨b_3,o_1,qa_1,qp_1⟩ := h_shares.atm he_3
    refine stP hf rfl rfl rfl (pIA Try.underlying36 sz_3 rfl rfl qa_1) fun a hf => stE hf hc rfl rfl rfl (eLd1 sc_3 rfl (cell_pc (j := 0) qp_1 rfl)) fun a w hf hc => stP hf rfl rfl rfl (pA rfl) fun a hf => stP hf rfl rfl rfl (pA rfl) fun a hf => cNil ?_
    refine h22 _ _ ?_
    refine wp_seq_k fun K23 h23 => ?_
    obtain ⟨t_1,ht_1,hF⟩ := bnd_some hF
    refine cQ hc follows_mx (by kernel_rfl) ?_
    refine qE hf rfl rfl rfl (Pu.ev (pM rfl)) fun a hf => qE hf rfl rfl rfl (Pu.ev (pGt rfl rfl)) fun a hf => qE hf rfl rfl rfl (Pu.ev (pM rfl)) fun a hf => qCut 4 (fun a => Has 70 a [(0,.slice claims_p claims.length claims_c),(1,.slice shares_p shares.length shares_c),(2,.int .i64 rule),(10,.int .i64 a_1),(11,.int .i64 b_1),(12,.int .i64 e_1),(13,.int .i64 x),(14,.int .i64 e_2),(24,.slice shares_p shares.length shares_c),(25,.int .i64 ((shares.length : Nat) : Int)),(26,.int .i64 x),(31,.slice shares_p shares.length shares_c),(32,.int .i64 ((shares.length : Nat) : Int)),(33,.int .i64 x_1),(15,.int .i64 x_1),(16,.int .i64 e_3),(38,.int .i64 e_2),(39,.bool (decide (0 < e_2))),(40,.bool (decide (0 < e_2))),(44,.bool ((decide (0 < e_2)) && (x_1 != x)))]) ?_ ?_
    ·cases hb : (decide (0 < e_2))
     ·rw [hb] at hf
      refine qS hf rfl rfl rfl fun a hf => qS hf rfl rfl rfl fun a hf => qS hf rfl rfl rfl fun a hf => qE hf rfl rfl rfl (Pu.ev (pPf rfl rfl)) fun a hf => qNil (hf.keep ⟨rfl,rfl,rfl,rfl,rfl,rfl,rfl,rfl,rfl,rfl,rfl,rfl,rfl,rfl,rfl,rfl,rfl,rfl,rfl,rfl,trivial⟩)
     ·rw [hb] at hf
      refine qE hf rfl rfl rfl (Pu.ev (pM rfl)) fun a hf => qE hf rfl rfl rfl (Pu.ev (pM rfl)) fun a hf => qE hf rfl rfl rfl (Pu.ev (pNe rfl rfl)) fun a hf => qE hf rfl rfl rfl (Pu.ev (pPt rfl rfl)) fun a hf => qNil (hf.keep ⟨rfl,rfl,rfl,rfl,rfl,rfl,rfl,rfl,rfl,rfl,rfl,rfl,rfl,rfl,rfl,rfl,rfl,rfl,rfl,rfl,trivial⟩)
    intro a hf
    refine qE hf rfl rfl rfl (Pu.ev (pM rfl)) fun a hf => qCut 17 (fun a => Has 70 a [(0,.slice claims_p claims.length claims_c),(1,.slice shares_p shares.length shares_c),(2,.int .i64 rule),(10,.int .i64 a_1),(11,.int .i64 b_1),(12,.int .i64 e_1),(13,.int .i64 x),(14,.int .i64 e_2),(24,.slice shares_p shares.length shares_c),(25,.int .i64 ((shares.length : Nat) : Int)),(26,.int .i64 x),(31,.slice shares_p shares.length shares_c),(32,.int .i64 ((shares.length : Nat) : Int)),(33,.int .i64 x_1),(15,.int .i64 x_1),(16,.int .i64 e_3),(38,.int .i64 e_2),(39,.bool (decide (0 < e_2))),(40,.bool (decide (0 < e_2))),(44,.bool ((decide (0 < e_2)) && (x_1 != x))),(45,.bool ((decide (0 < e_2)) && (x_1 != x))),(62,.bool t_1)]) ?_ ?_
    ·cases hb : ((decide (0 < e_2)) && (x_1 != x))
     ·rw [hb] at hf
      have hF := condF hb ht_1
      obtain rfl := Option.some.inj hF
      refine qS hf rfl rfl rfl fun a hf => qS hf rfl rfl rfl fun a hf => qS hf rfl rfl rfl fun a hf => qS hf rfl rfl rfl fun a hf => qS hf rfl rfl rfl fun a hf => qS hf rfl rfl rfl fun a hf => qS hf rfl rfl rfl fun a hf => qS hf rfl rfl rfl fun a hf => qS hf rfl rfl rfl fun a hf => qS hf rfl rfl rfl fun a hf => qS hf rfl rfl rfl fun a hf => qS hf rfl rfl rfl fun a hf => qS hf rfl rfl rfl fun a hf => ?_
      refine qS hf rfl rfl rfl fun a hf => qS hf rfl rfl rfl fun a hf => qS hf rfl rfl rfl fun a hf => qE hf rfl rfl rfl (Pu.ev (pPf rfl rfl)) fun a hf => qNil (hf.keep ⟨rfl,rfl,rfl,rfl,rfl,rfl,rfl,rfl,rfl,rfl,rfl,rfl,rfl,rfl,rfl,rfl,rfl,rfl,rfl,rfl,rfl,rfl,trivial⟩)
     ·rw [hb] at hf
      have hF := condT hb ht_1
      obtain ⟨e_4,he_4,hF⟩ := bnd_some hF
      obtain ⟨b_4,o_2,qa_2,qp_2⟩ := h_claims.atm he_4
      obtain ⟨r_1,hr_1,hF⟩ := bnd_some hF
      obtain ⟨e_5,he_5,hF⟩ := bnd_some hF
      obtain ⟨b_5,o_3,qa_3,qp_3⟩ := h_claims.atm he_5
      obtain ⟨r_2,hr_2,hF⟩ := bnd_some hF
      refine qE hf rfl rfl rfl (Pu.ev (pM rfl)) fun a hf => qE hf rfl rfl rfl (Pu.ev (pM rfl)) fun a hf => qE hf rfl rfl rfl (Pu.ev (pM rfl)) fun a hf => qE hf rfl rfl rfl (Pu.ev (pIA Try.underlying36 sz_3 rfl rfl qa_2)) fun a hf => qE hf rfl rfl rfl (eLd1 sc_3 rfl (cell_pc (j := 0) qp_2 rfl)) fun a hf => qE hf rfl rfl rfl (Pu.ev (pM rfl)) fun a hf => qE hf rfl rfl rfl (Pu.ev (pAdd rfl rfl)) fun a hf => qE hf rfl rfl rfl (eC (v := .agg #[.int .i64 r_1.claim,.int .i64 r_1.by_]) (vs := [.int .i64 rule,.int .i64 e_4,.int .i64 (W (e_3 + 1))]) (caps := []) en_83 rfl rfl rfl rfl (fun w hc => share_Rule_day_ok rule e_4 (W (e_3 + 1)) hc hr_1)) fun a hf => qE hf rfl rfl rfl (Pu.ev (pM rfl)) fun a hf => qE hf rfl rfl rfl (Pu.ev (pM rfl)) fun a hf => qE hf rfl rfl rfl (Pu.ev (pM rfl)) fun a hf => qE hf rfl rfl rfl (Pu.ev (pIA Try.underlying36 sz_3 rfl rfl qa_3)) fun a hf => qE hf rfl rfl rfl (eLd1 sc_3 rfl (cell_pc (j := 0) qp_3 rfl)) fun a hf => ?_
      refine qE hf rfl rfl rfl (Pu.ev (pM rfl)) fun a hf => qE hf rfl rfl rfl (eC (v := .agg #[.int .i64 r_2.claim,.int .i64 r_2.by_]) (vs := [.int .i64 rule,.int .i64 e_5,.int .i64 e_2]) (caps := []) en_83 rfl rfl rfl rfl (fun w hc => share_Rule_day_ok rule e_5 e_2 hc hr_2)) fun a hf => qE hf rfl rfl rfl (eC (v := .bool (share_quotient_more r_1 r_2)) (vs := [.agg #[.int .i64 r_1.claim,.int .i64 r_1.by_],.agg #[.int .i64 r_2.claim,.int .i64 r_2.by_]]) (caps := []) en_84 rfl rfl rfl rfl (fun w hc => share_quotient_more_ok r_1 r_2 hc rfl)) fun a hf => qE hf rfl rfl rfl (Pu.ev (pPt rfl rfl)) fun a hf => ?_
      obtain rfl := Option.some.inj hF
      exact qNil (hf.keep ⟨rfl,rfl,rfl,rfl,rfl,rfl,rfl,rfl,rfl,rfl,rfl,rfl,rfl,rfl,rfl,rfl,rfl,rfl,rfl,rfl,rfl,rfl,trivial⟩)
    intro a hf
    intro w hc
    refine h23 _ _ ?_
    refine cCond (b := t_1) hf rfl (fun hb => ?_) (fun hb => ?_)
    ·replace hF := condT hb hF
     clear hb
     refine wp_seq_k fun K24 h24 => cReg ?_
     refine stP hf rfl rfl rfl (pM rfl) fun a hf => stP hf rfl rfl rfl (pM rfl) fun a hf => stP hf rfl rfl rfl (pA rfl) fun a hf => stP hf rfl rfl rfl (pA rfl) fun a hf => stP hf rfl rfl rfl (pA rfl) fun a hf => cNil ?_
     refine h24 _ _ ?_
     refine wp_exit ?_
     refine cMiss rfl ?_
     refine xThen ?_
     refine xThen ?_
     have he := Option.some.inj hF
     rw [← he] at hfin18
     replace hF := ho18 _ hfin18
     refine cMiss rfl ?_
     refine xThen ?_
     refine cMiss rfl ?_
     refine xThen ?_
     refine xThen ?_
     have he := hF
     rw [← he] at hfin10
     refine cHit ?_
     exact hr10 _ _ _ hfin10 ⟨hf.keep ⟨rfl,rfl,rfl,rfl,rfl,rfl,rfl,rfl,rfl,trivial⟩,hc⟩
    ·replace hF := condF hb hF
     clear hb
     refine wp_skip ?_
     refine h21 _ _ ?_
     refine cReg ?_
     refine stP hf rfl rfl rfl (pAdd rfl rfl) fun a hf => stP hf rfl rfl rfl (pM rfl) fun a hf => cNil ?_
     exact hK18 (W (x_1 + 1)) _ _ (Option.some.inj hF).symm ⟨hf.keep ⟨rfl,rfl,rfl,rfl,rfl,rfl,rfl,rfl,rfl,rfl,rfl,rfl,rfl,rfl,trivial⟩,hc⟩
   ·replace hF := condF hb hF
    clear hb
    refine wp_exit ?_
    refine xThen ?_
    refine xThen ?_
    have he := Option.some.inj hF
    rw [← he] at hfin18
    refine cHit ?_
    exact hr18 _ _ _ hfin18 ⟨hf.keep ⟨rfl,rfl,rfl,rfl,rfl,rfl,rfl,rfl,rfl,rfl,rfl,rfl,rfl,rfl,trivial⟩,hc⟩
  ·replace hF := condF hb hF
   clear hb
   refine wp_exit ?_
   refine xThen ?_
   refine xThen ?_
   have he := Option.some.inj hF
   rw [← he] at hfin10
   refine cHit ?_
   exact hr10 _ _ _ hfin10 ⟨hf.keep ⟨rfl,rfl,rfl,rfl,rfl,rfl,rfl,rfl,rfl,trivial⟩,hc⟩

end Go.Nilo
