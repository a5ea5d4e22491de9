/-
 What functions of the Go text compute, as plain functions, and that they do, part 2 of 3. Conditions: what each theorem names.
-/
import Derived.Test.YtfacdlbpakdcfaaDk1
import Derived.Test.YtfacdlbpakdcfaaProg
set_option linter.unusedVariables false
set_option linter.unusedSimpArgs false
set_option maxRecDepth 100000
set_option maxHeartbeats 4000000
namespace Go.Nilo
open Go.Proofs


def daily_Proves_b14 (N : Nat) (l : List daily_Reading) (x_1 : Nat → Int) (x_2 : Int) : Option (Step (Int) (Int × Int)) :=
 cond (decide (x_2 < ((l.length : Nat) : Int)))
 (Option.bind (getI l x_2) fun e_2 =>
 Option.bind (inR x_2 30) fun un =>
 cond (decide (e_2.Weight < (x_1 x_2.toNat)))
 (some (.ret (0,11)))
 (some (.cont (W (x_2 + 1)))))
 (some (.brk x_2))
def daily_Proves_b11 (N : Nat) (l : List daily_Reading) (falls : List daily_Fall) (out : Int) (x : Int) (x_1 : Nat → Int) : Option (Step (Int × Int × (Nat → Int)) (Int × Int)) :=
 cond (decide (x < ((falls.length : Nat) : Int)))
 (Option.bind (getI falls x) fun e_3 =>
 Option.bind (daily_Fall_wrong N e_3 ((l.length : Nat) : Int)) fun r_1 =>
 cond (r_1 != 0)
 (some (.ret (0,r_1)))
 (Option.bind (inR e_3.A 30) fun un_1 =>
 Option.bind (inR e_3.A 30) fun un_2 =>
 Option.bind (inR e_3.B 30) fun un_3 =>
 Option.bind (inR e_3.B 30) fun un_4 =>
 Option.bind (getI l e_3.A) fun e_4 =>
 Option.bind (getI l e_3.B) fun e_5 =>
 some (.cont (W (out + (W (e_3.Weight * (W (e_4.Value - e_5.Value))))),W (x + 1),(setF (setF x_1 e_3.A.toNat (W ((x_1 e_3.A.toNat) + e_3.Weight))) e_3.B.toNat (W (((setF x_1 e_3.A.toNat (W ((x_1 e_3.A.toNat) + e_3.Weight))) e_3.B.toNat) + e_3.Weight)))))))
 (some (.brk (out,x,x_1)))
def daily_Proves_j3 (N : Nat) (l : List daily_Reading) (falls : List daily_Fall) (e_1 : Int) : Option (Int × Int) :=
 cond (e_1 != 0)
 (some (0,e_1))
 (Option.bind (loopO (fun s11 => daily_Proves_b11 N l falls s11.1 s11.2.1 s11.2.2) N (0,0,(fun _ => 0))) fun x11 =>
 exK x11 (fun s11 => Option.bind (loopO (fun s14 => daily_Proves_b14 N l s11.2.2 s14) N 0) fun x14 =>
 exK x14 (fun s14 => some (s11.1,0)) some) some)
def daily_Proves (N : Nat) (l : List daily_Reading) (falls : List daily_Fall) : Option (Int × Int) :=
 Option.bind (daily_CheckReadings N l) fun r =>
 cond ((r == 0) && (decide (900 < ((falls.length : Nat) : Int))))
 (daily_Proves_j3 N l falls 3)
 (daily_Proves_j3 N l falls r)
theorem daily_Proves_ok {N : Nat} {G : Pers} {Lf : List Ent} {w : World} (l : List daily_Reading) (falls : List daily_Fall) {l_p : Option Addr} {l_c : Nat} {falls_p : Option Addr} {falls_c : Nat} (h_l : Rd G 2 l_p l_c (l.map enc_daily_Reading)) (h_falls : Rd G 3 falls_p falls_c (falls.map enc_daily_Fall)) (hc : Ctx G (Lf) w) {res : Int × Int} (hF : daily_Proves N l falls = some res) : Calls Try.prog 9 #[.slice l_p l.length l_c,.slice falls_p falls.length falls_c] w (fun e w => e = .returned (.tuple #[i6 res.1,i6 res.2]) ∧ Ctx G (Lf) w) := by
 unfold daily_Proves at hF
 refine fnIn Try.func9 rfl Try.ntmps9 rfl fun a hf => zS fun K h => sp 2 hf rfl fun a hf => zT h ?_
 refine zS fun K h => sp 1 hf rfl fun a hf => ?_
 obtain ⟨r,hr,hF⟩ := bnd_some hF
 refine zQ (v := i6 r) hf hc en_14 rfl (fun w hc => daily_CheckReadings_ok l h_l hc hr) fun a w hf hc => sp 1 hf rfl fun a hf => zT h ?_
 refine wp_seq_k fun K3 h3 => ?_
 have hj3 : ∀ (e_1 : Int) a w,Has 89 a [(0,.slice l_p l.length l_c),(1,.slice falls_p falls.length falls_c),(6,i6 e_1)] → Ctx G (Lf) w → daily_Proves_j3 N l falls e_1 = some res → K3 a w := by
  repeat (clear hF)
  repeat (clear hc)
  repeat (clear hf)
  intro e_1 a w hf hc hF
  unfold daily_Proves_j3 at hF
  refine h3 _ _ ?_
  refine wp_seq_k fun K4 h4 => zS fun K h => sp 2 hf rfl fun a hf => zT h ?_
  refine zI hf rfl hF ?_ ?_ <;> clear hF <;> intro hF
  ·refine zS fun K h => sp 3 hf rfl fun a hf => zT h ?_
   refine wp_ret ?_
   refine xThenR ?_
   obtain rfl := sj hF
   exact zO2 Try.results9 hf rfl rfl ⟨rfl,hc⟩
  ·refine wp_skip ?_
   refine h4 _ _ ?_
   refine zS fun K h => sp 1 hf rfl fun a hf => zT h ?_
   refine zS fun K h => stAl (cs := (catc [] 30 encI_i64 (fun _ => 0) [])) hf hc rfl rfl zr_58 rfl fun b_1 a w hf hc => zT h ?_
   refine wp_seq_k fun K9 h9 => zS fun K h => sp 1 hf rfl fun a hf => zP hf rfl (pLenS Try.underlying33 rfl) fun a hf => sp 1 hf rfl fun a hf => zT h ?_
   refine wp_block ?_
   obtain ⟨x11,hx11,hF⟩ := bnd_some hF
   let S11 : (Int × Int × (Nat → Int)) → Act → World → Prop := (fun (zz : Int × Int × (Nat → Int)) a w => Has 89 a [(0,.slice l_p l.length l_c),(7,i6 zz.1),(8,pq b_1),(26,.slice falls_p falls.length falls_c),(27,i6 ((falls.length : Nat) : Int)),(28,i6 zz.2.1)] ∧ Ctx G (.box b_1 (catc [] 30 encI_i64 zz.2.2 []) 58::Lf) w)
   have hr11 : ∀ (zz : Int × Int × (Nat → Int)) a w,x11 = .go zz → S11 zz a w → K9 a w := by
    rintro ⟨out,x,x_1⟩ a w rfl ⟨hf,hc⟩
    replace hF := exK_go hF
    refine h9 _ _ ?_
    refine wp_seq_k fun K12 h12 => zS fun K h => sp 1 hf rfl fun a hf => zP hf rfl (pLenS Try.underlying23 rfl) fun a hf => sp 1 hf rfl fun a hf => zT h ?_
    refine wp_block ?_
    obtain ⟨x14,hx14,hF⟩ := bnd_some hF
    let S14 : Int → Act → World → Prop := (fun (zz : Int) a w => Has 89 a [(7,i6 out),(8,pq b_1),(74,.slice l_p l.length l_c),(75,i6 ((l.length : Nat) : Int)),(76,i6 zz)] ∧ Ctx G (.box b_1 (catc [] 30 encI_i64 x_1 []) 58::Lf) w)
    have hr14 : ∀ (zz : Int) a w,x14 = .go zz → S14 zz a w → K12 a w := by
     rintro x_2 a w rfl ⟨hf,hc⟩
     replace hF := exK_go hF
     refine h12 _ _ ?_
     refine zS fun K h => sp 3 hf rfl fun a hf => zT h ?_
     refine wp_ret ?_
     obtain rfl := sj hF
     replace hc := hc.drop k0
     exact zO2 Try.results9 hf rfl rfl ⟨rfl,hc⟩
    have ho14 : ∀ r,x14 = .out r → r = res := by
     rintro r rfl
     exact sj hF
    refine cLoop N (loopW (S := S14) (x := x14) ?_ N 0 _ _ ⟨hf.kp rfl,hc⟩ hx14)
    clear hF hf hc
    rintro x_2 st14 a w KB14 ⟨hf,hc⟩ hF hfin14 hK14
    unfold daily_Proves_b14 at hF
    refine zS fun K h => sp 1 hf rfl fun a hf => zT h ?_
    refine wp_seq_k fun K17 h17 => zI hf rfl hF ?_ ?_ <;> clear hF <;> intro hF
    ·refine wp_skip ?_
     refine h17 _ _ ?_
     refine wp_seq_k fun K18 h18 => wp_block ?_
     refine zS fun K h => sp 1 hf rfl fun a hf => ?_
     obtain ⟨e_2,he_2,hF⟩ := bnd_some hF
     obtain ⟨b_2,o,qa,qp⟩ := h_l.atm he_2
     refine zP hf rfl (pIA Try.underlying23 sz_39 rfl rfl qa) fun a hf => zE hf hc rfl (eLdN (vs := [i6 e_2.Value,i6 e_2.Weight]) ag_39 rfl rfl (cells_pc qp (n := 2) (o' := 0) rfl)) fun a w hf hc => zA hf hc zr_39 rfl fun b_3 a w hf hc => sp 1 hf rfl fun a hf => zW hf hc sz_39 u0 rfl fun w hc => zT h ?_
     refine wp_seq_k fun K20 h20 => ?_
     obtain ⟨un,hun,hF⟩ := bnd_some hF
     refine cQ hc follows_mx (by kernel_rfl) ?_
     refine qE hf rfl rfl rfl (Pu.ev (pM rfl)) fun a hf => qE hf rfl rfl rfl (Pu.ev (pIAA Try.underlying58 sz_3 rfl rfl (inR_spec hun).1 (inR_spec hun).2)) fun a hf => qE hf rfl rfl rfl (eLd1 sc_3 rfl (cell_arr (j := 0) m1 (fun x => (one_encI_i64 x).1) rfl hun rfl)) fun a hf => qE hf rfl rfl rfl (Pu.ev (pFA fa_39_1 rfl)) fun a hf => qE hf rfl rfl rfl (eLd1 sc_3 rfl (cell_box m0 rfl)) fun a hf => qE hf rfl rfl rfl (Pu.ev (pGt rfl rfl)) fun a hf => ?_
     intro w hc
     refine h20 _ _ ?_
     refine zI hf rfl hF ?_ ?_ <;> clear hF <;> intro hF
     ·refine zS fun K h => sp 2 hf rfl fun a hf => zT h ?_
      refine wp_ret ?_
      refine xBlkR ?_
      refine xThenR ?_
      refine xThenR ?_
      have he := sj hF
      rw [← he] at hfin14
      replace hF := ho14 _ hfin14
      refine xBlkR ?_
      refine xThenR ?_
      obtain rfl := hF
      replace hc := (hc.drop k1).drop k0
      exact zO2 Try.results9 hf rfl rfl ⟨rfl,hc⟩
     ·refine wp_skip ?_
      refine h18 _ _ ?_
      refine cReg ?_
      refine sp 2 hf rfl fun a hf => cNil ?_
      replace hc := hc.drop k0
      exact hK14 (W (x_2 + 1)) _ _ (sj hF).symm ⟨hf.kp rfl,hc⟩
    ·refine wp_exit ?_
     refine xThen ?_
     refine xThen ?_
     have he := sj hF
     rw [← he] at hfin14
     refine cHit ?_
     exact hr14 _ _ _ hfin14 ⟨hf.kp rfl,hc⟩
   have ho11 : ∀ r,x11 = .out r → r = res := by
    rintro r rfl
    exact sj hF
   refine cLoop N (loopW (S := S11) (x := x11) ?_ N (0,0,(fun _ => 0)) _ _ ⟨hf.kp rfl,hc⟩ hx11)
   clear hF hf hc
   rintro ⟨out,x,x_1⟩ st11 a w KB11 ⟨hf,hc⟩ hF hfin11 hK11
   unfold daily_Proves_b11 at hF
   refine zS fun K h => sp 1 hf rfl fun a hf => zT h ?_
   refine wp_seq_k fun K23 h23 => zI hf rfl hF ?_ ?_ <;> clear hF <;> intro hF
   ·refine wp_skip ?_
    refine h23 _ _ ?_
    refine wp_seq_k fun K24 h24 => wp_block ?_
    refine zS fun K h => ?_
    obtain ⟨e_3,he_3,hF⟩ := bnd_some hF
    obtain ⟨b_4,o_1,qa_1,qp_1⟩ := h_falls.atm he_3
    refine zP hf rfl (pIA Try.underlying33 sz_43 rfl rfl qa_1) fun a hf => zE hf hc rfl (eLdN (vs := [i6 e_3.A,i6 e_3.B,i6 e_3.Weight]) ag_43 rfl rfl (cells_pc qp_1 (n := 3) (o' := 0) rfl)) fun a w hf hc => zA hf hc zr_43 rfl fun b_5 a w hf hc => zW hf hc sz_43 u0 rfl fun w hc => zT h ?_
    refine wp_seq_k fun K26 h26 => zS fun K h => zN hf hc ag_43 m0 rfl fun a w hf hc => sp 1 hf rfl fun a hf => zP hf rfl (pLenS Try.underlying23 rfl) fun a hf => ?_
    obtain ⟨r_1,hr_1,hF⟩ := bnd_some hF
    refine zQ (v := i6 r_1) hf hc en_22 rfl (fun w hc => daily_Fall_wrong_ok e_3 ((l.length : Nat) : Int) hc hr_1) fun a w hf hc => sp 1 hf rfl fun a hf => zT h ?_
    refine zS fun K h => sp 2 hf rfl fun a hf => zT h ?_
    refine zI hf rfl hF ?_ ?_ <;> clear hF <;> intro hF
    ·refine zS fun K h => sp 3 hf rfl fun a hf => zT h ?_
     refine wp_ret ?_
     refine xThenR ?_
     refine xBlkR ?_
     refine xThenR ?_
     refine xThenR ?_
     have he := sj hF
     rw [← he] at hfin11
     replace hF := ho11 _ hfin11
     refine xBlkR ?_
     refine xThenR ?_
     obtain rfl := hF
     replace hc := (hc.drop k1).drop k0
     exact zO2 Try.results9 hf rfl rfl ⟨rfl,hc⟩
    ·refine wp_skip ?_
     refine h26 _ _ ?_
     refine wp_seq_k fun K30 h30 => ?_
     obtain ⟨un_1,hun_1,hF⟩ := bnd_some hF
     obtain ⟨un_2,hun_2,hF⟩ := bnd_some hF
     refine regionE (fun θ => [⟨none,none,0,.slice l_p l.length l_c⟩,⟨none,none,7,i6 out⟩,⟨none,none,8,pq b_1⟩,⟨none,none,10,pq b_5⟩,⟨none,none,26,.slice falls_p falls.length falls_c⟩,⟨none,none,27,i6 ((falls.length : Nat) : Int)⟩,⟨none,none,28,i6 x⟩,⟨some 0,none,39,pq b_5⟩,⟨some 1,none,40,i6 e_3.A⟩,⟨some 2,none,41,.pointer (some ⟨b_1,0 + e_3.A.toNat * 1,none⟩)⟩,⟨some 3,none,42,i6 (x_1 e_3.A.toNat)⟩,⟨some 4,none,43,.pointer (some ⟨b_5,2,none⟩)⟩,⟨some 5,none,44,i6 e_3.Weight⟩,⟨some 6,none,45,i6 (W ((x_1 e_3.A.toNat) + e_3.Weight))⟩,⟨some 7,none,46,.pointer (some ⟨b_1,0 + e_3.A.toNat * 1,none⟩)⟩]) (fun E θ => .box b_5 [i6 e_3.A,i6 e_3.B,i6 e_3.Weight] 43::(bif E 8 then .box b_1 (catc [] 30 encI_i64 (setF x_1 e_3.A.toNat (W ((x_1 e_3.A.toNat) + e_3.Weight))) []) 58 else .box b_1 (catc [] 30 encI_i64 x_1 []) 58)::Lf) [(8,3)] (fun a w => Has 89 a [(0,.slice l_p l.length l_c),(7,i6 out),(8,pq b_1),(10,pq b_5),(26,.slice falls_p falls.length falls_c),(27,i6 ((falls.length : Nat) : Int)),(28,i6 x)] ∧ Ctx G (.box b_5 [i6 e_3.A,i6 e_3.B,i6 e_3.Weight] 43::.box b_1 (catc [] 30 encI_i64 (setF x_1 e_3.A.toNat (W ((x_1 e_3.A.toNat) + e_3.Weight))) []) 58::Lf) w) follows_mx (by kernel_rfl) (by kernel_rfl) (HasE.of hf ⟨rfl,rfl,rfl,rfl,rfl,rfl,rfl,trivial,trivial,trivial,trivial,trivial,trivial,trivial,trivial,trivial⟩) hc ⟨?_,?_,?_,?_,?_,?_,?_,?_,?_,trivial⟩ ?_ ?_
     ·intro E θ a w hD hi hp he hc
      have hf := he.h0.mT he 3 rfl
      refine zP hf rfl (pFA fa_43_0 rfl) fun a hf => zD θ he hi hf 7 rfl rfl rfl hc
     ·intro E θ a w hD hi hp he hc
      have e0 := hp.o 0 rfl
      have hf := he.h0.mP he 7 rfl e0
      refine zL hf hc sc_3 m0 rfl fun a w hf hc => zD θ he hi hf 8 rfl rfl rfl hc
     ·intro E θ a w hD hi hp he hc
      have e1 := hp.o 1 rfl
      have hf := (he.h0.mT he 2 rfl).mP he 8 rfl e1
      refine zP hf rfl (pIAA Try.underlying58 sz_3 rfl rfl (inR_spec hun_1).1 (inR_spec hun_1).2) fun a hf => zD θ he hi hf 9 rfl rfl rfl hc
     ·intro E θ a w hD hi hp he hc
      have e2 := hp.o 2 rfl
      have e8 := hD.f 0 rfl hi
      try dsimp only at hc
      rw [e8] at hc
      have hf := he.h0.mP he 9 rfl e2
      refine zE hf hc rfl (eLd1 sc_3 rfl (cell_arr (j := 0) m1 (fun x => (one_encI_i64 x).1) rfl hun_1 rfl)) fun a w hf hc => zD θ he hi hf 10 rfl rfl rfl ?_
      try dsimp only
      rw [updE_fls 3 e8 rfl]
      exact hc
     ·intro E θ a w hD hi hp he hc
      have hf := he.h0.mT he 3 rfl
      refine zP hf rfl (pFA fa_43_2 rfl) fun a hf => zD θ he hi hf 11 rfl rfl rfl hc
     ·intro E θ a w hD hi hp he hc
      have e4 := hp.o 4 rfl
      have hf := he.h0.mP he 11 rfl e4
      refine zL hf hc sc_3 m0 rfl fun a w hf hc => zD θ he hi hf 12 rfl rfl rfl hc
     ·intro E θ a w hD hi hp he hc
      have e3 := hp.o 3 rfl
      have e5 := hp.o 5 rfl
      have hf := (he.h0.mP he 10 rfl e3).mP he 12 rfl e5
      refine sp 1 hf rfl fun a hf => zD θ he hi hf 13 rfl rfl rfl hc
     ·intro E θ a w hD hi hp he hc
      have e1 := hp.o 1 rfl
      have hf := (he.h0.mT he 2 rfl).mP he 8 rfl e1
      refine zP hf rfl (pIAA Try.underlying58 sz_3 rfl rfl (inR_spec hun_2).1 (inR_spec hun_2).2) fun a hf => zD θ he hi hf 14 rfl rfl rfl hc
     ·intro E θ a w hD hi hp he hc
      have e6 := hp.o 6 rfl
      have e7 := hp.o 7 rfl
      try dsimp only at hc
      rw [hi] at hc
      have hf := (he.h0.mP he 13 rfl e6).mP he 14 rfl e7
      refine stAr (vs := [i6 (W ((x_1 e_3.A.toNat) + e_3.Weight))]) (o' := 0) (z := W ((x_1 e_3.A.toNat) + e_3.Weight)) hf hc rfl rfl rfl rfl sz_3 rfl (fun x => (one_encI_i64 x).1) rfl hun_2 rfl rfl u1 fun w hc => zG θ he hi hf rfl ?_
      try dsimp only
      rw [updE_self E 8]
      exact hc
     ·intro E θ a w hall he hc
      have hf := he.h0
      have e8 := hall 8 rfl
      replace hf := hf.more he 6 rfl (onT)
      replace hf := hf.more he 5 rfl (onT)
      replace hf := hf.more he 4 rfl (onT)
      replace hf := hf.more he 3 rfl (onT)
      replace hf := hf.more he 2 rfl (onT)
      replace hf := hf.more he 1 rfl (onT)
      replace hf := hf.more he 0 rfl (onT)
      try dsimp only at hc
      rw [e8] at hc
      exact ⟨hf.kp rfl,hc⟩
     rintro a w ⟨hf,hc⟩
     refine h30 _ _ ?_
     refine wp_seq_k fun K31 h31 => ?_
     obtain ⟨un_3,hun_3,hF⟩ := bnd_some hF
     obtain ⟨un_4,hun_4,hF⟩ := bnd_some hF
     refine regionE (fun θ => [⟨none,none,0,.slice l_p l.length l_c⟩,⟨none,none,7,i6 out⟩,⟨none,none,8,pq b_1⟩,⟨none,none,10,pq b_5⟩,⟨none,none,26,.slice falls_p falls.length falls_c⟩,⟨none,none,27,i6 ((falls.length : Nat) : Int)⟩,⟨none,none,28,i6 x⟩,⟨some 0,none,47,.pointer (some ⟨b_5,1,none⟩)⟩,⟨some 1,none,48,i6 e_3.B⟩,⟨some 2,none,49,.pointer (some ⟨b_1,0 + e_3.B.toNat * 1,none⟩)⟩,⟨some 3,none,50,i6 ((setF x_1 e_3.A.toNat (W ((x_1 e_3.A.toNat) + e_3.Weight))) e_3.B.toNat)⟩,⟨some 4,none,51,.pointer (some ⟨b_5,2,none⟩)⟩,⟨some 5,none,52,i6 e_3.Weight⟩,⟨some 6,none,53,i6 (W (((setF x_1 e_3.A.toNat (W ((x_1 e_3.A.toNat) + e_3.Weight))) e_3.B.toNat) + e_3.Weight))⟩,⟨some 7,none,54,.pointer (some ⟨b_1,0 + e_3.B.toNat * 1,none⟩)⟩]) (fun E θ => .box b_5 [i6 e_3.A,i6 e_3.B,i6 e_3.Weight] 43::(bif E 8 then .box b_1 (catc [] 30 encI_i64 (setF (setF x_1 e_3.A.toNat (W ((x_1 e_3.A.toNat) + e_3.Weight))) e_3.B.toNat (W (((setF x_1 e_3.A.toNat (W ((x_1 e_3.A.toNat) + e_3.Weight))) e_3.B.toNat) + e_3.Weight))) []) 58 else .box b_1 (catc [] 30 encI_i64 (setF x_1 e_3.A.toNat (W ((x_1 e_3.A.toNat) + e_3.Weight))) []) 58)::Lf) [(8,3)] (fun a w => Has 89 a [(0,.slice l_p l.length l_c),(7,i6 out),(8,pq b_1),(10,pq b_5),(26,.slice falls_p falls.length falls_c),(27,i6 ((falls.length : Nat) : Int)),(28,i6 x)] ∧ Ctx G (.box b_5 [i6 e_3.A,i6 e_3.B,i6 e_3.Weight] 43::.box b_1 (catc [] 30 encI_i64 (setF (setF x_1 e_3.A.toNat (W ((x_1 e_3.A.toNat) + e_3.Weight))) e_3.B.toNat (W (((setF x_1 e_3.A.toNat (W ((x_1 e_3.A.toNat) + e_3.Weight))) e_3.B.toNat) + e_3.Weight))) []) 58::Lf) w) follows_mx (by kernel_rfl) (by kernel_rfl) (HasE.of hf ⟨rfl,rfl,rfl,rfl,rfl,rfl,rfl,trivial,trivial,trivial,trivial,trivial,trivial,trivial,trivial,trivial⟩) hc ⟨?_,?_,?_,?_,?_,?_,?_,?_,?_,trivial⟩ ?_ ?_
     ·intro E θ a w hD hi hp he hc
      have hf := he.h0.mT he 3 rfl
      refine zP hf rfl (pFA fa_43_1 rfl) fun a hf => zD θ he hi hf 7 rfl rfl rfl hc
     ·intro E θ a w hD hi hp he hc
      have e0 := hp.o 0 rfl
      have hf := he.h0.mP he 7 rfl e0
      refine zL hf hc sc_3 m0 rfl fun a w hf hc => zD θ he hi hf 8 rfl rfl rfl hc
     ·intro E θ a w hD hi hp he hc
      have e1 := hp.o 1 rfl
      have hf := (he.h0.mT he 2 rfl).mP he 8 rfl e1
      refine zP hf rfl (pIAA Try.underlying58 sz_3 rfl rfl (inR_spec hun_3).1 (inR_spec hun_3).2) fun a hf => zD θ he hi hf 9 rfl rfl rfl hc
     ·intro E θ a w hD hi hp he hc
      have e2 := hp.o 2 rfl
      have e8 := hD.f 0 rfl hi
      try dsimp only at hc
      rw [e8] at hc
      have hf := he.h0.mP he 9 rfl e2
      refine zE hf hc rfl (eLd1 sc_3 rfl (cell_arr (j := 0) m1 (fun x => (one_encI_i64 x).1) rfl hun_3 rfl)) fun a w hf hc => zD θ he hi hf 10 rfl rfl rfl ?_
      try dsimp only
      rw [updE_fls 3 e8 rfl]
      exact hc
     ·intro E θ a w hD hi hp he hc
      have hf := he.h0.mT he 3 rfl
      refine zP hf rfl (pFA fa_43_2 rfl) fun a hf => zD θ he hi hf 11 rfl rfl rfl hc
     ·intro E θ a w hD hi hp he hc
      have e4 := hp.o 4 rfl
      have hf := he.h0.mP he 11 rfl e4
      refine zL hf hc sc_3 m0 rfl fun a w hf hc => zD θ he hi hf 12 rfl rfl rfl hc
     ·intro E θ a w hD hi hp he hc
      have e3 := hp.o 3 rfl
      have e5 := hp.o 5 rfl
      have hf := (he.h0.mP he 10 rfl e3).mP he 12 rfl e5
      refine sp 1 hf rfl fun a hf => zD θ he hi hf 13 rfl rfl rfl hc
     ·intro E θ a w hD hi hp he hc
      have e1 := hp.o 1 rfl
      have hf := (he.h0.mT he 2 rfl).mP he 8 rfl e1
      refine zP hf rfl (pIAA Try.underlying58 sz_3 rfl rfl (inR_spec hun_4).1 (inR_spec hun_4).2) fun a hf => zD θ he hi hf 14 rfl rfl rfl hc
     ·intro E θ a w hD hi hp he hc
      have e6 := hp.o 6 rfl
      have e7 := hp.o 7 rfl
      try dsimp only at hc
      rw [hi] at hc
      have hf := (he.h0.mP he 13 rfl e6).mP he 14 rfl e7
      refine stAr (vs := [i6 (W (((setF x_1 e_3.A.toNat (W ((x_1 e_3.A.toNat) + e_3.Weight))) e_3.B.toNat) + e_3.Weight))]) (o' := 0) (z := W (((setF x_1 e_3.A.toNat (W ((x_1 e_3.A.toNat) + e_3.Weight))) e_3.B.toNat) + e_3.Weight)) hf hc rfl rfl rfl rfl sz_3 rfl (fun x => (one_encI_i64 x).1) rfl hun_4 rfl rfl u1 fun w hc => zG θ he hi hf rfl ?_
      try dsimp only
      rw [updE_self E 8]
      exact hc
     ·intro E θ a w hall he hc
      have hf := he.h0
      have e8 := hall 8 rfl
      replace hf := hf.more he 6 rfl (onT)
      replace hf := hf.more he 5 rfl (onT)
      replace hf := hf.more he 4 rfl (onT)
      replace hf := hf.more he 3 rfl (onT)
      replace hf := hf.more he 2 rfl (onT)
      replace hf := hf.more he 1 rfl (onT)
      replace hf := hf.more he 0 rfl (onT)
      try dsimp only at hc
      rw [e8] at hc
      exact ⟨hf.kp rfl,hc⟩
     rintro a w ⟨hf,hc⟩
     refine h31 _ _ ?_
     obtain ⟨e_4,he_4,hF⟩ := bnd_some hF
     obtain ⟨b_6,o_2,qa_2,qp_2⟩ := h_l.atm he_4
     obtain ⟨e_5,he_5,hF⟩ := bnd_some hF
     obtain ⟨b_7,o_3,qa_3,qp_3⟩ := h_l.atm he_5
     refine cQ hc follows_mx (by kernel_rfl) ?_
     refine qE hf rfl rfl rfl (Pu.ev (pM rfl)) fun a hf => qE hf rfl rfl rfl (Pu.ev (pFA fa_43_2 rfl)) fun a hf => qE hf rfl rfl rfl (eLd1 sc_3 rfl (cell_box m0 rfl)) fun a hf => qE hf rfl rfl rfl (Pu.ev (pM rfl)) fun a hf => qE hf rfl rfl rfl (Pu.ev (pFA fa_43_0 rfl)) fun a hf => qE hf rfl rfl rfl (eLd1 sc_3 rfl (cell_box m0 rfl)) fun a hf => qE hf rfl rfl rfl (Pu.ev (pIA Try.underlying23 sz_39 rfl rfl qa_2)) fun a hf => qE hf rfl rfl rfl (Pu.ev (pFA fa_39_0 rfl)) fun a hf => qE hf rfl rfl rfl (eLd1 sc_3 rfl (cell_pc (j := 0) qp_2 rfl)) fun a hf => qE hf rfl rfl rfl (Pu.ev (pM rfl)) fun a hf => qE hf rfl rfl rfl (Pu.ev (pFA fa_43_1 rfl)) fun a hf => qE hf rfl rfl rfl (eLd1 sc_3 rfl (cell_box m0 rfl)) fun a hf => qE hf rfl rfl rfl (Pu.ev (pIA Try.underlying23 sz_39 rfl rfl qa_3)) fun a hf => ?_
     refine qE hf rfl rfl rfl (Pu.ev (pFA fa_39_0 rfl)) fun a hf => qE hf rfl rfl rfl (eLd1 sc_3 rfl (cell_pc (j := 0) qp_3 rfl)) fun a hf => qE hf rfl rfl rfl (Pu.ev (pSub rfl rfl)) fun a hf => qE hf rfl rfl rfl (Pu.ev (pMul rfl rfl)) fun a hf => qE hf rfl rfl rfl (Pu.ev (pAdd rfl rfl)) fun a hf => qE hf rfl rfl rfl (Pu.ev (pA rfl)) fun a hf => ?_
     intro w hc
     refine h24 _ _ ?_
     refine cReg ?_
     refine sp 2 hf rfl fun a hf => cNil ?_
     replace hc := hc.drop k0
     exact hK11 (W (out + (W (e_3.Weight * (W (e_4.Value - e_5.Value))))),W (x + 1),(setF (setF x_1 e_3.A.toNat (W ((x_1 e_3.A.toNat) + e_3.Weight))) e_3.B.toNat (W (((setF x_1 e_3.A.toNat (W ((x_1 e_3.A.toNat) + e_3.Weight))) e_3.B.toNat) + e_3.Weight)))) _ _ (sj hF).symm ⟨hf.kp rfl,hc⟩
   ·refine wp_exit ?_
    refine xThen ?_
    refine xThen ?_
    have he := sj hF
    rw [← he] at hfin11
    refine cHit ?_
    exact hr11 _ _ _ hfin11 ⟨hf.kp rfl,hc⟩
 refine zS fun K h => sp 3 hf rfl fun a hf => stCc 4 (fun a => Has 89 a [(0,.slice l_p l.length l_c),(1,.slice falls_p falls.length falls_c),(6,i6 r),(16,i6 r),(17,.bool (r == 0)),(18,.bool (r == 0)),(22,.bool ((r == 0) && (decide (900 < ((falls.length : Nat) : Int)))))]) hc ?_ ?_
 ·cases hb : (r == 0)
  ·rw [hb] at hf
   refine stS hf rfl rfl rfl fun a hf => stS hf rfl rfl rfl fun a hf => stS hf rfl rfl rfl fun a hf => sp 1 hf rfl fun a hf => cNil ⟨hf.kp rfl,hc⟩
  ·rw [hb] at hf
   refine sp 1 hf rfl fun a hf => zP hf rfl (pLenS Try.underlying33 rfl) fun a hf => sp 2 hf rfl fun a hf => cNil ⟨hf.kp rfl,hc⟩
 intro a w ⟨hf,hc⟩
 refine zT h ?_
 refine zI hf rfl hF ?_ ?_ <;> clear hF <;> intro hF
 ·refine cReg ?_
  refine sp 1 hf rfl fun a hf => cNil ?_
  exact hj3 3 _ _  (hf.kp rfl) hc hF
 ·refine wp_skip ?_
  exact hj3 r _ _  (hf.kp rfl) hc hF

def law07_span (N : Nat) (lo : Int) (hi_ : Int) : Option (api_Span) :=
 some (⟨lo,hi_⟩ : api_Span)
theorem law07_span_ok {N : Nat} {G : Pers} {Lf : List Ent} {w : World} (lo : Int) (hi_ : Int)   (hc : Ctx G (Lf) w) {res : api_Span} (hF : law07_span N lo hi_ = some res) : Calls Try.prog 30 #[i6 lo,i6 hi_] w (fun e w => e = .returned (.agg #[i6 res.Lo,i6 res.Hi]) ∧ Ctx G (Lf) w) := by
 unfold law07_span at hF
 refine fnIn Try.func30 rfl Try.ntmps30 rfl fun a hf => zS fun K h => zA hf hc zr_71 rfl fun b_1 a w hf hc => zT h ?_
 refine zS fun K h => sp 2 hf rfl fun a hf => zP hf rfl (pBuildS (cells := [i6 lo,i6 hi_]) bt_71 rfl rfl) fun a hf => zW hf hc sz_71 u0 rfl fun w hc => zT h ?_
 refine wp_ret ?_
 obtain rfl := sj hF
 exact fnOut1 (by simp) rfl Try.results30 hf hc (rv_cellN (vs := [i6 lo,i6 hi_]) ag_71 rfl rfl (cells_box (n := 2) m0 rfl)) ⟨rfl,(hc.drop k0)⟩

def law07_known (N : Nat) (lo : Int) (hi_ : Int) : Option (daily_Value) :=
 Option.bind (law07_span N lo hi_) fun r =>
 some (⟨true,r⟩ : daily_Value)
theorem law07_known_ok {N : Nat} {G : Pers} {Lf : List Ent} {w : World} (lo : Int) (hi_ : Int)   (hc : Ctx G (Lf) w) {res : daily_Value} (hF : law07_known N lo hi_ = some res) : Calls Try.prog 45 #[i6 lo,i6 hi_] w (fun e w => e = .returned (.agg #[.bool res.Known,i6 res.Flow.Lo,i6 res.Flow.Hi]) ∧ Ctx G (Lf) w) := by
 unfold law07_known at hF
 refine fnIn Try.func45 rfl Try.ntmps45 rfl fun a hf => zS fun K h => zA hf hc zr_100 rfl fun b_1 a w hf hc => zT h ?_
 refine zS fun K h => sp 2 hf rfl fun a hf => ?_
 obtain ⟨r,hr,hF⟩ := bnd_some hF
 refine zQ (v := .agg #[i6 r.Lo,i6 r.Hi]) hf hc en_30 rfl (fun w hc => law07_span_ok lo hi_ hc hr) fun a w hf hc => zP hf rfl (pBuildS (cells := [.bool true,i6 r.Lo,i6 r.Hi]) bt_100 rfl rfl) fun a hf => zW hf hc sz_100 u0 rfl fun w hc => zT h ?_
 refine wp_ret ?_
 obtain rfl := sj hF
 exact fnOut1 (by simp) rfl Try.results45 hf hc (rv_cellN (vs := [.bool true,i6 r.Lo,i6 r.Hi]) ag_100 rfl rfl (cells_box (n := 3) m0 rfl)) ⟨rfl,(hc.drop k0)⟩

def law07_Four (N : Nat) (least : Int) : Option (daily_Record) :=
 Option.bind (law07_known N 20 30) fun r =>
 Option.bind (law07_known N least 90) fun r_1 =>
 some (⟨10,5,([r,(⟨false,(⟨0,0⟩ : api_Span)⟩ : daily_Value),(⟨false,(⟨0,0⟩ : api_Span)⟩ : daily_Value),r_1] : List daily_Value)⟩ : daily_Record)
theorem law07_Four_ok {N : Nat} {G : Pers} {Lf : List Ent} {w : World} (least : Int)   (hc : Ctx G (Lf) w) {res : daily_Record} (hF : law07_Four N least = some res) : Calls Try.prog 25 #[i6 least] w (fun e w => ∃ (p'1 : Option Addr) (c'1 : Nat),e = .returned (.agg #[i6 res.Rise,i6 res.Fall,.slice p'1 res.Days.length c'1]) ∧ Ctx G (.row p'1 c'1 (res.Days.map enc_daily_Value) 100 3::Lf) w) := by
 unfold law07_Four at hF
 refine fnIn Try.func25 rfl Try.ntmps25 rfl fun a hf => zS fun K h => zA hf hc zr_68 rfl fun b_1 a w hf hc => zT h ?_
 refine zS fun K h => ?_
 obtain ⟨r,hr,hF⟩ := bnd_some hF
 refine zQ (v := .agg #[.bool r.Known,i6 r.Flow.Lo,i6 r.Flow.Hi]) hf hc en_45 rfl (fun w hc => law07_known_ok 20 30 hc hr) fun a w hf hc => zP hf rfl (pBuildS (cells := [.bool false,i6 0,i6 0]) bt_100 rfl rfl) fun a hf => zP hf rfl (pBuildS (cells := [.bool false,i6 0,i6 0]) bt_100 rfl rfl) fun a hf => sp 1 hf rfl fun a hf => ?_
 obtain ⟨r_1,hr_1,hF⟩ := bnd_some hF
 refine zQ (v := .agg #[.bool r_1.Known,i6 r_1.Flow.Lo,i6 r_1.Flow.Hi]) hf hc en_45 rfl (fun w hc => law07_known_ok least 90 hc hr_1) fun a w hf hc => stBS (rows := ([r,(⟨false,(⟨0,0⟩ : api_Span)⟩ : daily_Value),(⟨false,(⟨0,0⟩ : api_Span)⟩ : daily_Value),r_1] : List daily_Value).map enc_daily_Value) (vs := [(0,.agg #[.bool r.Known,i6 r.Flow.Lo,i6 r.Flow.Hi]),(1,.agg #[.bool false,i6 0,i6 0]),(2,.agg #[.bool false,i6 0,i6 0]),(3,.agg #[.bool r_1.Known,i6 r_1.Flow.Lo,i6 r_1.Flow.Hi])]) hf hc rfl rfl sl_66 rfl ⟨rfl,rfl,rfl,rfl,rfl,rfl,rfl,rfl,rfl,rfl,rfl,rfl,trivial⟩ rfl rfl fun b_2 a w hf hc => zP hf rfl (pBuildS (cells := [i6 10,i6 5,.slice (some ⟨b_2,0,none⟩) 4 4]) bt_68 rfl rfl) fun a hf => zW hf hc sz_68 u1 rfl fun w hc => zT h ?_
 refine wp_ret ?_
 obtain rfl := sj hF
 exact fnOut1 (by simp) rfl Try.results25 hf hc (rv_cellN (vs := [i6 10,i6 5,.slice (some ⟨b_2,0,none⟩) 4 4]) ag_68 rfl rfl (cells_box (n := 3) m1 rfl)) ⟨(some ⟨b_2,0,none⟩),4,rfl,(hc.drop k1)⟩

def daily_flow (n : Int) : Bool :=
 (daily_in n 0 1000000000)
theorem daily_flow_ok {G : Pers} {Lf : List Ent} {w : World} (n : Int)   (hc : Ctx G (Lf) w) {res : Bool} (hF : daily_flow n = res) : Calls Try.prog 70 #[i6 n] w (fun e w => e = .returned (.bool res) ∧ Ctx G (Lf) w) := by
 unfold daily_flow at hF
 refine fnIn Try.func70 rfl Try.ntmps70 rfl fun a hf => zS fun K h => sp 1 hf rfl fun a hf => zT h ?_
 refine zS fun K h => sp 1 hf rfl fun a hf => zQ (v := .bool (daily_in n 0 1000000000)) hf hc en_20 rfl (fun w hc => daily_in_ok n 0 1000000000 hc rfl) fun a w hf hc => sp 1 hf rfl fun a hf => zT h ?_
 refine wp_ret ?_
 obtain rfl := hF
 exact zO1 Try.results70 hf rfl ⟨rfl,hc⟩

def daily_flows (s_ : api_Span) : Bool :=
 ((daily_in s_.Lo 0 s_.Hi) && (daily_flow s_.Hi))
theorem daily_flows_ok {G : Pers} {Lf : List Ent} {w : World} (s_ : api_Span)   (hc : Ctx G (Lf) w) {res : Bool} (hF : daily_flows s_ = res) : Calls Try.prog 53 #[.agg #[i6 s_.Lo,i6 s_.Hi]] w (fun e w => e = .returned (.bool res) ∧ Ctx G (Lf) w) := by
 unfold daily_flows at hF
 refine fnIn Try.func53 rfl Try.ntmps53 rfl fun a hf => zS fun K h => zB hf hc rfl fun b_1 a w hf hc => sp 1 hf rfl fun a hf => zT h ?_
 refine zS fun K h => zP hf rfl (pFA fa_71_0 rfl) fun a hf => zL hf hc sc_3 m0 rfl fun a w hf hc => zP hf rfl (pFA fa_71_1 rfl) fun a hf => zL hf hc sc_3 m0 rfl fun a w hf hc => zQ (v := .bool (daily_in s_.Lo 0 s_.Hi)) hf hc en_20 rfl (fun w hc => daily_in_ok s_.Lo 0 s_.Hi hc rfl) fun a w hf hc => sp 1 hf rfl fun a hf => stCc 4 (fun a => Has 13 a [(1,pq b_1),(2,.bool false),(3,pq b_1),(4,i6 s_.Lo),(5,.pointer (some ⟨b_1,1,none⟩)),(6,i6 s_.Hi),(7,.bool (daily_in s_.Lo 0 s_.Hi)),(8,.bool (daily_in s_.Lo 0 s_.Hi)),(12,.bool ((daily_in s_.Lo 0 s_.Hi) && (daily_flow s_.Hi)))]) hc ?_ ?_
 ·cases hb : (daily_in s_.Lo 0 s_.Hi)
  ·rw [hb] at hf
   refine stS hf rfl rfl rfl fun a hf => stS hf rfl rfl rfl fun a hf => stS hf rfl rfl rfl fun a hf => sp 1 hf rfl fun a hf => cNil ⟨hf.kp rfl,hc⟩
  ·rw [hb] at hf
   refine zP hf rfl (pFA fa_71_1 rfl) fun a hf => zL hf hc sc_3 m0 rfl fun a w hf hc => zQ (v := .bool (daily_flow s_.Hi)) hf hc en_70 rfl (fun w hc => daily_flow_ok s_.Hi hc rfl) fun a w hf hc => sp 1 hf rfl fun a hf => cNil ⟨hf.kp rfl,hc⟩
 intro a w ⟨hf,hc⟩
 refine sp 1 hf rfl fun a hf => zT h ?_
 refine wp_ret ?_
 obtain rfl := hF
 replace hc := hc.drop k0
 exact zO1 Try.results53 hf rfl ⟨rfl,hc⟩

def daily_Check_1 (v : daily_Value) : Bool :=
 ((!v.Known) || (daily_flows v.Flow))
theorem daily_Check_1_ok {G : Pers} {Lf : List Ent} {w : World} (v : daily_Value)   (hc : Ctx G (Lf) w) {res : Bool} (hF : daily_Check_1 v = res) : Calls Try.prog 72 #[.agg #[.bool v.Known,i6 v.Flow.Lo,i6 v.Flow.Hi]] w (fun e w => e = .returned (.bool res) ∧ Ctx G (Lf) w) := by
 unfold daily_Check_1 at hF
 refine fnIn Try.func72 rfl Try.ntmps72 rfl fun a hf => zS fun K h => zB hf hc rfl fun b_1 a w hf hc => sp 1 hf rfl fun a hf => zT h ?_
 refine zS fun K h => zP hf rfl (pFA fa_100_0 rfl) fun a hf => zL hf hc sc_4 m0 rfl fun a w hf hc => sp 2 hf rfl fun a hf => stCc 4 (fun a => Has 11 a [(1,pq b_1),(2,.bool false),(3,pq b_1),(4,.bool v.Known),(5,.bool (!v.Known)),(6,.bool (!v.Known)),(10,.bool ((!v.Known) || (daily_flows v.Flow)))]) hc ?_ ?_
 ·cases hb : (!v.Known)
  ·rw [hb] at hf
   refine zP hf rfl (pFA fa_100_1 rfl) fun a hf => zN hf hc ag_71 m0 rfl fun a w hf hc => zQ (v := .bool (daily_flows v.Flow)) hf hc en_53 rfl (fun w hc => daily_flows_ok v.Flow hc rfl) fun a w hf hc => sp 1 hf rfl fun a hf => cNil ⟨hf.kp rfl,hc⟩
  ·rw [hb] at hf
   refine stS hf rfl rfl rfl fun a hf => stS hf rfl rfl rfl fun a hf => stS hf rfl rfl rfl fun a hf => sp 1 hf rfl fun a hf => cNil ⟨hf.kp rfl,hc⟩
 intro a w ⟨hf,hc⟩
 refine sp 1 hf rfl fun a hf => zT h ?_
 refine wp_ret ?_
 obtain rfl := hF
 replace hc := hc.drop k0
 exact zO1 Try.results72 hf rfl ⟨rfl,hc⟩

def daily_every_daily_Value_1 (x : daily_Value) : Bool :=
 (!(daily_Check_1 (⟨x.Known,x.Flow⟩ : daily_Value)))
theorem daily_every_daily_Value_1_ok {G : Pers} {Lf : List Ent} {w : World} (x : daily_Value) {b_ : Nat}  (hc : Ctx G (.box b_ [.func (.func 72) #[] #[]] 132::Lf) w) {res : Bool} (hF : daily_every_daily_Value_1 x = res) : Calls Try.prog 89 #[.agg #[.bool x.Known,i6 x.Flow.Lo,i6 x.Flow.Hi],pq b_] w (fun e w => e = .returned (.bool res) ∧ Ctx G (.box b_ [.func (.func 72) #[] #[]] 132::Lf) w) := by
 unfold daily_every_daily_Value_1 at hF
 refine fnIn Try.func89 rfl Try.ntmps89 rfl fun a hf => zS fun K h => zB hf hc rfl fun b_1 a w hf hc => sp 1 hf rfl fun a hf => zT h ?_
 refine zS fun K h => zL hf hc sc_132 m1 rfl fun a w hf hc => zN hf hc ag_100 m0 rfl fun a w hf hc => zQ (v := .bool (daily_Check_1 (⟨x.Known,x.Flow⟩ : daily_Value))) hf hc en_72 rfl (fun w hc => daily_Check_1_ok (⟨x.Known,x.Flow⟩ : daily_Value) hc rfl) fun a w hf hc => sp 2 hf rfl fun a hf => zT h ?_
 refine wp_ret ?_
 obtain rfl := hF
 replace hc := hc.drop k0
 exact zO1 Try.results89 hf rfl ⟨rfl,hc⟩

def slices_IndexFunc_Ldaily_Value_daily_Value_b4 (N : Nat) (s_ : List daily_Value) (x : Int) : Option (Step (Int) (Int)) :=
 cond (decide (x < ((s_.length : Nat) : Int)))
 (Option.bind (getI s_ x) fun e_1 =>
 cond (daily_every_daily_Value_1 e_1)
 (some (.ret x))
 (some (.cont (W (x + 1)))))
 (some (.brk x))
def slices_IndexFunc_Ldaily_Value_daily_Value (N : Nat) (s_ : List daily_Value) : Option (Int) :=
 Option.bind (loopO (fun s4 => slices_IndexFunc_Ldaily_Value_daily_Value_b4 N s_ s4) N 0) fun x4 =>
 exK x4 (fun s4 => some (-1)) some
theorem slices_IndexFunc_Ldaily_Value_daily_Value_ok {N : Nat} {G : Pers} {Lf : List Ent} {w : World} (s_ : List daily_Value) {s__p : Option Addr} {s__c : Nat} {b_ : Nat} (h_s_ : Rd G 3 s__p s__c (s_.map enc_daily_Value)) (hc : Ctx G (.box b_ [.func (.func 72) #[] #[]] 132::Lf) w) {res : Int} (hF : slices_IndexFunc_Ldaily_Value_daily_Value N s_ = some res) : Calls Try.prog 94 #[.slice s__p s_.length s__c,.func (.func 89) #[] #[pq b_]] w (fun e w => e = .returned (i6 res) ∧ Ctx G (.box b_ [.func (.func 72) #[] #[]] 132::Lf) w) := by
 unfold slices_IndexFunc_Ldaily_Value_daily_Value at hF
 refine fnIn Try.func94 rfl Try.ntmps94 rfl fun a hf => zS fun K h => sp 1 hf rfl fun a hf => zT h ?_
 refine wp_seq_k fun K2 h2 => zS fun K h => sp 1 hf rfl fun a hf => zP hf rfl (pLenS Try.underlying66 rfl) fun a hf => sp 1 hf rfl fun a hf => zT h ?_
 refine wp_block ?_
 obtain ⟨x4,hx4,hF⟩ := bnd_some hF
 let S4 : Int → Act → World → Prop := (fun (zz : Int) a w => Has 19 a [(0,.slice s__p s_.length s__c),(1,.func (.func 89) #[] #[pq b_]),(7,i6 ((s_.length : Nat) : Int)),(8,i6 zz)] ∧ Ctx G (.box b_ [.func (.func 72) #[] #[]] 132::Lf) w)
 have hr4 : ∀ (zz : Int) a w,x4 = .go zz → S4 zz a w → K2 a w := by
  rintro x a w rfl ⟨hf,hc⟩
  replace hF := exK_go hF
  refine h2 _ _ ?_
  refine zS fun K h => sp 1 hf rfl fun a hf => zT h ?_
  refine wp_ret ?_
  obtain rfl := sj hF
  exact zO1 Try.results94 hf rfl ⟨rfl,hc⟩
 have ho4 : ∀ r,x4 = .out r → r = res := by
  rintro r rfl
  exact sj hF
 refine cLoop N (loopW (S := S4) (x := x4) ?_ N 0 _ _ ⟨hf.kp rfl,hc⟩ hx4)
 clear hF hf hc
 rintro x st4 a w KB4 ⟨hf,hc⟩ hF hfin4 hK4
 unfold slices_IndexFunc_Ldaily_Value_daily_Value_b4 at hF
 refine zS fun K h => sp 1 hf rfl fun a hf => zT h ?_
 refine wp_seq_k fun K7 h7 => zI hf rfl hF ?_ ?_ <;> clear hF <;> intro hF
 ·refine wp_skip ?_
  refine h7 _ _ ?_
  refine wp_seq_k fun K8 h8 => wp_block ?_
  refine zS fun K h => sp 2 hf rfl fun a hf => zT h ?_
  refine zS fun K h => sp 3 hf rfl fun a hf => ?_
  obtain ⟨e_1,he_1,hF⟩ := bnd_some hF
  obtain ⟨b_1,o,qa,qp⟩ := h_s_.atm he_1
  refine zP hf rfl (pIA Try.underlying66 sz_100 rfl rfl qa) fun a hf => zE hf hc rfl (eLdN (vs := [.bool e_1.Known,i6 e_1.Flow.Lo,i6 e_1.Flow.Hi]) ag_100 rfl rfl (cells_pc qp (n := 3) (o' := 0) rfl)) fun a w hf hc => zQ (v := .bool (daily_every_daily_Value_1 e_1)) hf hc en_89 rfl (fun w hc => (daily_every_daily_Value_1_ok e_1 (hc.pick k0) rfl).mono fun e w h => ⟨h.1,(h.2.unpick k0)⟩) fun a w hf hc => zT h ?_
  refine zI hf rfl hF ?_ ?_ <;> clear hF <;> intro hF
  ·refine zS fun K h => sp 2 hf rfl fun a hf => zT h ?_
   refine wp_ret ?_
   refine xBlkR ?_
   refine xThenR ?_
   refine xThenR ?_
   have he := sj hF
   rw [← he] at hfin4
   replace hF := ho4 _ hfin4
   refine xBlkR ?_
   refine xThenR ?_
   obtain rfl := hF
   exact zO1 Try.results94 hf rfl ⟨rfl,hc⟩
  ·refine wp_skip ?_
   refine h8 _ _ ?_
   refine cReg ?_
   refine sp 2 hf rfl fun a hf => cNil ?_
   exact hK4 (W (x + 1)) _ _ (sj hF).symm ⟨hf.kp rfl,hc⟩
 ·refine wp_exit ?_
  refine xThen ?_
  refine xThen ?_
  have he := sj hF
  rw [← he] at hfin4
  refine cHit ?_
  exact hr4 _ _ _ hfin4 ⟨hf.kp rfl,hc⟩

def slices_ContainsFunc_Ldaily_Value_daily_Value (N : Nat) (s_ : List daily_Value) : Option (Bool) :=
 Option.bind (slices_IndexFunc_Ldaily_Value_daily_Value N s_) fun r =>
 some (decide (0 ≤ r))
theorem slices_ContainsFunc_Ldaily_Value_daily_Value_ok {N : Nat} {G : Pers} {Lf : List Ent} {w : World} (s_ : List daily_Value) {s__p : Option Addr} {s__c : Nat} {b_ : Nat} (h_s_ : Rd G 3 s__p s__c (s_.map enc_daily_Value)) (hc : Ctx G (.box b_ [.func (.func 72) #[] #[]] 132::Lf) w) {res : Bool} (hF : slices_ContainsFunc_Ldaily_Value_daily_Value N s_ = some res) : Calls Try.prog 88 #[.slice s__p s_.length s__c,.func (.func 89) #[] #[pq b_]] w (fun e w => e = .returned (.bool res) ∧ Ctx G (.box b_ [.func (.func 72) #[] #[]] 132::Lf) w) := by
 unfold slices_ContainsFunc_Ldaily_Value_daily_Value at hF
 refine fnIn Try.func88 rfl Try.ntmps88 rfl fun a hf => zS fun K h => sp 1 hf rfl fun a hf => zT h ?_
 refine zS fun K h => sp 2 hf rfl fun a hf => ?_
 obtain ⟨r,hr,hF⟩ := bnd_some hF
 refine zQ (v := i6 r) hf hc en_94 rfl (fun w hc => (slices_IndexFunc_Ldaily_Value_daily_Value_ok s_ h_s_ (hc.pick k0) hr).mono fun e w h => ⟨h.1,(h.2.unpick k0)⟩) fun a w hf hc => sp 2 hf rfl fun a hf => zT h ?_
 refine wp_ret ?_
 obtain rfl := sj hF
 exact zO1 Try.results88 hf rfl ⟨rfl,hc⟩

def daily_every_daily_Value (N : Nat) (l : List daily_Value) : Option (Bool) :=
 Option.bind (slices_ContainsFunc_Ldaily_Value_daily_Value N l) fun r =>
 some (!r)
theorem daily_every_daily_Value_ok {N : Nat} {G : Pers} {Lf : List Ent} {w : World} (l : List daily_Value) {l_p : Option Addr} {l_c : Nat} (h_l : Rd G 3 l_p l_c (l.map enc_daily_Value)) (hc : Ctx G (Lf) w) {res : Bool} (hF : daily_every_daily_Value N l = some res) : Calls Try.prog 71 #[.slice l_p l.length l_c,.func (.func 72) #[] #[]] w (fun e w => e = .returned (.bool res) ∧ Ctx G (Lf) w) := by
 unfold daily_every_daily_Value at hF
 refine fnIn Try.func71 rfl Try.ntmps71 rfl fun a hf => zS fun K h => zB hf hc rfl fun b_1 a w hf hc => sp 1 hf rfl fun a hf => zT h ?_
 refine zS fun K h => sp 1 hf rfl fun a hf => zP hf rfl (pMF (us := [pq b_1]) rfl rfl) fun a hf => ?_
 obtain ⟨r,hr,hF⟩ := bnd_some hF
 refine zQ (v := .bool r) hf hc en_88 rfl (fun w hc => (slices_ContainsFunc_Ldaily_Value_daily_Value_ok l h_l (hc.pick k0) hr).mono fun e w h => ⟨h.1,(h.2.unpick k0)⟩) fun a w hf hc => sp 2 hf rfl fun a hf => zT h ?_
 refine wp_ret ?_
 obtain rfl := sj hF
 replace hc := hc.drop k0
 exact zO1 Try.results71 hf rfl ⟨rfl,hc⟩

def daily_Check (N : Nat) (r : daily_Record) : Option (Int) :=
 cond (!(daily_in ((r.Days.length : Nat) : Int) 1 60))
 (some 3)
 (Option.bind (cond ((!(daily_flow r.Rise)) || (!(daily_flow r.Fall))) (some true) (Option.bind (daily_every_daily_Value N r.Days) fun r_0 =>
 some (!r_0))) fun t_1 =>
 cond t_1
 (some 80)
 (some 0))
theorem daily_Check_ok {N : Nat} {G : Pers} {Lf : List Ent} {w : World} (r : daily_Record) {r_Days_p : Option Addr} {r_Days_c : Nat} (h_r_Days : Rd G 3 r_Days_p r_Days_c (r.Days.map enc_daily_Value)) (hc : Ctx G (Lf) w) {res : Int} (hF : daily_Check N r = some res) : Calls Try.prog 46 #[.agg #[i6 r.Rise,i6 r.Fall,.slice r_Days_p r.Days.length r_Days_c]] w (fun e w => e = .returned (i6 res) ∧ Ctx G (Lf) w) := by
 unfold daily_Check at hF
 refine fnIn Try.func46 rfl Try.ntmps46 rfl fun a hf => zS fun K h => zB hf hc rfl fun b_1 a w hf hc => sp 1 hf rfl fun a hf => zT h ?_
 refine wp_seq_k fun K2 h2 => wp_block ?_
 refine zS fun K h => zP hf rfl (pFA fa_68_2 rfl) fun a hf => zL hf hc sc_66 m0 rfl fun a w hf hc => zP hf rfl (pLenS Try.underlying66 rfl) fun a hf => zQ (v := .bool (daily_in ((r.Days.length : Nat) : Int) 1 60)) hf hc en_20 rfl (fun w hc => daily_in_ok ((r.Days.length : Nat) : Int) 1 60 hc rfl) fun a w hf hc => sp 2 hf rfl fun a hf => zT h ?_
 refine zI hf rfl hF ?_ ?_ <;> clear hF <;> intro hF
 ·refine zS fun K h => sp 1 hf rfl fun a hf => zT h ?_
  refine wp_ret ?_
  refine xBlkR ?_
  refine xThenR ?_
  obtain rfl := sj hF
  replace hc := hc.drop k0
  exact zO1 Try.results46 hf rfl ⟨rfl,hc⟩
 ·refine zS fun K h => zP hf rfl (pFA fa_68_0 rfl) fun a hf => zL hf hc sc_3 m0 rfl fun a w hf hc => zQ (v := .bool (daily_flow r.Rise)) hf hc en_70 rfl (fun w hc => daily_flow_ok r.Rise hc rfl) fun a w hf hc => sp 2 hf rfl fun a hf => stCc 5 (fun a => Has 26 a [(1,pq b_1),(10,pq b_1),(11,i6 r.Rise),(12,.bool (daily_flow r.Rise)),(13,.bool (!(daily_flow r.Rise))),(14,.bool (!(daily_flow r.Rise))),(19,.bool ((!(daily_flow r.Rise)) || (!(daily_flow r.Fall))))]) hc ?_ ?_
  ·cases hb : (!(daily_flow r.Rise))
   ·rw [hb] at hf
    refine zP hf rfl (pFA fa_68_1 rfl) fun a hf => zL hf hc sc_3 m0 rfl fun a w hf hc => zQ (v := .bool (daily_flow r.Fall)) hf hc en_70 rfl (fun w hc => daily_flow_ok r.Fall hc rfl) fun a w hf hc => sp 2 hf rfl fun a hf => cNil ⟨hf.kp rfl,hc⟩
   ·rw [hb] at hf
    refine stS hf rfl rfl rfl fun a hf => stS hf rfl rfl rfl fun a hf => stS hf rfl rfl rfl fun a hf => stS hf rfl rfl rfl fun a hf => sp 1 hf rfl fun a hf => cNil ⟨hf.kp rfl,hc⟩
  intro a w ⟨hf,hc⟩
  refine sp 1 hf rfl fun a hf => ?_
  obtain ⟨t_1,ht_1,hF⟩ := bnd_some hF
  refine stCc 5 (fun a => Has 26 a [(1,pq b_1),(10,pq b_1),(11,i6 r.Rise),(12,.bool (daily_flow r.Rise)),(13,.bool (!(daily_flow r.Rise))),(14,.bool (!(daily_flow r.Rise))),(19,.bool ((!(daily_flow r.Rise)) || (!(daily_flow r.Fall)))),(20,.bool ((!(daily_flow r.Rise)) || (!(daily_flow r.Fall)))),(25,.bool t_1)]) hc ?_ ?_
  ·cases hb : ((!(daily_flow r.Rise)) || (!(daily_flow r.Fall)))
   ·rw [hb] at hf
    have hF := condF hb ht_1
    refine zP hf rfl (pFA fa_68_2 rfl) fun a hf => zL hf hc sc_66 m0 rfl fun a w hf hc => ?_
    obtain ⟨r_0,hr_0,hF⟩ := bnd_some hF
    refine zQ (v := .bool r_0) hf hc en_71 rfl (fun w hc => daily_every_daily_Value_ok r.Days h_r_Days hc hr_0) fun a w hf hc => sp 2 hf rfl fun a hf => ?_
    obtain rfl := sj hF
    exact cNil ⟨hf.kp rfl,hc⟩
   ·rw [hb] at hf
    have hF := condT hb ht_1
    obtain rfl := sj hF
    refine stS hf rfl rfl rfl fun a hf => stS hf rfl rfl rfl fun a hf => stS hf rfl rfl rfl fun a hf => stS hf rfl rfl rfl fun a hf => sp 1 hf rfl fun a hf => cNil ⟨hf.kp rfl,hc⟩
  intro a w ⟨hf,hc⟩
  refine sp 1 hf rfl fun a hf => zT h ?_
  refine zI hf rfl hF ?_ ?_ <;> clear hF <;> intro hF
  ·refine zS fun K h => sp 1 hf rfl fun a hf => zT h ?_
   refine wp_ret ?_
   refine xBlkR ?_
   refine xThenR ?_
   obtain rfl := sj hF
   replace hc := hc.drop k0
   exact zO1 Try.results46 hf rfl ⟨rfl,hc⟩
  ·refine wp_skip ?_
   refine h2 _ _ ?_
   refine zS fun K h => sp 1 hf rfl fun a hf => zT h ?_
   refine wp_ret ?_
   obtain rfl := sj hF
   replace hc := hc.drop k0
   exact zO1 Try.results46 hf rfl ⟨rfl,hc⟩

def daily_Value_span (N : Nat) (v : daily_Value) : Option (api_Span) :=
 cond v.Known
 (some v.Flow)
 (some (⟨0,1000000000⟩ : api_Span))
theorem daily_Value_span_ok {N : Nat} {G : Pers} {Lf : List Ent} {w : World} (v : daily_Value)   (hc : Ctx G (Lf) w) {res : api_Span} (hF : daily_Value_span N v = some res) : Calls Try.prog 51 #[.agg #[.bool v.Known,i6 v.Flow.Lo,i6 v.Flow.Hi]] w (fun e w => e = .returned (.agg #[i6 res.Lo,i6 res.Hi]) ∧ Ctx G (Lf) w) := by
 unfold daily_Value_span at hF
 refine fnIn Try.func51 rfl Try.ntmps51 rfl fun a hf => zS fun K h => zB hf hc rfl fun b_1 a w hf hc => zA hf hc zr_71 rfl fun b_2 a w hf hc => zT h ?_
 refine wp_seq_k fun K2 h2 => zS fun K h => zP hf rfl (pFA fa_100_0 rfl) fun a hf => zL hf hc sc_4 m1 rfl fun a w hf hc => zT h ?_
 refine zI hf rfl hF ?_ ?_ <;> clear hF <;> intro hF
 ·refine zS fun K h => zP hf rfl (pFA fa_100_1 rfl) fun a hf => zN hf hc ag_71 m1 rfl fun a w hf hc => zW hf hc sz_71 u0 rfl fun w hc => zT h ?_
  refine wp_ret ?_
  refine xThenR ?_
  obtain rfl := sj hF
  replace hc := hc.drop k1
  exact fnOut1 (by simp) rfl Try.results51 hf hc (rv_cellN (vs := [i6 v.Flow.Lo,i6 v.Flow.Hi]) ag_71 rfl rfl (cells_box (n := 2) m0 rfl)) ⟨rfl,(hc.drop k0)⟩
 ·refine wp_skip ?_
  refine h2 _ _ ?_
  refine zS fun K h => zP hf rfl (pBuildS (cells := [i6 0,i6 1000000000]) bt_71 rfl rfl) fun a hf => zW hf hc sz_71 u0 rfl fun w hc => zT h ?_
  refine wp_ret ?_
  obtain rfl := sj hF
  replace hc := hc.drop k1
  exact fnOut1 (by simp) rfl Try.results51 hf hc (rv_cellN (vs := [i6 0,i6 1000000000]) ag_71 rfl rfl (cells_box (n := 2) m0 rfl)) ⟨rfl,(hc.drop k0)⟩

def daily_work_pairs (N : Nat) (w_ : daily_work) (back : Bool) : Option (Bool) :=
 some back
theorem daily_work_pairs_ok {N : Nat} {G : Pers} {Lf : List Ent} {w : World} (w_ : daily_work) (back : Bool) {b_ : Nat} {w__Record_Days_p : Option Addr} {w__Record_Days_c : Nat} {w__spans_p : Option Addr} {w__spans_c : Nat} (h_w__Record_Days : Rd G 3 w__Record_Days_p w__Record_Days_c (w_.Record.Days.map enc_daily_Value)) (h_w__spans : Rd G 2 w__spans_p w__spans_c (w_.spans.map enc_api_Span)) (hc : Ctx G (.box b_ [i6 w_.Record.Rise,i6 w_.Record.Fall,.slice w__Record_Days_p w_.Record.Days.length w__Record_Days_c,.slice w__spans_p w_.spans.length w__spans_c] 98::Lf) w) {res : Bool} (hF : daily_work_pairs N w_ back = some res) : Calls Try.prog 86 #[pq b_,.bool back] w (fun e w => ∃ (b'1 : Nat) (b'2 : Nat),e = .returned (.func (.func 93) #[] #[pq b'1,pq b'2]) ∧ Ctx G (.box b'1 [pq b_] 94::.box b'2 [.bool res] 4::.box b_ [i6 w_.Record.Rise,i6 w_.Record.Fall,.slice w__Record_Days_p w_.Record.Days.length w__Record_Days_c,.slice w__spans_p w_.spans.length w__spans_c] 98::Lf) w) := by
 unfold daily_work_pairs at hF
 refine fnIn Try.func86 rfl Try.ntmps86 rfl fun a hf => zS fun K h => zB hf hc rfl fun b_1 a w hf hc => zB hf hc rfl fun b_2 a w hf hc => sp 1 hf rfl fun a hf => zT h ?_
 refine zS fun K h => zP hf rfl (pMF (us := [pq b_1,pq b_2]) rfl rfl) fun a hf => sp 1 hf rfl fun a hf => zT h ?_
 refine wp_ret ?_
 obtain rfl := sj hF
 replace hc := (hc.pick k0).pick k1
 exact zO1 Try.results86 hf rfl ⟨b_1,b_2,rfl,hc⟩

def daily_work_pairs_1_j9 (N : Nat) {σ : Type} (y : σ → (Int × Int) → Option (σ × Bool)) (x_0 : Int) (a_1 : Int) (b_1 : Int) (sg_1 : σ) : Option (Step (Int × σ) (σ)) :=
 Option.bind (y sg_1 (a_1,b_1)) fun ry =>
 cond (!ry.2)
 (some (.ret ry.1))
 (some (.cont (W (x_0 + 1),ry.1)))
def daily_work_pairs_1_b3 (N : Nat) {σ : Type} (x_2 : List daily_Value) (x_3 : Bool) (y : σ → (Int × Int) → Option (σ × Bool)) (x_0 : Int) (sg : σ) : Option (Step (Int × σ) (σ)) :=
 cond (decide (x_0 < (W (((x_2.length : Nat) : Int) - 1))))
 (cond x_3
 (daily_work_pairs_1_j9 N y x_0 (W ((W (((x_2.length : Nat) : Int) - 1)) - x_0)) (W ((W (((x_2.length : Nat) : Int) - 2)) - x_0)) sg)
 (daily_work_pairs_1_j9 N y x_0 x_0 (W (x_0 + 1)) sg))
 (some (.brk (x_0,sg)))
def daily_work_pairs_1 (N : Nat) {σ : Type} (x : Int) (x_1 : Int) (x_2 : List daily_Value) (x_3 : Bool) (y : σ → (Int × Int) → Option (σ × Bool)) (sg0 : σ) : Option (σ) :=
 Option.bind (loopO (fun s3 => daily_work_pairs_1_b3 N x_2 x_3 y s3.1 s3.2) N (0,sg0)) fun x3 =>
 exK x3 (fun s3 => some s3.2) some
theorem daily_work_pairs_1_ok {N : Nat} {G : Pers} {Lf : List Ent} {w : World} {σ : Type} (x : Int) (x_1 : Int) (x_2 : List daily_Value) (x_3 : Bool) {b_ : Nat} {b__1 : Nat} {x_2_p : Option Addr} {x_2_c : Nat} {x_o_p : Option Addr} {x_o_n : Nat} {x_o_c : Nat} {b__2 : Nat} (h_x_2 : Rd G 3 x_2_p x_2_c (x_2.map enc_daily_Value)) (J : σ → List Ent → Prop) (y : σ → (Int × Int) → Option (σ × Bool)) {l : Nat} (hy : YieldsTo Try.prog G l (fun x : (Int × Int) => [i6 x.1,i6 x.2]) J y) (sg0 : σ) {Ls0 : List Ent} (hJ0 : J sg0 Ls0) (hJe : ∀ (o : σ) (L : List Ent),J o L → ∃ A B,L = A ++ (.box b__1 [i6 x,i6 x_1,.slice x_2_p x_2.length x_2_c,.slice x_o_p x_o_n x_o_c] 98::B)) (hc : Ctx G (.box b_ [pq b__1] 94::.box b__2 [.bool x_3] 4::(Ls0 ++ Lf)) w) {res : σ} (hF : daily_work_pairs_1 N x x_1 x_2 x_3 y sg0 = some res) : Calls Try.prog 93 #[.func (.yield l) #[] #[],pq b_,pq b__2] w (fun e w => (∃ v,e = .returned v) ∧ ∃ L,J res L ∧ Ctx G (.box b_ [pq b__1] 94::.box b__2 [.bool x_3] 4::(L ++ Lf)) w) := by
 unfold daily_work_pairs_1 at hF
 refine fnIn Try.func93 rfl Try.ntmps93 rfl fun a hf => wp_seq_k fun K1 h1 => ?_
 obtain ⟨As,Bs,hsh_⟩ := hJe _ _ hJ0
 rw [hsh_] at hc hJ0
 replace hc : Ctx G (.box b_ [pq b__1] 94::.box b__2 [.bool x_3] 4::((As ++ (.box b__1 [i6 x,i6 x_1,.slice x_2_p x_2.length x_2_c,.slice x_o_p x_o_n x_o_c] 98::Bs)) ++ Lf)) w := hc
 replace hc : Ctx G (.box b__1 [i6 x,i6 x_1,.slice x_2_p x_2.length x_2_c,.slice x_o_p x_o_n x_o_c] 98::.box b_ [pq b__1] 94::.box b__2 [.bool x_3] 4::((As ++ Bs) ++ Lf)) w := shOut [.box b_ [pq b__1] 94,.box b__2 [.bool x_3] 4] hc
 refine cReg ?_
 refine zL hf hc sc_94 m1 rfl fun a w hf hc => sp 1 hf rfl fun a hf => zP hf rfl (pFA fa_98_0 rfl) fun a hf => zP hf rfl (pFA fa_68_2 rfl) fun a hf => zL hf hc sc_66 m0 rfl fun a w hf hc => zP hf rfl (pLenS Try.underlying66 rfl) fun a hf => sp 2 hf rfl fun a hf => cNil ?_
 replace hc : Ctx G (.box b_ [pq b__1] 94::.box b__2 [.bool x_3] 4::((As ++ (.box b__1 [i6 x,i6 x_1,.slice x_2_p x_2.length x_2_c,.slice x_o_p x_o_n x_o_c] 98::Bs)) ++ Lf)) w := shIn [.box b_ [pq b__1] 94,.box b__2 [.bool x_3] 4] hc
 refine h1 _ _ ?_
 refine wp_thenK fun K2 h2 => wp_block ?_
 obtain ⟨x3,hx3,hF⟩ := bnd_some hF
 let S3 : (Int × σ) → Act → World → Prop := (fun (zz : Int × σ) a w => ∃ (Ls : List Ent),J zz.2 Ls ∧ Has 45 a [(0,.func (.yield l) #[] #[]),(1,pq b_),(2,pq b__2),(13,i6 (W (((x_2.length : Nat) : Int) - 1))),(14,i6 zz.1)] ∧ Ctx G (.box b_ [pq b__1] 94::.box b__2 [.bool x_3] 4::(Ls ++ Lf)) w)
 have hr3 : ∀ (zz : Int × σ) a w,x3 = .go zz → S3 zz a w → K2 a w := by
  rintro ⟨x_0,sg⟩ a w rfl ⟨Ls,hJ,hf,hc⟩
  replace hF := exK_go hF
  refine h2 _ _ ?_
  obtain rfl := sj hF
  exact fnOut0 (by simp) rfl Try.results93 hf ⟨⟨_,rfl⟩,Ls,hJ,hc⟩
 have ho3 : ∀ r,x3 = .out r → r = res := by
  rintro r rfl
  exact sj hF
 refine cLoop N (loopW (S := S3) (x := x3) ?_ N (0,sg0) _ _ ⟨(As ++ (.box b__1 [i6 x,i6 x_1,.slice x_2_p x_2.length x_2_c,.slice x_o_p x_o_n x_o_c] 98::Bs)),hJ0,hf.kp rfl,hc⟩ hx3)
 clear hF hf hc
 rintro ⟨x_0,sg⟩ st3 a w KB3 ⟨Ls,hJ,hf,hc⟩ hF hfin3 hK3
 unfold daily_work_pairs_1_b3 at hF
 refine zS fun K h => sp 1 hf rfl fun a hf => zT h ?_
 refine wp_seq_k fun K5 h5 => zI hf rfl hF ?_ ?_ <;> clear hF <;> intro hF
 ·refine wp_skip ?_
  refine h5 _ _ ?_
  refine wp_seq_k fun K6 h6 => wp_block ?_
  refine zS fun K h => sp 2 hf rfl fun a hf => zT h ?_
  refine zS fun K h => sp 5 hf rfl fun a hf => zT h ?_
  refine wp_seq_k fun K9 h9 => ?_
  have hj9 : ∀ (a_1 : Int) (b_1 : Int) (sg_1 : σ) (Ls_1 : List Ent) a w,J sg_1 Ls_1 → Has 45 a [(0,.func (.yield l) #[] #[]),(1,pq b_),(2,pq b__2),(5,i6 a_1),(6,i6 b_1),(13,i6 (W (((x_2.length : Nat) : Int) - 1))),(14,i6 x_0)] → Ctx G (.box b_ [pq b__1] 94::.box b__2 [.bool x_3] 4::(Ls_1 ++ Lf)) w → daily_work_pairs_1_j9 N y x_0 a_1 b_1 sg_1 = some st3 → K9 a w := by
   repeat (clear hF)
   repeat (clear hc)
   repeat (clear hf)
   intro a_1 b_1 sg_1 Ls_1 a w hJ_1 hf hc hF
   unfold daily_work_pairs_1_j9 at hF
   refine h9 _ _ ?_
   refine wp_seq_k fun K10 h10 => ?_
   obtain ⟨ry,hry,hF⟩ := bnd_some hF
   refine yReg 3 (fun a w => Has 45 a [(0,.func (.yield l) #[] #[]),(1,pq b_),(2,pq b__2),(5,i6 a_1),(6,i6 b_1),(13,i6 (W (((x_2.length : Nat) : Int) - 1))),(14,i6 x_0),(39,.func (.yield l) #[] #[]),(40,i6 a_1),(41,i6 b_1)] ∧ Ctx G (.box b_ [pq b__1] 94::.box b__2 [.bool x_3] 4::(Ls_1 ++ Lf)) w) (fun _ _ h => by obtain ⟨⟨_,h⟩,_⟩ := h; cases h) ?_ ?_
   ·refine sp 3 hf rfl fun a hf => cNil ⟨hf.kp rfl,hc⟩
   rintro a w ⟨hf,hc⟩
   refine stY (own := [.box b_ [pq b__1] 94,.box b__2 [.bool x_3] 4]) (v := (a_1,b_1)) hy hJ_1 hry hf hc rfl rfl rfl rfl rfl rfl fun a w Ls_2 hJ_2 hf hc => ?_
   replace hc : Ctx G (.box b_ [pq b__1] 94::.box b__2 [.bool x_3] 4::(Ls_2 ++ Lf)) w := hc
   refine yRest (fun _ _ h => by obtain ⟨⟨_,h⟩,_⟩ := h; cases h) ?_
   refine sp 1 hf rfl fun a hf => cNil ?_
   refine h10 _ _ ?_
   refine zI hf rfl hF ?_ ?_ <;> clear hF <;> intro hF
   ·refine wp_ret ?_
    refine xBlkR ?_
    refine xThenR ?_
    refine xThenR ?_
    have he := sj hF
    rw [← he] at hfin3
    replace hF := ho3 _ hfin3
    refine xBlkR ?_
    refine xThenR ?_
    obtain rfl := hF
    exact fnOut0 (by simp) rfl Try.results93 hf ⟨⟨_,rfl⟩,Ls_2,hJ_2,hc⟩
   ·refine wp_skip ?_
    refine h6 _ _ ?_
    refine cReg ?_
    refine sp 2 hf rfl fun a hf => cNil ?_
    exact hK3 (W (x_0 + 1),ry.1) _ _ (sj hF).symm ⟨Ls_2,hJ_2,hf.kp rfl,hc⟩
  refine zS fun K h => zL hf hc sc_4 m1 rfl fun a w hf hc => zT h ?_
  refine zI hf rfl hF ?_ ?_ <;> clear hF <;> intro hF
  ·obtain ⟨As_1,Bs_1,hsh_⟩ := hJe _ _ hJ
   rw [hsh_] at hc hJ
   replace hc : Ctx G (.box b_ [pq b__1] 94::.box b__2 [.bool x_3] 4::((As_1 ++ (.box b__1 [i6 x,i6 x_1,.slice x_2_p x_2.length x_2_c,.slice x_o_p x_o_n x_o_c] 98::Bs_1)) ++ Lf)) w := hc
   replace hc : Ctx G (.box b__1 [i6 x,i6 x_1,.slice x_2_p x_2.length x_2_c,.slice x_o_p x_o_n x_o_c] 98::.box b_ [pq b__1] 94::.box b__2 [.bool x_3] 4::((As_1 ++ Bs_1) ++ Lf)) w := shOut [.box b_ [pq b__1] 94,.box b__2 [.bool x_3] 4] hc
   refine cQ hc follows_mx (by kernel_rfl) ?_
   refine qE hf rfl rfl rfl (eLd1 sc_94 rfl (cell_box m1 rfl)) fun a hf => qE hf rfl rfl rfl (Pu.ev (pNC rfl)) fun a hf => qE hf rfl rfl rfl (Pu.ev (pFA fa_98_0 rfl)) fun a hf => qE hf rfl rfl rfl (Pu.ev (pFA fa_68_2 rfl)) fun a hf => qE hf rfl rfl rfl (eLd1 sc_66 rfl (cell_box m0 rfl)) fun a hf => qE hf rfl rfl rfl (Pu.ev (pLenS Try.underlying66 rfl)) fun a hf => qE hf rfl rfl rfl (Pu.ev (pSub rfl rfl)) fun a hf => qE hf rfl rfl rfl (Pu.ev (pM rfl)) fun a hf => qE hf rfl rfl rfl (Pu.ev (pSub rfl rfl)) fun a hf => qE hf rfl rfl rfl (eLd1 sc_94 rfl (cell_box m1 rfl)) fun a hf => qE hf rfl rfl rfl (Pu.ev (pNC rfl)) fun a hf => qE hf rfl rfl rfl (Pu.ev (pFA fa_98_0 rfl)) fun a hf => qE hf rfl rfl rfl (Pu.ev (pFA fa_68_2 rfl)) fun a hf => ?_
   refine qE hf rfl rfl rfl (eLd1 sc_66 rfl (cell_box m0 rfl)) fun a hf => qE hf rfl rfl rfl (Pu.ev (pLenS Try.underlying66 rfl)) fun a hf => qE hf rfl rfl rfl (Pu.ev (pSub rfl rfl)) fun a hf => qE hf rfl rfl rfl (Pu.ev (pM rfl)) fun a hf => qE hf rfl rfl rfl (Pu.ev (pSub rfl rfl)) fun a hf => qE hf rfl rfl rfl (Pu.ev (pA rfl)) fun a hf => qE hf rfl rfl rfl (Pu.ev (pA rfl)) fun a hf => ?_
   intro w hc
   replace hc : Ctx G (.box b_ [pq b__1] 94::.box b__2 [.bool x_3] 4::((As_1 ++ (.box b__1 [i6 x,i6 x_1,.slice x_2_p x_2.length x_2_c,.slice x_o_p x_o_n x_o_c] 98::Bs_1)) ++ Lf)) w := shIn [.box b_ [pq b__1] 94,.box b__2 [.bool x_3] 4] hc
   exact hj9 (W ((W (((x_2.length : Nat) : Int) - 1)) - x_0)) (W ((W (((x_2.length : Nat) : Int) - 2)) - x_0)) sg (As_1 ++ (.box b__1 [i6 x,i6 x_1,.slice x_2_p x_2.length x_2_c,.slice x_o_p x_o_n x_o_c] 98::Bs_1)) _ _ hJ (hf.kp rfl) hc hF
  ·refine wp_skip ?_
   exact hj9 x_0 (W (x_0 + 1)) sg Ls _ _ hJ (hf.kp rfl) hc hF
 ·refine wp_exit ?_
  refine xThen ?_
  refine xThen ?_
  have he := sj hF
  rw [← he] at hfin3
  refine cHit ?_
  exact hr3 _ _ _ hfin3 ⟨Ls,hJ,hf.kp rfl,hc⟩

def daily_opened_1 (N : Nat) (i_ : Int) (low : Int) (high : Int) (x : Int) (x_1 : Int) (x_2 : List daily_Value) (x_3 : List api_Span) : Option ((List api_Span)) :=
 Option.bind (getI x_3 i_) fun e_1 =>
 Option.bind (sameL ((x_3.set i_.toNat (⟨max e_1.Lo low,e_1.Hi⟩ : api_Span)).set i_.toNat (⟨max e_1.Lo low,min e_1.Hi high⟩ : api_Span)) x_3) fun _ =>
 some ((x_3.set i_.toNat (⟨max e_1.Lo low,e_1.Hi⟩ : api_Span)).set i_.toNat (⟨max e_1.Lo low,min e_1.Hi high⟩ : api_Span))
theorem daily_opened_1_ok {N : Nat} {G : Pers} {Lf : List Ent} {w : World} (i_ : Int) (low : Int) (high : Int) (x : Int) (x_1 : Int) (x_2 : List daily_Value) (x_3 : List api_Span) {b_ : Nat} {b__1 : Nat} {x_2_p : Option Addr} {x_2_c : Nat} {x_3_p : Option Addr} {x_3_c : Nat} (h_x_2 : Rd G 3 x_2_p x_2_c (x_2.map enc_daily_Value)) (hc : Ctx G (.box b_ [pq b__1] 94::.box b__1 [i6 x,i6 x_1,.slice x_2_p x_2.length x_2_c,.slice x_3_p x_3.length x_3_c] 98::.row x_3_p x_3_c (x_3.map enc_api_Span) 71 2::Lf) w) {res : (List api_Span)} (hF : daily_opened_1 N i_ low high x x_1 x_2 x_3 = some res) : Calls Try.prog 85 #[i6 i_,i6 low,i6 high,pq b_] w (fun e w => e = .returned (.tuple #[]) ∧ res.length = x_3.length ∧ Ctx G (.box b_ [pq b__1] 94::.box b__1 [i6 x,i6 x_1,.slice x_2_p x_2.length x_2_c,.slice x_3_p x_3.length x_3_c] 98::.row x_3_p x_3_c (res.map enc_api_Span) 71 2::Lf) w) := by
 unfold daily_opened_1 at hF
 refine fnIn Try.func85 rfl Try.ntmps85 rfl fun a hf => zS fun K h => zL hf hc sc_94 m0 rfl fun a w hf hc => sp 1 hf rfl fun a hf => zP hf rfl (pFA fa_98_1 rfl) fun a hf => zL hf hc sc_63 m1 rfl fun a w hf hc => sp 1 hf rfl fun a hf => ?_
 obtain ⟨e_1,he_1,hF⟩ := bnd_some hF
 obtain ⟨g,rfl,qa,qr⟩ := row_atm hc m2 he_1
 refine zP hf rfl (pIA Try.underlying63 sz_71 rfl rfl qa) fun a hf => sp 1 hf rfl fun a hf => zT h ?_
 refine regionE (fun θ => [⟨none,none,1,i6 low⟩,⟨none,none,2,i6 high⟩,⟨none,none,7,.pointer (some ⟨g,i_.toNat * 2,none⟩)⟩,⟨some 0,none,14,.pointer (some ⟨g,i_.toNat * 2,none⟩)⟩,⟨some 1,none,15,.pointer (some ⟨g,i_.toNat * 2,none⟩)⟩,⟨some 2,none,16,.pointer (some ⟨g,i_.toNat * 2,none⟩)⟩,⟨some 3,none,17,.pointer (some ⟨g,i_.toNat * 2,none⟩)⟩,⟨some 4,none,18,.pointer (some ⟨g,i_.toNat * 2 + 0,none⟩)⟩,⟨some 5,none,19,i6 e_1.Lo⟩,⟨some 6,none,20,i6 low⟩,⟨some 7,none,21,i6 (max e_1.Lo low)⟩,⟨some 8,none,22,.pointer (some ⟨g,i_.toNat * 2,none⟩)⟩,⟨some 9,none,23,.pointer (some ⟨g,i_.toNat * 2,none⟩)⟩,⟨some 10,none,24,.pointer (some ⟨g,i_.toNat * 2 + 1,none⟩)⟩,⟨some 11,none,25,i6 e_1.Hi⟩,⟨some 12,none,26,i6 high⟩,⟨some 13,none,27,i6 (min e_1.Hi high)⟩,⟨some 14,none,28,.pointer (some ⟨g,i_.toNat * 2,none⟩)⟩,⟨some 15,none,29,.pointer (some ⟨g,i_.toNat * 2 + 0,none⟩)⟩,⟨some 17,none,30,.pointer (some ⟨g,i_.toNat * 2,none⟩)⟩,⟨some 18,none,31,.pointer (some ⟨g,i_.toNat * 2 + 1,none⟩)⟩]) (fun E θ => .box b_ [pq b__1] 94::.box b__1 [i6 x,i6 x_1,.slice x_2_p x_2.length x_2_c,.slice (some ⟨g,0,none⟩) x_3.length x_3_c] 98::(bif E 19 then .row (some ⟨g,0,none⟩) x_3_c (((x_3.set i_.toNat (⟨max e_1.Lo low,e_1.Hi⟩ : api_Span)).set i_.toNat (⟨max e_1.Lo low,min e_1.Hi high⟩ : api_Span)).map enc_api_Span) 71 2 else bif E 16 then .row (some ⟨g,0,none⟩) x_3_c ((x_3.set i_.toNat (⟨max e_1.Lo low,e_1.Hi⟩ : api_Span)).map enc_api_Span) 71 2 else .row (some ⟨g,0,none⟩) x_3_c (x_3.map enc_api_Span) 71 2)::Lf) [(16,5),(19,5),(16,11),(19,11),(19,16)] (fun a w => Has 32 a [] ∧ Ctx G (.box b_ [pq b__1] 94::.box b__1 [i6 x,i6 x_1,.slice x_2_p x_2.length x_2_c,.slice (some ⟨g,0,none⟩) x_3.length x_3_c] 98::.row (some ⟨g,0,none⟩) x_3_c (((x_3.set i_.toNat (⟨max e_1.Lo low,e_1.Hi⟩ : api_Span)).set i_.toNat (⟨max e_1.Lo low,min e_1.Hi high⟩ : api_Span)).map enc_api_Span) 71 2::Lf) w) follows_mx (by kernel_rfl) (by kernel_rfl) (HasE.of hf ⟨rfl,rfl,rfl,trivial,trivial,trivial,trivial,trivial,trivial,trivial,trivial,trivial,trivial,trivial,trivial,trivial,trivial,trivial,trivial,trivial,trivial,trivial⟩) hc ⟨?_,?_,?_,?_,?_,?_,?_,?_,?_,?_,?_,?_,?_,?_,?_,?_,?_,?_,?_,?_,trivial⟩ ?_ ?_
 ·intro E θ a w hD hi hp he hc
  have hf := he.h0.mT he 2 rfl
  refine sp 1 hf rfl fun a hf => zD θ he hi hf 3 rfl rfl rfl hc
 ·intro E θ a w hD hi hp he hc
  have hf := he.h0.mT he 2 rfl
  refine sp 1 hf rfl fun a hf => zD θ he hi hf 4 rfl rfl rfl hc
 ·intro E θ a w hD hi hp he hc
  have hf := he.h0.mT he 2 rfl
  refine sp 1 hf rfl fun a hf => zD θ he hi hf 5 rfl rfl rfl hc
 ·intro E θ a w hD hi hp he hc
  have e2 := hp.o 2 rfl
  have hf := he.h0.mP he 5 rfl e2
  refine sp 1 hf rfl fun a hf => zD θ he hi hf 6 rfl rfl rfl hc
 ·intro E θ a w hD hi hp he hc
  have e3 := hp.o 3 rfl
  have hf := he.h0.mP he 6 rfl e3
  refine zP hf rfl (pFA fa_71_0 rfl) fun a hf => zD θ he hi hf 7 rfl rfl rfl hc
 ·intro E θ a w hD hi hp he hc
  have e4 := hp.o 4 rfl
  have e16 := hD.f 0 rfl hi
  have e19 := hD.f 1 rfl hi
  try dsimp only at hc
  rw [e16,e19] at hc
  have hf := he.h0.mP he 7 rfl e4
  refine zE hf hc rfl (eLd1 sc_3 rfl (cell_row (sz := 2) (i := i_.toNat) (j := 0) m2 qr rfl)) fun a w hf hc => zD θ he hi hf 8 rfl rfl rfl ?_
  try dsimp only
  rw [updE_fls 5 e16 rfl,updE_fls 5 e19 rfl]
  exact hc
 ·intro E θ a w hD hi hp he hc
  have hf := he.h0.mT he 0 rfl
  refine sp 1 hf rfl fun a hf => zD θ he hi hf 9 rfl rfl rfl hc
 ·intro E θ a w hD hi hp he hc
  have e5 := hp.o 5 rfl
  have e6 := hp.o 6 rfl
  have hf := (he.h0.mP he 8 rfl e5).mP he 9 rfl e6
  refine zP hf rfl (pMax2 rfl rfl) fun a hf => zD θ he hi hf 10 rfl rfl rfl hc
 ·intro E θ a w hD hi hp he hc
  have hf := he.h0.mT he 2 rfl
  refine sp 1 hf rfl fun a hf => zD θ he hi hf 11 rfl rfl rfl hc
 ·intro E θ a w hD hi hp he hc
  have e8 := hp.o 8 rfl
  have hf := he.h0.mP he 11 rfl e8
  refine sp 1 hf rfl fun a hf => zD θ he hi hf 12 rfl rfl rfl hc
 ·intro E θ a w hD hi hp he hc
  have e9 := hp.o 9 rfl
  have hf := he.h0.mP he 12 rfl e9
  refine zP hf rfl (pFA fa_71_1 rfl) fun a hf => zD θ he hi hf 13 rfl rfl rfl hc
 ·intro E θ a w hD hi hp he hc
  have e10 := hp.o 10 rfl
  have e16 := hD.f 2 rfl hi
  have e19 := hD.f 3 rfl hi
  try dsimp only at hc
  rw [e16,e19] at hc
  have hf := he.h0.mP he 13 rfl e10
  refine zE hf hc rfl (eLd1 sc_3 rfl (cell_row (sz := 2) (i := i_.toNat) (j := 1) m2 qr rfl)) fun a w hf hc => zD θ he hi hf 14 rfl rfl rfl ?_
  try dsimp only
  rw [updE_fls 11 e16 rfl,updE_fls 11 e19 rfl]
  exact hc
 ·intro E θ a w hD hi hp he hc
  have hf := he.h0.mT he 1 rfl
  refine sp 1 hf rfl fun a hf => zD θ he hi hf 15 rfl rfl rfl hc
 ·intro E θ a w hD hi hp he hc
  have e11 := hp.o 11 rfl
  have e12 := hp.o 12 rfl
  have hf := (he.h0.mP he 14 rfl e11).mP he 15 rfl e12
  refine zP hf rfl (pMin2 rfl rfl) fun a hf => zD θ he hi hf 16 rfl rfl rfl hc
 ·intro E θ a w hD hi hp he hc
  have e0 := hp.o 0 rfl
  have hf := he.h0.mP he 3 rfl e0
  refine sp 1 hf rfl fun a hf => zD θ he hi hf 17 rfl rfl rfl hc
 ·intro E θ a w hD hi hp he hc
  have e14 := hp.o 14 rfl
  have hf := he.h0.mP he 17 rfl e14
  refine zP hf rfl (pFA fa_71_0 rfl) fun a hf => zD θ he hi hf 18 rfl rfl rfl hc
 ·intro E θ a w hD hi hp he hc
  have e7 := hp.o 7 rfl
  have e15 := hp.o 15 rfl
  have e19 := hD.f 4 rfl hi
  try dsimp only at hc
  rw [hi,e19] at hc
  have hf := (he.h0.mP he 10 rfl e7).mP he 18 rfl e15
  refine stRw (sz := 2) (vs := [i6 (max e_1.Lo low)]) (o' := 0) (z := (⟨max e_1.Lo low,e_1.Hi⟩ : api_Span)) (xs := x_3) hf hc rfl rfl rfl rfl sz_3 rfl (fun x => (one_enc_api_Span x).1) (getI_lt he_1) (fun e' he' => by cases (he'.symm.trans (getI_spec he_1).2); rfl) rfl u2 fun w hc => zG θ he hi hf rfl ?_
  try dsimp only
  rw [updE_self E 16,updE_fls 16 e19 rfl]
  exact hc
 ·intro E θ a w hD hi hp he hc
  have e1 := hp.o 1 rfl
  have hf := he.h0.mP he 4 rfl e1
  refine sp 1 hf rfl fun a hf => zD θ he hi hf 19 rfl rfl rfl hc
 ·intro E θ a w hD hi hp he hc
  have e17 := hp.o 17 rfl
  have hf := he.h0.mP he 19 rfl e17
  refine zP hf rfl (pFA fa_71_1 rfl) fun a hf => zD θ he hi hf 20 rfl rfl rfl hc
 ·intro E θ a w hD hi hp he hc
  have e13 := hp.o 13 rfl
  have e18 := hp.o 18 rfl
  have e16 := hp.o 16 rfl
  try dsimp only at hc
  rw [e16,hi] at hc
  have hf := (he.h0.mP he 16 rfl e13).mP he 20 rfl e18
  refine stRw (sz := 2) (vs := [i6 (min e_1.Hi high)]) (o' := 1) (z := (⟨max e_1.Lo low,min e_1.Hi high⟩ : api_Span)) (xs := (x_3.set i_.toNat (⟨max e_1.Lo low,e_1.Hi⟩ : api_Span))) hf hc rfl rfl rfl rfl sz_3 rfl (fun x => (one_enc_api_Span x).1) (by simpa using getI_lt he_1) (fun e' he' => by rw [List.getElem?_set_self (by simpa using getI_lt he_1)] at he'; cases he'; rfl) rfl u2 fun w hc => ?_
  refine zG θ he hi hf rfl ?_
  try dsimp only
  rw [updE_tru 19 e16,updE_self E 19]
  exact hc
 ·intro E θ a w hall he hc
  have hf := he.h0
  have e16 := hall 16 rfl
  have e19 := hall 19 rfl
  try dsimp only at hc
  rw [e16,e19] at hc
  exact ⟨hf.keep trivial,hc⟩
 rintro a w ⟨hf,hc⟩
 obtain ⟨_,hl0,hF⟩ := same_len hF
 obtain rfl := sj hF
 exact fnOut0 (by simp) rfl Try.results85 hf ⟨(by first | rfl | simp only [List.length_set]),hl0,hc⟩

def daily_opened_2 (s_ : api_Span) : Bool :=
 (decide (s_.Lo ≤ s_.Hi))
theorem daily_opened_2_ok {G : Pers} {Lf : List Ent} {w : World} (s_ : api_Span)   (hc : Ctx G (Lf) w) {res : Bool} (hF : daily_opened_2 s_ = res) : Calls Try.prog 87 #[.agg #[i6 s_.Lo,i6 s_.Hi]] w (fun e w => e = .returned (.bool res) ∧ Ctx G (Lf) w) := by
 unfold daily_opened_2 at hF
 refine fnIn Try.func87 rfl Try.ntmps87 rfl fun a hf => zS fun K h => zB hf hc rfl fun b_1 a w hf hc => sp 1 hf rfl fun a hf => zT h ?_
 refine zS fun K h => zP hf rfl (pFA fa_71_0 rfl) fun a hf => zL hf hc sc_3 m0 rfl fun a w hf hc => zP hf rfl (pFA fa_71_1 rfl) fun a hf => zL hf hc sc_3 m0 rfl fun a w hf hc => sp 2 hf rfl fun a hf => zT h ?_
 refine wp_ret ?_
 obtain rfl := hF
 replace hc := hc.drop k0
 exact zO1 Try.results87 hf rfl ⟨rfl,hc⟩

def daily_every_api_Span_1 (x : api_Span) : Bool :=
 (!(daily_opened_2 (⟨x.Lo,x.Hi⟩ : api_Span)))
theorem daily_every_api_Span_1_ok {G : Pers} {Lf : List Ent} {w : World} (x : api_Span) {b_ : Nat}  (hc : Ctx G (.box b_ [.func (.func 87) #[] #[]] 113::Lf) w) {res : Bool} (hF : daily_every_api_Span_1 x = res) : Calls Try.prog 76 #[.agg #[i6 x.Lo,i6 x.Hi],pq b_] w (fun e w => e = .returned (.bool res) ∧ Ctx G (.box b_ [.func (.func 87) #[] #[]] 113::Lf) w) := by
 unfold daily_every_api_Span_1 at hF
 refine fnIn Try.func76 rfl Try.ntmps76 rfl fun a hf => zS fun K h => zB hf hc rfl fun b_1 a w hf hc => sp 1 hf rfl fun a hf => zT h ?_
 refine zS fun K h => zL hf hc sc_113 m1 rfl fun a w hf hc => zN hf hc ag_71 m0 rfl fun a w hf hc => zQ (v := .bool (daily_opened_2 (⟨x.Lo,x.Hi⟩ : api_Span))) hf hc en_87 rfl (fun w hc => daily_opened_2_ok (⟨x.Lo,x.Hi⟩ : api_Span) hc rfl) fun a w hf hc => sp 2 hf rfl fun a hf => zT h ?_
 refine wp_ret ?_
 obtain rfl := hF
 replace hc := hc.drop k0
 exact zO1 Try.results76 hf rfl ⟨rfl,hc⟩

def slices_IndexFunc_Lapi_Span_api_Span_b4 (N : Nat) (s_ : List api_Span) (x : Int) : Option (Step (Int) (Int)) :=
 cond (decide (x < ((s_.length : Nat) : Int)))
 (Option.bind (getI s_ x) fun e_1 =>
 cond (daily_every_api_Span_1 e_1)
 (some (.ret x))
 (some (.cont (W (x + 1)))))
 (some (.brk x))
def slices_IndexFunc_Lapi_Span_api_Span (N : Nat) (s_ : List api_Span) : Option (Int) :=
 Option.bind (loopO (fun s4 => slices_IndexFunc_Lapi_Span_api_Span_b4 N s_ s4) N 0) fun x4 =>
 exK x4 (fun s4 => some (-1)) some
theorem slices_IndexFunc_Lapi_Span_api_Span_ok {N : Nat} {G : Pers} {Lf : List Ent} {w : World} (s_ : List api_Span) {s__p : Option Addr} {s__c : Nat} {b_ : Nat} (h_s_ : Rd G 2 s__p s__c (s_.map enc_api_Span)) (hc : Ctx G (.box b_ [.func (.func 87) #[] #[]] 113::Lf) w) {res : Int} (hF : slices_IndexFunc_Lapi_Span_api_Span N s_ = some res) : Calls Try.prog 90 #[.slice s__p s_.length s__c,.func (.func 76) #[] #[pq b_]] w (fun e w => e = .returned (i6 res) ∧ Ctx G (.box b_ [.func (.func 87) #[] #[]] 113::Lf) w) := by
 unfold slices_IndexFunc_Lapi_Span_api_Span at hF
 refine fnIn Try.func90 rfl Try.ntmps90 rfl fun a hf => zS fun K h => sp 1 hf rfl fun a hf => zT h ?_
 refine wp_seq_k fun K2 h2 => zS fun K h => sp 1 hf rfl fun a hf => zP hf rfl (pLenS Try.underlying63 rfl) fun a hf => sp 1 hf rfl fun a hf => zT h ?_
 refine wp_block ?_
 obtain ⟨x4,hx4,hF⟩ := bnd_some hF
 let S4 : Int → Act → World → Prop := (fun (zz : Int) a w => Has 19 a [(0,.slice s__p s_.length s__c),(1,.func (.func 76) #[] #[pq b_]),(7,i6 ((s_.length : Nat) : Int)),(8,i6 zz)] ∧ Ctx G (.box b_ [.func (.func 87) #[] #[]] 113::Lf) w)
 have hr4 : ∀ (zz : Int) a w,x4 = .go zz → S4 zz a w → K2 a w := by
  rintro x a w rfl ⟨hf,hc⟩
  replace hF := exK_go hF
  refine h2 _ _ ?_
  refine zS fun K h => sp 1 hf rfl fun a hf => zT h ?_
  refine wp_ret ?_
  obtain rfl := sj hF
  exact zO1 Try.results90 hf rfl ⟨rfl,hc⟩
 have ho4 : ∀ r,x4 = .out r → r = res := by
  rintro r rfl
  exact sj hF
 refine cLoop N (loopW (S := S4) (x := x4) ?_ N 0 _ _ ⟨hf.kp rfl,hc⟩ hx4)
 clear hF hf hc
 rintro x st4 a w KB4 ⟨hf,hc⟩ hF hfin4 hK4
 unfold slices_IndexFunc_Lapi_Span_api_Span_b4 at hF
 refine zS fun K h => sp 1 hf rfl fun a hf => zT h ?_
 refine wp_seq_k fun K7 h7 => zI hf rfl hF ?_ ?_ <;> clear hF <;> intro hF
 ·refine wp_skip ?_
  refine h7 _ _ ?_
  refine wp_seq_k fun K8 h8 => wp_block ?_
  refine zS fun K h => sp 2 hf rfl fun a hf => zT h ?_
  refine zS fun K h => sp 3 hf rfl fun a hf => ?_
  obtain ⟨e_1,he_1,hF⟩ := bnd_some hF
  obtain ⟨b_1,o,qa,qp⟩ := h_s_.atm he_1
  refine zP hf rfl (pIA Try.underlying63 sz_71 rfl rfl qa) fun a hf => zE hf hc rfl (eLdN (vs := [i6 e_1.Lo,i6 e_1.Hi]) ag_71 rfl rfl (cells_pc qp (n := 2) (o' := 0) rfl)) fun a w hf hc => zQ (v := .bool (daily_every_api_Span_1 e_1)) hf hc en_76 rfl (fun w hc => (daily_every_api_Span_1_ok e_1 (hc.pick k0) rfl).mono fun e w h => ⟨h.1,(h.2.unpick k0)⟩) fun a w hf hc => zT h ?_
  refine zI hf rfl hF ?_ ?_ <;> clear hF <;> intro hF
  ·refine zS fun K h => sp 2 hf rfl fun a hf => zT h ?_
   refine wp_ret ?_
   refine xBlkR ?_
   refine xThenR ?_
   refine xThenR ?_
   have he := sj hF
   rw [← he] at hfin4
   replace hF := ho4 _ hfin4
   refine xBlkR ?_
   refine xThenR ?_
   obtain rfl := hF
   exact zO1 Try.results90 hf rfl ⟨rfl,hc⟩
  ·refine wp_skip ?_
   refine h8 _ _ ?_
   refine cReg ?_
   refine sp 2 hf rfl fun a hf => cNil ?_
   exact hK4 (W (x + 1)) _ _ (sj hF).symm ⟨hf.kp rfl,hc⟩
 ·refine wp_exit ?_
  refine xThen ?_
  refine xThen ?_
  have he := sj hF
  rw [← he] at hfin4
  refine cHit ?_
  exact hr4 _ _ _ hfin4 ⟨hf.kp rfl,hc⟩

def slices_ContainsFunc_Lapi_Span_api_Span (N : Nat) (s_ : List api_Span) : Option (Bool) :=
 Option.bind (slices_IndexFunc_Lapi_Span_api_Span N s_) fun r =>
 some (decide (0 ≤ r))
theorem slices_ContainsFunc_Lapi_Span_api_Span_ok {N : Nat} {G : Pers} {Lf : List Ent} {w : World} (s_ : List api_Span) {s__p : Option Addr} {s__c : Nat} {b_ : Nat} (h_s_ : Rd G 2 s__p s__c (s_.map enc_api_Span)) (hc : Ctx G (.box b_ [.func (.func 87) #[] #[]] 113::Lf) w) {res : Bool} (hF : slices_ContainsFunc_Lapi_Span_api_Span N s_ = some res) : Calls Try.prog 75 #[.slice s__p s_.length s__c,.func (.func 76) #[] #[pq b_]] w (fun e w => e = .returned (.bool res) ∧ Ctx G (.box b_ [.func (.func 87) #[] #[]] 113::Lf) w) := by
 unfold slices_ContainsFunc_Lapi_Span_api_Span at hF
 refine fnIn Try.func75 rfl Try.ntmps75 rfl fun a hf => zS fun K h => sp 1 hf rfl fun a hf => zT h ?_
 refine zS fun K h => sp 2 hf rfl fun a hf => ?_
 obtain ⟨r,hr,hF⟩ := bnd_some hF
 refine zQ (v := i6 r) hf hc en_90 rfl (fun w hc => (slices_IndexFunc_Lapi_Span_api_Span_ok s_ h_s_ (hc.pick k0) hr).mono fun e w h => ⟨h.1,(h.2.unpick k0)⟩) fun a w hf hc => sp 2 hf rfl fun a hf => zT h ?_
 refine wp_ret ?_
 obtain rfl := sj hF
 exact zO1 Try.results75 hf rfl ⟨rfl,hc⟩

def daily_every_api_Span (N : Nat) (l : List api_Span) : Option (Bool) :=
 Option.bind (slices_ContainsFunc_Lapi_Span_api_Span N l) fun r =>
 some (!r)
theorem daily_every_api_Span_ok {N : Nat} {G : Pers} {Lf : List Ent} {w : World} (l : List api_Span) {l_p : Option Addr} {l_c : Nat} (h_l : Rd G 2 l_p l_c (l.map enc_api_Span)) (hc : Ctx G (Lf) w) {res : Bool} (hF : daily_every_api_Span N l = some res) : Calls Try.prog 52 #[.slice l_p l.length l_c,.func (.func 87) #[] #[]] w (fun e w => e = .returned (.bool res) ∧ Ctx G (Lf) w) := by
 unfold daily_every_api_Span at hF
 refine fnIn Try.func52 rfl Try.ntmps52 rfl fun a hf => zS fun K h => zB hf hc rfl fun b_1 a w hf hc => sp 1 hf rfl fun a hf => zT h ?_
 refine zS fun K h => sp 1 hf rfl fun a hf => zP hf rfl (pMF (us := [pq b_1]) rfl rfl) fun a hf => ?_
 obtain ⟨r,hr,hF⟩ := bnd_some hF
 refine zQ (v := .bool r) hf hc en_75 rfl (fun w hc => (slices_ContainsFunc_Lapi_Span_api_Span_ok l h_l (hc.pick k0) hr).mono fun e w h => ⟨h.1,(h.2.unpick k0)⟩) fun a w hf hc => sp 2 hf rfl fun a hf => zT h ?_
 refine wp_ret ?_
 obtain rfl := sj hF
 replace hc := hc.drop k0
 exact zO1 Try.results52 hf rfl ⟨rfl,hc⟩

def daily_opened_r13 (N : Nat) (r : daily_Record) (x_1 : List api_Span) (x_2 : List api_Span) (xv : Int) (xv_1 : Int) : Option (Rs ((List api_Span))) :=
 Option.bind (getI x_2 xv) fun e_1 =>
 Option.bind (getI x_2 xv) fun e_2 =>
 Option.bind (daily_opened_1 N xv_1 (W (e_1.Lo - r.Fall)) (W (e_2.Hi + r.Rise)) r.Rise r.Fall r.Days x_2) fun r_2 =>
 Option.bind (sameL r_2 x_1) fun _ =>
 some (.go r_2)
def daily_opened_r18 (N : Nat) (r : daily_Record) (x_2 : List api_Span) (x_3 : List api_Span) (xv_2 : Int) (xv_3 : Int) : Option (Rs ((List api_Span))) :=
 Option.bind (getI x_3 xv_2) fun e_3 =>
 Option.bind (getI x_3 xv_2) fun e_4 =>
 Option.bind (daily_opened_1 N xv_3 (W (e_3.Lo - r.Rise)) (W (e_4.Hi + r.Fall)) r.Rise r.Fall r.Days x_3) fun r_4 =>
 Option.bind (sameL r_4 x_2) fun _ =>
 some (.go r_4)
def daily_opened_b9 (N : Nat) (r : daily_Record) (x : Int) (x_1 : List api_Span) : Option (Step (Int × (List api_Span)) ((Bool × Int) ⊕ (Int × Int × (List api_Span) × Bool × Int))) :=
 cond (decide (x < ((r.Days.length : Nat) : Int)))
 (Option.bind (getI r.Days x) fun e_5 =>
 Option.bind (daily_Value_span N e_5) fun r_6 =>
 Option.bind (room ((x_1 ++ [r_6])).length) fun un =>
 some (.cont (W (x + 1),(x_1 ++ [r_6]))))
 (some (.brk (x,x_1)))
def daily_opened (N : Nat) (r : daily_Record) : Option ((Bool × Int) ⊕ (Int × Int × (List api_Span) × Bool × Int)) :=
 Option.bind (daily_Check N r) fun r_0 =>
 cond (r_0 != 0)
 (some (.inl (false,r_0)))
 (Option.bind (loopO (fun s9 => daily_opened_b9 N r s9.1 s9.2) N (0,([] : List api_Span))) fun x9 =>
 exK x9 (fun s9 => Option.bind (daily_work_pairs N (⟨r,s9.2⟩ : daily_work) false) fun r_1 =>
 Option.bind (daily_work_pairs_1 N r.Rise r.Fall r.Days r_1 (rY (fun (zz : (List api_Span)) (ix_ : (Int × Int)) => daily_opened_r13 N r s9.2 zz ix_.1 ix_.2)) (.go s9.2)) fun x13 =>
 rsK x13 (fun zz13 => Option.bind (daily_work_pairs N (⟨r,zz13⟩ : daily_work) true) fun r_3 =>
 Option.bind (daily_work_pairs_1 N r.Rise r.Fall r.Days r_3 (rY (fun (zz : (List api_Span)) (ix_ : (Int × Int)) => daily_opened_r18 N r zz13 zz ix_.1 ix_.2)) (.go zz13)) fun x18 =>
 rsK x18 (fun zz18 => Option.bind (daily_every_api_Span N zz18) fun r_5 =>
 some (.inr (r.Rise,r.Fall,zz18,r_5,0))) (fun zz18 => none)) (fun zz13 => none)) some)
theorem daily_opened_ok {N : Nat} {G : Pers} {Lf : List Ent} {w : World} (r : daily_Record) {r_Days_p : Option Addr} {r_Days_c : Nat} (h_r_Days : Rd G 3 r_Days_p r_Days_c (r.Days.map enc_daily_Value)) (hc : Ctx G (Lf) w) {res : (Bool × Int) ⊕ (Int × Int × (List api_Span) × Bool × Int)} (hF : daily_opened N r = some res) : Calls Try.prog 69 #[.agg #[i6 r.Rise,i6 r.Fall,.slice r_Days_p r.Days.length r_Days_c]] w (fun e w => sumK (fun rr => e = .returned (.tuple #[.pointer none,.bool rr.1,i6 rr.2]) ∧ Ctx G (Lf) w) (fun rr => ∃ (b'1 : Nat) (p'1 : Option Addr) (c'1 : Nat),e = .returned (.tuple #[pq b'1,.bool rr.2.2.2.1,i6 rr.2.2.2.2]) ∧ Ctx G (.row p'1 c'1 (rr.2.2.1.map enc_api_Span) 71 2::.box b'1 [i6 rr.1,i6 rr.2.1,.slice r_Days_p r.Days.length r_Days_c,.slice p'1 rr.2.2.1.length c'1] 98::Lf) w) res) := by
 unfold daily_opened at hF
 refine fnInM Try.func69 rfl Try.ntmps69 rfl fun a hf => zS fun K h => zB hf hc rfl fun b_1 a w hf hc => sp 3 hf rfl fun a hf => zT h ?_
 refine wp_seq_k fun K2 h2 => zS fun K h => zN hf hc ag_68 m0 rfl fun a w hf hc => ?_
 obtain ⟨r_0,hr_0,hF⟩ := bnd_some hF
 refine zQ (v := i6 r_0) hf hc en_46 rfl (fun w hc => daily_Check_ok r h_r_Days hc hr_0) fun a w hf hc => sp 1 hf rfl fun a hf => zT h ?_
 refine zS fun K h => sp 2 hf rfl fun a hf => zT h ?_
 refine zI hf rfl hF ?_ ?_ <;> clear hF <;> intro hF
 ·refine zS fun K h => sp 4 hf rfl fun a hf => zT h ?_
  refine wp_ret ?_
  refine xThenR ?_
  obtain rfl := sj hF
  replace hc := hc.drop k0
  refine outM hf ?_
  exact outM3 Try.results69 hf hc (show look _ 2 = _ from rfl) (show look _ 3 = _ from rfl) (show look _ 4 = _ from rfl) ⟨rfl,hc⟩
 ·refine wp_skip ?_
  refine h2 _ _ ?_
  refine zS fun K h => zN hf hc ag_68 m0 rfl fun a w hf hc => zP hf rfl (pBuildS (cells := [i6 r.Rise,i6 r.Fall,.slice r_Days_p r.Days.length r_Days_c,.slice none 0 0]) bt_98 rfl rfl) fun a hf => zB hf hc rfl fun b_2 a w hf hc => zA hf hc zr_94 rfl fun b_3 a w hf hc => zW hf hc sz_94 u0 rfl fun w hc => zT h ?_
  refine wp_seq_k fun K7 h7 => zS fun K h => zP hf rfl (pFA fa_68_2 rfl) fun a hf => zL hf hc sc_66 m2 rfl fun a w hf hc => zP hf rfl (pLenS Try.underlying66 rfl) fun a hf => sp 1 hf rfl fun a hf => zT h ?_
  refine wp_block ?_
  obtain ⟨x9,hx9,hF⟩ := bnd_some hF
  let S9 : (Int × (List api_Span)) → Act → World → Prop := (fun (zz : Int × (List api_Span)) a w => ∃ (p_1 : Option Addr) (c_1 : Nat),Has 118 a [(6,pq b_3),(23,.slice r_Days_p r.Days.length r_Days_c),(24,i6 ((r.Days.length : Nat) : Int)),(25,i6 zz.1)] ∧ Ctx G (.row p_1 c_1 (zz.2.map enc_api_Span) 71 2::.box b_3 [pq b_2] 94::.box b_2 [i6 r.Rise,i6 r.Fall,.slice r_Days_p r.Days.length r_Days_c,.slice p_1 zz.2.length c_1] 98::Lf) w)
  have hr9 : ∀ (zz : Int × (List api_Span)) a w,x9 = .go zz → S9 zz a w → K7 a w := by
   rintro ⟨x,x_1⟩ a w rfl ⟨p_1,c_1,hf,hc⟩
   replace hF := exK_go hF
   refine h7 _ _ ?_
   refine zS fun K h => zP hf rfl (pMF (us := [pq b_3]) rfl rfl) fun a hf => zA hf hc zr_143 rfl fun b_4 a w hf hc => zW hf hc sz_143 u0 rfl fun w hc => zT h ?_
   refine wp_seq_k fun K11 h11 => zS fun K h => zL hf hc sc_94 m2 rfl fun a w hf hc => ?_
   obtain ⟨r_1,hr_1,hF⟩ := bnd_some hF
   obtain ⟨G1,hle1,hrd1,hc,hth1⟩ := lend hc k1
   refine zC hf en_86 rfl (daily_work_pairs_ok (⟨r,x_1⟩ : daily_work) false (h_r_Days.mono hle1) hrd1 (hc.pick k2) hr_1) ?_
   rintro _ w ⟨b_5,b_6,rfl,hc⟩
   refine ⟨_,rfl,fun a hf => ?_⟩
   replace hc := hth1 _ _ hc
   refine zT h ?_
   obtain ⟨x13,hx13,hF⟩ := bnd_some hF
   replace hc := (((hc.pick k0).pick k3).pick k3).pick k3
   refine cRangeC (C := [.box b_5 [pq b_2] 94,.box b_6 [.bool r_1] 4]) (C2 := [.box b_5 [pq b_2] 94,.box b_6 [.bool r_1] 4]) (L0 := [.box b_2 [i6 r.Rise,i6 r.Fall,.slice r_Days_p r.Days.length r_Days_c,.slice p_1 x_1.length c_1] 98,.row p_1 c_1 (x_1.map enc_api_Span) 71 2,.box b_4 [.func (.func 85) #[] #[pq b_3]] 143,.box b_3 [pq b_2] 94]) (Lf := Lf) (encs := fun x : (Int × Int) => [i6 x.1,i6 x.2]) (fun (zz : (List api_Span)) L => zz.length = x_1.length ∧ L = [.box b_2 [i6 r.Rise,i6 r.Fall,.slice r_Days_p r.Days.length r_Days_c,.slice p_1 zz.length c_1] 98,.row p_1 c_1 (zz.map enc_api_Span) 71 2,.box b_4 [.func (.func 85) #[] #[pq b_3]] 143,.box b_3 [pq b_2] 94]) (fun (zz : (List api_Span)) (ix_ : (Int × Int)) => daily_opened_r13 N r x_1 zz ix_.1 ix_.2) x_1 x13 hf hc rfl en_93 (fun _ => rfl) rfl ⟨rfl,rfl⟩ ?_ ?_ ?_ ?_
   ·intro lq mq J L Lx w hy hQ hJ hc
    have hje_ : ∀ (zz : (List api_Span)) (M : List Ent),(fun (zz : (List api_Span)) L => zz.length = x_1.length ∧ L = [.box b_2 [i6 r.Rise,i6 r.Fall,.slice r_Days_p r.Days.length r_Days_c,.slice p_1 zz.length c_1] 98,.row p_1 c_1 (zz.map enc_api_Span) 71 2,.box b_4 [.func (.func 85) #[] #[pq b_3]] 143,.box b_3 [pq b_2] 94]) zz M → ∃ A B,M = A ++ (.box b_2 [i6 r.Rise,i6 r.Fall,.slice r_Days_p r.Days.length r_Days_c,.slice p_1 x_1.length c_1] 98::B) := by
     rintro x_2 _ ⟨hl,rfl⟩
     try rw [show _ = _ from hl]
     exact ⟨[],_,rfl⟩
    exact daily_work_pairs_1_ok r.Rise r.Fall r.Days r_1 h_r_Days J _ hy _ hJ (hQ _ hje_) hc hx13
   ·clear hF hf hc
    rintro lq mq x_2 ⟨xv,xv_1⟩ oq _ Lr Lb a w hK0 ⟨hl,rfl⟩ hF hf hc hK
    replace hf : Has 118 a [(6,pq b_3),(9,pq b_4),(44,i6 xv),(45,i6 xv_1)] := hf.kp rfl
    replace hc : Ctx G (.box b_2 [i6 r.Rise,i6 r.Fall,.slice r_Days_p r.Days.length r_Days_c,.slice p_1 x_2.length c_1] 98::.row p_1 c_1 (x_2.map enc_api_Span) 71 2::.box b_4 [.func (.func 85) #[] #[pq b_3]] 143::.box b_3 [pq b_2] 94::Lr) w := hc
    replace hF : daily_opened_r13 N r x_1 x_2 xv xv_1 = some oq := hF
    unfold daily_opened_r13 at hF
    refine rSeq fun K14 h14 => rReg (fun _ _ h => h) rfl ?_
    refine sp 1 hf rfl fun a hf => cNil ?_
    refine h14 _ _ ?_
    refine rReg (fun _ _ h => h) rfl ?_
    refine sp 1 hf rfl fun a hf => cNil ?_
    refine hK _ _ [.box b_2 [i6 r.Rise,i6 r.Fall,.slice r_Days_p r.Days.length r_Days_c,.slice p_1 x_2.length c_1] 98,.row p_1 c_1 (x_2.map enc_api_Span) 71 2,.box b_4 [.func (.func 85) #[] #[pq b_3]] 143,.box b_3 [pq b_2] 94] hc fun w hc => ?_
    replace hc : Ctx G (.box b_2 [i6 r.Rise,i6 r.Fall,.slice r_Days_p r.Days.length r_Days_c,.slice p_1 x_2.length c_1] 98::.row p_1 c_1 (x_2.map enc_api_Span) 71 2::.box b_4 [.func (.func 85) #[] #[pq b_3]] 143::.box b_3 [pq b_2] 94::Lb) w := hc
    refine rThenK fun K15 h15 => rBlock ?_
    obtain ⟨e_1,he_1,hF⟩ := bnd_some hF
    obtain ⟨g,rfl,qa,qr⟩ := row_atm hc m1 he_1
    obtain ⟨e_2,he_2,hF⟩ := bnd_some hF
    obtain ⟨qa_1,qr_1⟩ := row_atk hc m1 he_2
    obtain ⟨r_2,hr_2,hF⟩ := bnd_some hF
    refine rRegE (fun _ _ h => h) rfl (fun θ => (⟨none,none,6,pq b_3⟩::⟨none,none,9,pq b_4⟩::⟨none,none,10,i6 xv⟩::⟨none,none,11,i6 xv_1⟩::⟨some 0,none,46,.func (.func 85) #[] #[pq b_3]⟩::⟨some 1,none,47,i6 xv_1⟩::⟨some 2,none,48,pq b_2⟩::⟨some 3,none,49,pq b_2⟩::⟨some 4,none,50,.pointer (some ⟨b_2,3,none⟩)⟩::⟨some 5,none,51,.slice (some ⟨g,0,none⟩) x_2.length c_1⟩::⟨some 6,none,52,i6 xv⟩::⟨some 7,none,53,.pointer (some ⟨g,xv.toNat * 2,none⟩)⟩::⟨some 8,none,54,.pointer (some ⟨g,xv.toNat * 2 + 0,none⟩)⟩::⟨some 9,none,55,i6 e_1.Lo⟩::⟨some 10,none,56,pq b_2⟩::⟨some 11,none,57,pq b_2⟩::⟨some 12,none,58,pq b_2⟩::⟨some 13,none,59,.pointer (some ⟨b_2,1,none⟩)⟩::⟨some 14,none,60,i6 r.Fall⟩::⟨some 15,none,61,i6 (W (e_1.Lo - r.Fall))⟩::⟨some 16,none,62,pq b_2⟩::⟨some 17,none,63,pq b_2⟩::⟨some 18,none,64,.pointer (some ⟨b_2,3,none⟩)⟩::⟨some 19,none,65,.slice (some ⟨g,0,none⟩) x_2.length c_1⟩::⟨some 20,none,66,i6 xv⟩::⟨some 21,none,67,.pointer (some ⟨g,xv.toNat * 2,none⟩)⟩::⟨some 22,none,68,.pointer (some ⟨g,xv.toNat * 2 + 1,none⟩)⟩::⟨some 23,none,69,i6 e_2.Hi⟩::⟨some 24,none,70,pq b_2⟩::⟨some 25,none,71,pq b_2⟩::⟨some 26,none,72,pq b_2⟩::⟨some 27,none,73,pq b_2⟩::⟨some 28,none,74,i6 r.Rise⟩::⟨some 29,none,75,i6 (W (e_2.Hi + r.Rise))⟩::⟨some 30,none,76,.tuple #[]⟩::[])) (fun E θ => (bif E 30 then .box b_2 [i6 r.Rise,i6 r.Fall,.slice r_Days_p r.Days.length r_Days_c,.slice (some ⟨g,0,none⟩) r_2.length c_1] 98 else .box b_2 [i6 r.Rise,i6 r.Fall,.slice r_Days_p r.Days.length r_Days_c,.slice (some ⟨g,0,none⟩) x_2.length c_1] 98)::(bif E 30 then .row (some ⟨g,0,none⟩) c_1 (r_2.map enc_api_Span) 71 2 else .row (some ⟨g,0,none⟩) c_1 (x_2.map enc_api_Span) 71 2)::.box b_4 [.func (.func 85) #[] #[pq b_3]] 143::.box b_3 [pq b_2] 94::Lb) [(7,5),(8,7),(9,8),(15,9),(30,15),(15,14),(21,19),(22,21),(23,22),(29,23),(30,29),(29,28)] (fun a w => Has 118 a [(6,pq b_3),(9,pq b_4)] ∧ Ctx G (.box b_2 [i6 r.Rise,i6 r.Fall,.slice r_Days_p r.Days.length r_Days_c,.slice (some ⟨g,0,none⟩) r_2.length c_1] 98::.row (some ⟨g,0,none⟩) c_1 (r_2.map enc_api_Span) 71 2::.box b_4 [.func (.func 85) #[] #[pq b_3]] 143::.box b_3 [pq b_2] 94::Lb) w) follows_mx (by kernel_rfl) (by kernel_rfl) (HasE.of hf ⟨rfl,rfl,rfl,rfl,trivial,trivial,trivial,trivial,trivial,trivial,trivial,trivial,trivial,trivial,trivial,trivial,trivial,trivial,trivial,trivial,trivial,trivial,trivial,trivial,trivial,trivial,trivial,trivial,trivial,trivial,trivial,trivial,trivial,trivial,trivial,trivial⟩) hc ⟨?_,?_,?_,?_,?_,?_,?_,?_,?_,?_,?_,?_,?_,?_,?_,?_,?_,?_,?_,?_,?_,?_,?_,?_,?_,?_,?_,?_,?_,?_,?_,trivial⟩ ?_ ?_
    ·intro E θ a w hD hi hp he hc
     have hf := he.h0.mT he 1 rfl
     refine zL hf hc sc_143 m2 rfl fun a w hf hc => zD θ he hi hf 4 rfl rfl rfl hc
    ·intro E θ a w hD hi hp he hc
     have hf := he.h0.mT he 3 rfl
     refine sp 1 hf rfl fun a hf => zD θ he hi hf 5 rfl rfl rfl hc
    ·intro E θ a w hD hi hp he hc
     have hf := he.h0.mT he 0 rfl
     refine zL hf hc sc_94 m3 rfl fun a w hf hc => zD θ he hi hf 6 rfl rfl rfl hc
    ·intro E θ a w hD hi hp he hc
     have e2 := hp.o 2 rfl
     have hf := he.h0.mP he 6 rfl e2
     refine sp 1 hf rfl fun a hf => zD θ he hi hf 7 rfl rfl rfl hc
    ·intro E θ a w hD hi hp he hc
     have e3 := hp.o 3 rfl
     have hf := he.h0.mP he 7 rfl e3
     refine zP hf rfl (pFA fa_98_1 rfl) fun a hf => zD θ he hi hf 8 rfl rfl rfl hc
    ·intro E θ a w hD hi hp he hc
     have e4 := hp.o 4 rfl
     have e7 := hD.f 0 rfl hi
     have e8 := hD.f 1 rfl e7
     have e9 := hD.f 2 rfl e8
     have e15 := hD.f 3 rfl e9
     have e30 := hD.f 4 rfl e15
     try dsimp only at hc
     rw [e30] at hc
     have hf := he.h0.mP he 8 rfl e4
     refine zL hf hc sc_63 m0 rfl fun a w hf hc => zD θ he hi hf 9 rfl rfl rfl ?_
     try dsimp only
     rw [updE_fls 5 e30 rfl]
     exact hc
    ·intro E θ a w hD hi hp he hc
     have hf := he.h0.mT he 2 rfl
     refine sp 1 hf rfl fun a hf => zD θ he hi hf 10 rfl rfl rfl hc
    ·intro E θ a w hD hi hp he hc
     have e5 := hp.o 5 rfl
     have e6 := hp.o 6 rfl
     have e8 := hD.f 1 rfl hi
     have e9 := hD.f 2 rfl e8
     have e15 := hD.f 3 rfl e9
     have e30 := hD.f 4 rfl e15
     try dsimp only at hc
     rw [e30] at hc
     have hf := (he.h0.mP he 9 rfl e5).mP he 10 rfl e6
     refine zP hf rfl (pIA Try.underlying63 sz_71 rfl rfl qa) fun a hf => zD θ he hi hf 11 rfl rfl rfl ?_
     try dsimp only
     rw [updE_fls 7 e30 rfl]
     exact hc
    ·intro E θ a w hD hi hp he hc
     have e7 := hp.o 7 rfl
     have hf := he.h0.mP he 11 rfl e7
     refine zP hf rfl (pFA fa_71_0 rfl) fun a hf => zD θ he hi hf 12 rfl rfl rfl hc
    ·intro E θ a w hD hi hp he hc
     have e8 := hp.o 8 rfl
     have e15 := hD.f 3 rfl hi
     have e30 := hD.f 4 rfl e15
     try dsimp only at hc
     rw [e30] at hc
     have hf := he.h0.mP he 12 rfl e8
     refine zE hf hc rfl (eLd1 sc_3 rfl (cell_row (sz := 2) (i := xv.toNat) (j := 0) m1 qr rfl)) fun a w hf hc => zD θ he hi hf 13 rfl rfl rfl ?_
     try dsimp only
     rw [updE_fls 9 e30 rfl]
     exact hc
    ·intro E θ a w hD hi hp he hc
     have hf := he.h0.mT he 0 rfl
     refine zL hf hc sc_94 m3 rfl fun a w hf hc => zD θ he hi hf 14 rfl rfl rfl hc
    ·intro E θ a w hD hi hp he hc
     have e10 := hp.o 10 rfl
     have hf := he.h0.mP he 14 rfl e10
     refine sp 1 hf rfl fun a hf => zD θ he hi hf 15 rfl rfl rfl hc
    ·intro E θ a w hD hi hp he hc
     have e11 := hp.o 11 rfl
     have hf := he.h0.mP he 15 rfl e11
     refine zP hf rfl (pFA fa_98_0 rfl) fun a hf => zD θ he hi hf 16 rfl rfl rfl hc
    ·intro E θ a w hD hi hp he hc
     have e12 := hp.o 12 rfl
     have hf := he.h0.mP he 16 rfl e12
     refine zP hf rfl (pFA fa_68_1 rfl) fun a hf => zD θ he hi hf 17 rfl rfl rfl hc
    ·intro E θ a w hD hi hp he hc
     have e13 := hp.o 13 rfl
     have e15 := hD.f 5 rfl hi
     have e30 := hD.f 4 rfl e15
     try dsimp only at hc
     rw [e30] at hc
     have hf := he.h0.mP he 17 rfl e13
     refine zL hf hc sc_3 m0 rfl fun a w hf hc => zD θ he hi hf 18 rfl rfl rfl ?_
     try dsimp only
     rw [updE_fls 14 e30 rfl]
     exact hc
    ·intro E θ a w hD hi hp he hc
     have e9 := hp.o 9 rfl
     have e14 := hp.o 14 rfl
     have hf := (he.h0.mP he 13 rfl e9).mP he 18 rfl e14
     refine sp 1 hf rfl fun a hf => zD θ he hi hf 19 rfl rfl rfl hc
    ·intro E θ a w hD hi hp he hc
     have hf := he.h0.mT he 0 rfl
     refine zL hf hc sc_94 m3 rfl fun a w hf hc => zD θ he hi hf 20 rfl rfl rfl hc
    ·intro E θ a w hD hi hp he hc
     have e16 := hp.o 16 rfl
     have hf := he.h0.mP he 20 rfl e16
     refine sp 1 hf rfl fun a hf => zD θ he hi hf 21 rfl rfl rfl hc
    ·intro E θ a w hD hi hp he hc
     have e17 := hp.o 17 rfl
     have hf := he.h0.mP he 21 rfl e17
     refine zP hf rfl (pFA fa_98_1 rfl) fun a hf => zD θ he hi hf 22 rfl rfl rfl hc
    ·intro E θ a w hD hi hp he hc
     have e18 := hp.o 18 rfl
     have e21 := hD.f 6 rfl hi
     have e22 := hD.f 7 rfl e21
     have e23 := hD.f 8 rfl e22
     have e29 := hD.f 9 rfl e23
     have e30 := hD.f 10 rfl e29
     try dsimp only at hc
     rw [e30] at hc
     have hf := he.h0.mP he 22 rfl e18
     refine zL hf hc sc_63 m0 rfl fun a w hf hc => zD θ he hi hf 23 rfl rfl rfl ?_
     try dsimp only
     rw [updE_fls 19 e30 rfl]
     exact hc
    ·intro E θ a w hD hi hp he hc
     have hf := he.h0.mT he 2 rfl
     refine sp 1 hf rfl fun a hf => zD θ he hi hf 24 rfl rfl rfl hc
    ·intro E θ a w hD hi hp he hc
     have e19 := hp.o 19 rfl
     have e20 := hp.o 20 rfl
     have e22 := hD.f 7 rfl hi
     have e23 := hD.f 8 rfl e22
     have e29 := hD.f 9 rfl e23
     have e30 := hD.f 10 rfl e29
     try dsimp only at hc
     rw [e30] at hc
     have hf := (he.h0.mP he 23 rfl e19).mP he 24 rfl e20
     refine zP hf rfl (pIA Try.underlying63 sz_71 rfl rfl qa_1) fun a hf => zD θ he hi hf 25 rfl rfl rfl ?_
     try dsimp only
     rw [updE_fls 21 e30 rfl]
     exact hc
    ·intro E θ a w hD hi hp he hc
     have e21 := hp.o 21 rfl
     have hf := he.h0.mP he 25 rfl e21
     refine zP hf rfl (pFA fa_71_1 rfl) fun a hf => zD θ he hi hf 26 rfl rfl rfl hc
    ·intro E θ a w hD hi hp he hc
     have e22 := hp.o 22 rfl
     have e29 := hD.f 9 rfl hi
     have e30 := hD.f 10 rfl e29
     try dsimp only at hc
     rw [e30] at hc
     have hf := he.h0.mP he 26 rfl e22
     refine zE hf hc rfl (eLd1 sc_3 rfl (cell_row (sz := 2) (i := xv.toNat) (j := 1) m1 qr_1 rfl)) fun a w hf hc => zD θ he hi hf 27 rfl rfl rfl ?_
     try dsimp only
     rw [updE_fls 23 e30 rfl]
     exact hc
    ·intro E θ a w hD hi hp he hc
     have hf := he.h0.mT he 0 rfl
     refine zL hf hc sc_94 m3 rfl fun a w hf hc => zD θ he hi hf 28 rfl rfl rfl hc
    ·intro E θ a w hD hi hp he hc
     have e24 := hp.o 24 rfl
     have hf := he.h0.mP he 28 rfl e24
     refine sp 1 hf rfl fun a hf => zD θ he hi hf 29 rfl rfl rfl hc
    ·intro E θ a w hD hi hp he hc
     have e25 := hp.o 25 rfl
     have hf := he.h0.mP he 29 rfl e25
     refine zP hf rfl (pFA fa_98_0 rfl) fun a hf => zD θ he hi hf 30 rfl rfl rfl hc
    ·intro E θ a w hD hi hp he hc
     have e26 := hp.o 26 rfl
     have hf := he.h0.mP he 30 rfl e26
     refine zP hf rfl (pFA fa_68_0 rfl) fun a hf => zD θ he hi hf 31 rfl rfl rfl hc
    ·intro E θ a w hD hi hp he hc
     have e27 := hp.o 27 rfl
     have e29 := hD.f 11 rfl hi
     have e30 := hD.f 10 rfl e29
     try dsimp only at hc
     rw [e30] at hc
     have hf := he.h0.mP he 31 rfl e27
     refine zL hf hc sc_3 m0 rfl fun a w hf hc => zD θ he hi hf 32 rfl rfl rfl ?_
     try dsimp only
     rw [updE_fls 28 e30 rfl]
     exact hc
    ·intro E θ a w hD hi hp he hc
     have e23 := hp.o 23 rfl
     have e28 := hp.o 28 rfl
     have hf := (he.h0.mP he 27 rfl e23).mP he 32 rfl e28
     refine sp 1 hf rfl fun a hf => zD θ he hi hf 33 rfl rfl rfl hc
    ·intro E θ a w hD hi hp he hc
     have e0 := hp.o 0 rfl
     have e1 := hp.o 1 rfl
     have e15 := hp.o 15 rfl
     have e29 := hp.o 29 rfl
     try dsimp only at hc
     rw [hi] at hc
     have hf := (((he.h0.mP he 4 rfl e0).mP he 5 rfl e1).mP he 19 rfl e15).mP he 33 rfl e29
     refine zC hf en_85 rfl (daily_opened_1_ok xv_1 (W (e_1.Lo - r.Fall)) (W (e_2.Hi + r.Rise)) r.Rise r.Fall r.Days x_2 h_r_Days (((hc.pick k1).pick k1).pick k3) hr_2) ?_
     rintro _ w ⟨rfl,hl_1,hc⟩
     refine ⟨_,rfl,fun a hf => ?_⟩
     try rw [← hl_1] at hf
     try rw [← hl_1] at hc
     refine cNil ?_
     refine xThenN ?_
     intro ds u hau
     replace hc := (((hc.pick k0).pick k3).pick k3).pick k3
     refine ⟨θ,he.put0 hi hau hf rfl 34 rfl rfl,?_⟩
     try dsimp only
     rw [updE_self E 30]
     exact hc
    ·intro E θ a w hall he hc
     have hf := he.h0
     have e30 := hall 30 rfl
     replace hf := hf.more he 1 rfl (onT)
     replace hf := hf.more he 0 rfl (onT)
     try dsimp only at hc
     rw [e30] at hc
     exact ⟨hf.kp rfl,hc⟩
    rintro a w ⟨hf,hc⟩
    refine h15 _ _ ?_
    obtain ⟨_,hl_2,hF⟩ := same_len hF
    exact ⟨r_2,_,(sj hF).symm,⟨hl_2,rfl⟩,hc⟩
   ·rintro D_1 x_2 _ a w hsF ⟨hl,rfl⟩ hf hc
    replace hf : Has ⟨118,markL (D_1::[])⟩ a [(6,pq b_3),(9,pq b_4)] := hf.kp rfl
    replace hc : Ctx G (.box b_5 [pq b_2] 94::.box b_6 [.bool r_1] 4::.box b_2 [i6 r.Rise,i6 r.Fall,.slice r_Days_p r.Days.length r_Days_c,.slice p_1 x_2.length c_1] 98::.row p_1 c_1 (x_2.map enc_api_Span) 71 2::.box b_4 [.func (.func 85) #[] #[pq b_3]] 143::.box b_3 [pq b_2] 94::(raws (D_1::[]) ++ Lf)) w := rawsIn (C := [.box b_5 [pq b_2] 94,.box b_6 [.bool r_1] 4]) (L := [.box b_2 [i6 r.Rise,i6 r.Fall,.slice r_Days_p r.Days.length r_Days_c,.slice p_1 x_2.length c_1] 98,.row p_1 c_1 (x_2.map enc_api_Span) 71 2,.box b_4 [.func (.func 85) #[] #[pq b_3]] 143,.box b_3 [pq b_2] 94]) hc
    replace hF : (Option.bind (daily_work_pairs N (⟨r,x_2⟩ : daily_work) true) fun r_3 => Option.bind (daily_work_pairs_1 N r.Rise r.Fall r.Days r_3 (rY (fun (zz : (List api_Span)) (ix_ : (Int × Int)) => daily_opened_r18 N r x_2 zz ix_.1 ix_.2)) (.go x_2)) fun x18 => rsK x18 (fun zz18 => Option.bind (daily_every_api_Span N zz18) fun r_5 => some (.inr (r.Rise,r.Fall,zz18,r_5,0))) (fun zz18 => none)) = some res := by rcases hsF with rfl | rfl <;> exact hF
    refine h11 _ _ ?_
    refine wp_seq_k fun K16 h16 => zS fun K h => zL hf hc sc_94 m5 rfl fun a w hf hc => ?_
    obtain ⟨r_3,hr_3,hF⟩ := bnd_some hF
    obtain ⟨G1,hle1,hrd1,hc,hth1⟩ := lend hc k3
    refine zC hf en_86 rfl (daily_work_pairs_ok (⟨r,x_2⟩ : daily_work) true (h_r_Days.mono hle1) hrd1 (hc.pick k2) hr_3) ?_
    rintro _ w ⟨b_7,b_8,rfl,hc⟩
    refine ⟨_,rfl,fun a hf => ?_⟩
    replace hc := hth1 _ _ hc
    refine zT h ?_
    obtain ⟨x18,hx18,hF⟩ := bnd_some hF
    replace hc := (((((hc.drop k5).drop k4).pick k0).pick k3).pick k3).pick k3
    refine cRangeC (C := [.box b_7 [pq b_2] 94,.box b_8 [.bool r_3] 4]) (C2 := [.box b_7 [pq b_2] 94,.box b_8 [.bool r_3] 4]) (L0 := [.box b_2 [i6 r.Rise,i6 r.Fall,.slice r_Days_p r.Days.length r_Days_c,.slice p_1 x_2.length c_1] 98,.row p_1 c_1 (x_2.map enc_api_Span) 71 2,.box b_4 [.func (.func 85) #[] #[pq b_3]] 143,.box b_3 [pq b_2] 94]) (Lf := (raws (D_1::[]) ++ Lf)) (encs := fun x : (Int × Int) => [i6 x.1,i6 x.2]) (fun (zz : (List api_Span)) L => zz.length = x_2.length ∧ L = [.box b_2 [i6 r.Rise,i6 r.Fall,.slice r_Days_p r.Days.length r_Days_c,.slice p_1 zz.length c_1] 98,.row p_1 c_1 (zz.map enc_api_Span) 71 2,.box b_4 [.func (.func 85) #[] #[pq b_3]] 143,.box b_3 [pq b_2] 94]) (fun (zz : (List api_Span)) (ix_ : (Int × Int)) => daily_opened_r18 N r x_2 zz ix_.1 ix_.2) x_2 x18 hf hc rfl en_93 (fun _ => rfl) rfl ⟨rfl,rfl⟩ ?_ ?_ ?_ ?_
    ·intro lq mq J L Lx w hy hQ hJ hc
     have hje_ : ∀ (zz : (List api_Span)) (M : List Ent),(fun (zz : (List api_Span)) L => zz.length = x_2.length ∧ L = [.box b_2 [i6 r.Rise,i6 r.Fall,.slice r_Days_p r.Days.length r_Days_c,.slice p_1 zz.length c_1] 98,.row p_1 c_1 (zz.map enc_api_Span) 71 2,.box b_4 [.func (.func 85) #[] #[pq b_3]] 143,.box b_3 [pq b_2] 94]) zz M → ∃ A B,M = A ++ (.box b_2 [i6 r.Rise,i6 r.Fall,.slice r_Days_p r.Days.length r_Days_c,.slice p_1 x_2.length c_1] 98::B) := by
      rintro x_3 _ ⟨hl_3,rfl⟩
      try rw [show _ = _ from hl_3]
      exact ⟨[],_,rfl⟩
     exact daily_work_pairs_1_ok r.Rise r.Fall r.Days r_3 h_r_Days J _ hy _ hJ (hQ _ hje_) hc hx18
    ·clear hF hf hc
     rintro lq mq x_3 ⟨xv_2,xv_3⟩ oq _ Lr Lb a w hK0 ⟨hl_3,rfl⟩ hF hf hc hK
     replace hf : Has 118 a [(6,pq b_3),(9,pq b_4),(79,i6 xv_2),(80,i6 xv_3)] := hf.kp rfl
     replace hc : Ctx G (.box b_2 [i6 r.Rise,i6 r.Fall,.slice r_Days_p r.Days.length r_Days_c,.slice p_1 x_3.length c_1] 98::.row p_1 c_1 (x_3.map enc_api_Span) 71 2::.box b_4 [.func (.func 85) #[] #[pq b_3]] 143::.box b_3 [pq b_2] 94::Lr) w := hc
     replace hF : daily_opened_r18 N r x_2 x_3 xv_2 xv_3 = some oq := hF
     unfold daily_opened_r18 at hF
     refine rSeq fun K19 h19 => rReg (fun _ _ h => h) rfl ?_
     refine sp 1 hf rfl fun a hf => cNil ?_
     refine h19 _ _ ?_
     refine rReg (fun _ _ h => h) rfl ?_
     refine sp 1 hf rfl fun a hf => cNil ?_
     refine hK _ _ [.box b_2 [i6 r.Rise,i6 r.Fall,.slice r_Days_p r.Days.length r_Days_c,.slice p_1 x_3.length c_1] 98,.row p_1 c_1 (x_3.map enc_api_Span) 71 2,.box b_4 [.func (.func 85) #[] #[pq b_3]] 143,.box b_3 [pq b_2] 94] hc fun w hc => ?_
     replace hc : Ctx G (.box b_2 [i6 r.Rise,i6 r.Fall,.slice r_Days_p r.Days.length r_Days_c,.slice p_1 x_3.length c_1] 98::.row p_1 c_1 (x_3.map enc_api_Span) 71 2::.box b_4 [.func (.func 85) #[] #[pq b_3]] 143::.box b_3 [pq b_2] 94::Lb) w := hc
     refine rThenK fun K20 h20 => rBlock ?_
     obtain ⟨e_3,he_3,hF⟩ := bnd_some hF
     obtain ⟨g_1,rfl,qa_2,qr_2⟩ := row_atm hc m1 he_3
     obtain ⟨e_4,he_4,hF⟩ := bnd_some hF
     obtain ⟨qa_3,qr_3⟩ := row_atk hc m1 he_4
     obtain ⟨r_4,hr_4,hF⟩ := bnd_some hF
     refine rRegE (fun _ _ h => h) rfl (fun θ => (⟨none,none,6,pq b_3⟩::⟨none,none,9,pq b_4⟩::⟨none,none,12,i6 xv_2⟩::⟨none,none,13,i6 xv_3⟩::⟨some 0,none,81,.func (.func 85) #[] #[pq b_3]⟩::⟨some 1,none,82,i6 xv_3⟩::⟨some 2,none,83,pq b_2⟩::⟨some 3,none,84,pq b_2⟩::⟨some 4,none,85,.pointer (some ⟨b_2,3,none⟩)⟩::⟨some 5,none,86,.slice (some ⟨g_1,0,none⟩) x_3.length c_1⟩::⟨some 6,none,87,i6 xv_2⟩::⟨some 7,none,88,.pointer (some ⟨g_1,xv_2.toNat * 2,none⟩)⟩::⟨some 8,none,89,.pointer (some ⟨g_1,xv_2.toNat * 2 + 0,none⟩)⟩::⟨some 9,none,90,i6 e_3.Lo⟩::⟨some 10,none,91,pq b_2⟩::⟨some 11,none,92,pq b_2⟩::⟨some 12,none,93,pq b_2⟩::⟨some 13,none,94,pq b_2⟩::⟨some 14,none,95,i6 r.Rise⟩::⟨some 15,none,96,i6 (W (e_3.Lo - r.Rise))⟩::⟨some 16,none,97,pq b_2⟩::⟨some 17,none,98,pq b_2⟩::⟨some 18,none,99,.pointer (some ⟨b_2,3,none⟩)⟩::⟨some 19,none,100,.slice (some ⟨g_1,0,none⟩) x_3.length c_1⟩::⟨some 20,none,101,i6 xv_2⟩::⟨some 21,none,102,.pointer (some ⟨g_1,xv_2.toNat * 2,none⟩)⟩::⟨some 22,none,103,.pointer (some ⟨g_1,xv_2.toNat * 2 + 1,none⟩)⟩::⟨some 23,none,104,i6 e_4.Hi⟩::⟨some 24,none,105,pq b_2⟩::⟨some 25,none,106,pq b_2⟩::⟨some 26,none,107,pq b_2⟩::⟨some 27,none,108,.pointer (some ⟨b_2,1,none⟩)⟩::⟨some 28,none,109,i6 r.Fall⟩::⟨some 29,none,110,i6 (W (e_4.Hi + r.Fall))⟩::⟨some 30,none,111,.tuple #[]⟩::[])) (fun E θ => (bif E 30 then .box b_2 [i6 r.Rise,i6 r.Fall,.slice r_Days_p r.Days.length r_Days_c,.slice (some ⟨g_1,0,none⟩) r_4.length c_1] 98 else .box b_2 [i6 r.Rise,i6 r.Fall,.slice r_Days_p r.Days.length r_Days_c,.slice (some ⟨g_1,0,none⟩) x_3.length c_1] 98)::(bif E 30 then .row (some ⟨g_1,0,none⟩) c_1 (r_4.map enc_api_Span) 71 2 else .row (some ⟨g_1,0,none⟩) c_1 (x_3.map enc_api_Span) 71 2)::.box b_4 [.func (.func 85) #[] #[pq b_3]] 143::.box b_3 [pq b_2] 94::Lb) [(7,5),(8,7),(9,8),(15,9),(30,15),(15,14),(21,19),(22,21),(23,22),(29,23),(30,29),(29,28)] (fun a w => Has 118 a [(6,pq b_3),(9,pq b_4)] ∧ Ctx G (.box b_2 [i6 r.Rise,i6 r.Fall,.slice r_Days_p r.Days.length r_Days_c,.slice (some ⟨g_1,0,none⟩) r_4.length c_1] 98::.row (some ⟨g_1,0,none⟩) c_1 (r_4.map enc_api_Span) 71 2::.box b_4 [.func (.func 85) #[] #[pq b_3]] 143::.box b_3 [pq b_2] 94::Lb) w) follows_mx (by kernel_rfl) (by kernel_rfl) (HasE.of hf ⟨rfl,rfl,rfl,rfl,trivial,trivial,trivial,trivial,trivial,trivial,trivial,trivial,trivial,trivial,trivial,trivial,trivial,trivial,trivial,trivial,trivial,trivial,trivial,trivial,trivial,trivial,trivial,trivial,trivial,trivial,trivial,trivial,trivial,trivial,trivial,trivial⟩) hc ⟨?_,?_,?_,?_,?_,?_,?_,?_,?_,?_,?_,?_,?_,?_,?_,?_,?_,?_,?_,?_,?_,?_,?_,?_,?_,?_,?_,?_,?_,?_,?_,trivial⟩ ?_ ?_
     ·intro E θ a w hD hi hp he hc
      have hf := he.h0.mT he 1 rfl
      refine zL hf hc sc_143 m2 rfl fun a w hf hc => zD θ he hi hf 4 rfl rfl rfl hc
     ·intro E θ a w hD hi hp he hc
      have hf := he.h0.mT he 3 rfl
      refine sp 1 hf rfl fun a hf => zD θ he hi hf 5 rfl rfl rfl hc
     ·intro E θ a w hD hi hp he hc
      have hf := he.h0.mT he 0 rfl
      refine zL hf hc sc_94 m3 rfl fun a w hf hc => zD θ he hi hf 6 rfl rfl rfl hc
     ·intro E θ a w hD hi hp he hc
      have e2 := hp.o 2 rfl
      have hf := he.h0.mP he 6 rfl e2
      refine sp 1 hf rfl fun a hf => zD θ he hi hf 7 rfl rfl rfl hc
     ·intro E θ a w hD hi hp he hc
      have e3 := hp.o 3 rfl
      have hf := he.h0.mP he 7 rfl e3
      refine zP hf rfl (pFA fa_98_1 rfl) fun a hf => zD θ he hi hf 8 rfl rfl rfl hc
     ·intro E θ a w hD hi hp he hc
      have e4 := hp.o 4 rfl
      have e7 := hD.f 0 rfl hi
      have e8 := hD.f 1 rfl e7
      have e9 := hD.f 2 rfl e8
      have e15 := hD.f 3 rfl e9
      have e30 := hD.f 4 rfl e15
      try dsimp only at hc
      rw [e30] at hc
      have hf := he.h0.mP he 8 rfl e4
      refine zL hf hc sc_63 m0 rfl fun a w hf hc => zD θ he hi hf 9 rfl rfl rfl ?_
      try dsimp only
      rw [updE_fls 5 e30 rfl]
      exact hc
     ·intro E θ a w hD hi hp he hc
      have hf := he.h0.mT he 2 rfl
      refine sp 1 hf rfl fun a hf => zD θ he hi hf 10 rfl rfl rfl hc
     ·intro E θ a w hD hi hp he hc
      have e5 := hp.o 5 rfl
      have e6 := hp.o 6 rfl
      have e8 := hD.f 1 rfl hi
      have e9 := hD.f 2 rfl e8
      have e15 := hD.f 3 rfl e9
      have e30 := hD.f 4 rfl e15
      try dsimp only at hc
      rw [e30] at hc
      have hf := (he.h0.mP he 9 rfl e5).mP he 10 rfl e6
      refine zP hf rfl (pIA Try.underlying63 sz_71 rfl rfl qa_2) fun a hf => zD θ he hi hf 11 rfl rfl rfl ?_
      try dsimp only
      rw [updE_fls 7 e30 rfl]
      exact hc
     ·intro E θ a w hD hi hp he hc
      have e7 := hp.o 7 rfl
      have hf := he.h0.mP he 11 rfl e7
      refine zP hf rfl (pFA fa_71_0 rfl) fun a hf => zD θ he hi hf 12 rfl rfl rfl hc
     ·intro E θ a w hD hi hp he hc
      have e8 := hp.o 8 rfl
      have e15 := hD.f 3 rfl hi
      have e30 := hD.f 4 rfl e15
      try dsimp only at hc
      rw [e30] at hc
      have hf := he.h0.mP he 12 rfl e8
      refine zE hf hc rfl (eLd1 sc_3 rfl (cell_row (sz := 2) (i := xv_2.toNat) (j := 0) m1 qr_2 rfl)) fun a w hf hc => zD θ he hi hf 13 rfl rfl rfl ?_
      try dsimp only
      rw [updE_fls 9 e30 rfl]
      exact hc
     ·intro E θ a w hD hi hp he hc
      have hf := he.h0.mT he 0 rfl
      refine zL hf hc sc_94 m3 rfl fun a w hf hc => zD θ he hi hf 14 rfl rfl rfl hc
     ·intro E θ a w hD hi hp he hc
      have e10 := hp.o 10 rfl
      have hf := he.h0.mP he 14 rfl e10
      refine sp 1 hf rfl fun a hf => zD θ he hi hf 15 rfl rfl rfl hc
     ·intro E θ a w hD hi hp he hc
      have e11 := hp.o 11 rfl
      have hf := he.h0.mP he 15 rfl e11
      refine zP hf rfl (pFA fa_98_0 rfl) fun a hf => zD θ he hi hf 16 rfl rfl rfl hc
     ·intro E θ a w hD hi hp he hc
      have e12 := hp.o 12 rfl
      have hf := he.h0.mP he 16 rfl e12
      refine zP hf rfl (pFA fa_68_0 rfl) fun a hf => zD θ he hi hf 17 rfl rfl rfl hc
     ·intro E θ a w hD hi hp he hc
      have e13 := hp.o 13 rfl
      have e15 := hD.f 5 rfl hi
      have e30 := hD.f 4 rfl e15
      try dsimp only at hc
      rw [e30] at hc
      have hf := he.h0.mP he 17 rfl e13
      refine zL hf hc sc_3 m0 rfl fun a w hf hc => zD θ he hi hf 18 rfl rfl rfl ?_
      try dsimp only
      rw [updE_fls 14 e30 rfl]
      exact hc
     ·intro E θ a w hD hi hp he hc
      have e9 := hp.o 9 rfl
      have e14 := hp.o 14 rfl
      have hf := (he.h0.mP he 13 rfl e9).mP he 18 rfl e14
      refine sp 1 hf rfl fun a hf => zD θ he hi hf 19 rfl rfl rfl hc
     ·intro E θ a w hD hi hp he hc
      have hf := he.h0.mT he 0 rfl
      refine zL hf hc sc_94 m3 rfl fun a w hf hc => zD θ he hi hf 20 rfl rfl rfl hc
     ·intro E θ a w hD hi hp he hc
      have e16 := hp.o 16 rfl
      have hf := he.h0.mP he 20 rfl e16
      refine sp 1 hf rfl fun a hf => zD θ he hi hf 21 rfl rfl rfl hc
     ·intro E θ a w hD hi hp he hc
      have e17 := hp.o 17 rfl
      have hf := he.h0.mP he 21 rfl e17
      refine zP hf rfl (pFA fa_98_1 rfl) fun a hf => zD θ he hi hf 22 rfl rfl rfl hc
     ·intro E θ a w hD hi hp he hc
      have e18 := hp.o 18 rfl
      have e21 := hD.f 6 rfl hi
      have e22 := hD.f 7 rfl e21
      have e23 := hD.f 8 rfl e22
      have e29 := hD.f 9 rfl e23
      have e30 := hD.f 10 rfl e29
      try dsimp only at hc
      rw [e30] at hc
      have hf := he.h0.mP he 22 rfl e18
      refine zL hf hc sc_63 m0 rfl fun a w hf hc => zD θ he hi hf 23 rfl rfl rfl ?_
      try dsimp only
      rw [updE_fls 19 e30 rfl]
      exact hc
     ·intro E θ a w hD hi hp he hc
      have hf := he.h0.mT he 2 rfl
      refine sp 1 hf rfl fun a hf => zD θ he hi hf 24 rfl rfl rfl hc
     ·intro E θ a w hD hi hp he hc
      have e19 := hp.o 19 rfl
      have e20 := hp.o 20 rfl
      have e22 := hD.f 7 rfl hi
      have e23 := hD.f 8 rfl e22
      have e29 := hD.f 9 rfl e23
      have e30 := hD.f 10 rfl e29
      try dsimp only at hc
      rw [e30] at hc
      have hf := (he.h0.mP he 23 rfl e19).mP he 24 rfl e20
      refine zP hf rfl (pIA Try.underlying63 sz_71 rfl rfl qa_3) fun a hf => zD θ he hi hf 25 rfl rfl rfl ?_
      try dsimp only
      rw [updE_fls 21 e30 rfl]
      exact hc
     ·intro E θ a w hD hi hp he hc
      have e21 := hp.o 21 rfl
      have hf := he.h0.mP he 25 rfl e21
      refine zP hf rfl (pFA fa_71_1 rfl) fun a hf => zD θ he hi hf 26 rfl rfl rfl hc
     ·intro E θ a w hD hi hp he hc
      have e22 := hp.o 22 rfl
      have e29 := hD.f 9 rfl hi
      have e30 := hD.f 10 rfl e29
      try dsimp only at hc
      rw [e30] at hc
      have hf := he.h0.mP he 26 rfl e22
      refine zE hf hc rfl (eLd1 sc_3 rfl (cell_row (sz := 2) (i := xv_2.toNat) (j := 1) m1 qr_3 rfl)) fun a w hf hc => zD θ he hi hf 27 rfl rfl rfl ?_
      try dsimp only
      rw [updE_fls 23 e30 rfl]
      exact hc
     ·intro E θ a w hD hi hp he hc
      have hf := he.h0.mT he 0 rfl
      refine zL hf hc sc_94 m3 rfl fun a w hf hc => zD θ he hi hf 28 rfl rfl rfl hc
     ·intro E θ a w hD hi hp he hc
      have e24 := hp.o 24 rfl
      have hf := he.h0.mP he 28 rfl e24
      refine sp 1 hf rfl fun a hf => zD θ he hi hf 29 rfl rfl rfl hc
     ·intro E θ a w hD hi hp he hc
      have e25 := hp.o 25 rfl
      have hf := he.h0.mP he 29 rfl e25
      refine zP hf rfl (pFA fa_98_0 rfl) fun a hf => zD θ he hi hf 30 rfl rfl rfl hc
     ·intro E θ a w hD hi hp he hc
      have e26 := hp.o 26 rfl
      have hf := he.h0.mP he 30 rfl e26
      refine zP hf rfl (pFA fa_68_1 rfl) fun a hf => zD θ he hi hf 31 rfl rfl rfl hc
     ·intro E θ a w hD hi hp he hc
      have e27 := hp.o 27 rfl
      have e29 := hD.f 11 rfl hi
      have e30 := hD.f 10 rfl e29
      try dsimp only at hc
      rw [e30] at hc
      have hf := he.h0.mP he 31 rfl e27
      refine zL hf hc sc_3 m0 rfl fun a w hf hc => zD θ he hi hf 32 rfl rfl rfl ?_
      try dsimp only
      rw [updE_fls 28 e30 rfl]
      exact hc
     ·intro E θ a w hD hi hp he hc
      have e23 := hp.o 23 rfl
      have e28 := hp.o 28 rfl
      have hf := (he.h0.mP he 27 rfl e23).mP he 32 rfl e28
      refine sp 1 hf rfl fun a hf => zD θ he hi hf 33 rfl rfl rfl hc
     ·intro E θ a w hD hi hp he hc
      have e0 := hp.o 0 rfl
      have e1 := hp.o 1 rfl
      have e15 := hp.o 15 rfl
      have e29 := hp.o 29 rfl
      try dsimp only at hc
      rw [hi] at hc
      have hf := (((he.h0.mP he 4 rfl e0).mP he 5 rfl e1).mP he 19 rfl e15).mP he 33 rfl e29
      refine zC hf en_85 rfl (daily_opened_1_ok xv_3 (W (e_3.Lo - r.Rise)) (W (e_4.Hi + r.Fall)) r.Rise r.Fall r.Days x_3 h_r_Days (((hc.pick k1).pick k1).pick k3) hr_4) ?_
      rintro _ w ⟨rfl,hl_4,hc⟩
      refine ⟨_,rfl,fun a hf => ?_⟩
      try rw [← hl_4] at hf
      try rw [← hl_4] at hc
      refine cNil ?_
      refine xThenN ?_
      intro ds u hau
      replace hc := (((hc.pick k0).pick k3).pick k3).pick k3
      refine ⟨θ,he.put0 hi hau hf rfl 34 rfl rfl,?_⟩
      try dsimp only
      rw [updE_self E 30]
      exact hc
     ·intro E θ a w hall he hc
      have hf := he.h0
      have e30 := hall 30 rfl
      replace hf := hf.more he 1 rfl (onT)
      replace hf := hf.more he 0 rfl (onT)
      try dsimp only at hc
      rw [e30] at hc
      exact ⟨hf.kp rfl,hc⟩
     rintro a w ⟨hf,hc⟩
     refine h20 _ _ ?_
     obtain ⟨_,hl_5,hF⟩ := same_len hF
     exact ⟨r_4,_,(sj hF).symm,⟨hl_5,rfl⟩,hc⟩
    ·rintro D_2 x_3 _ a w hsF ⟨hl_3,rfl⟩ hf hc
     replace hf : Has ⟨118,markL (D_2::(D_1::[]))⟩ a [(6,pq b_3),(9,pq b_4)] := hf.kp rfl
     replace hc : Ctx G (.box b_7 [pq b_2] 94::.box b_8 [.bool r_3] 4::.box b_2 [i6 r.Rise,i6 r.Fall,.slice r_Days_p r.Days.length r_Days_c,.slice p_1 x_3.length c_1] 98::.row p_1 c_1 (x_3.map enc_api_Span) 71 2::.box b_4 [.func (.func 85) #[] #[pq b_3]] 143::.box b_3 [pq b_2] 94::(raws (D_2::(D_1::[])) ++ Lf)) w := rawsIn (C := [.box b_7 [pq b_2] 94,.box b_8 [.bool r_3] 4]) (L := [.box b_2 [i6 r.Rise,i6 r.Fall,.slice r_Days_p r.Days.length r_Days_c,.slice p_1 x_3.length c_1] 98,.row p_1 c_1 (x_3.map enc_api_Span) 71 2,.box b_4 [.func (.func 85) #[] #[pq b_3]] 143,.box b_3 [pq b_2] 94]) hc
     replace hF : (Option.bind (daily_every_api_Span N x_3) fun r_5 => some (.inr (r.Rise,r.Fall,x_3,r_5,0))) = some res := by rcases hsF with rfl | rfl <;> exact hF
     refine h16 _ _ ?_
     refine wp_seq_k fun K21 h21 => ?_
     obtain ⟨r_5,hr_5,hF⟩ := bnd_some hF
     refine cQ hc follows_mx (by kernel_rfl) ?_
     refine qE hf rfl rfl rfl (eLd1 sc_94 rfl (cell_box m5 rfl)) fun a hf => qE hf rfl rfl rfl (eLd1 sc_94 rfl (cell_box m5 rfl)) fun a hf => qE hf rfl rfl rfl (Pu.ev (pNC rfl)) fun a hf => qE hf rfl rfl rfl (Pu.ev (pFA fa_98_1 rfl)) fun a hf => qE hf rfl rfl rfl (eLd1 sc_63 rfl (cell_box m2 rfl)) fun a hf => qE hf rfl rfl rfl (eC (v := .bool r_5) (vs := [.slice p_1 x_3.length c_1,.func (.func 87) #[] #[]]) (caps := []) en_52 rfl rfl rfl rfl (fun w hc => by obtain ⟨G1,hle1,hrd1,hc,hth1⟩ := lend hc k3; exact (daily_every_api_Span_ok x_3 hrd1 hc hr_5).mono fun e w h => ⟨h.1,((hth1 _ _ h.2).unpick k3)⟩)) fun a hf => qE hf rfl rfl rfl (Pu.ev (pA rfl)) fun a hf => qE hf rfl rfl rfl (Pu.ev (pA rfl)) fun a hf => qE hf rfl rfl rfl (Pu.ev (pA rfl)) fun a hf => ?_
     intro w hc
     refine h21 _ _ ?_
     refine wp_ret ?_
     obtain rfl := sj hF
     replace hc := (((((hc.drop k5).drop k4).drop k1).drop k0).pick k0).pick k1
     refine outM hf ?_
     refine outML [.row p_1 c_1 (x_3.map enc_api_Span) 71 2,.box b_2 [i6 r.Rise,i6 r.Fall,.slice r_Days_p r.Days.length r_Days_c,.slice p_1 x_3.length c_1] 98] (D_2::(D_1::[])) hc fun w hc => ?_
     replace hc : Ctx G (.row p_1 c_1 (x_3.map enc_api_Span) 71 2::.box b_2 [i6 r.Rise,i6 r.Fall,.slice r_Days_p r.Days.length r_Days_c,.slice p_1 x_3.length c_1] 98::Lf) w := hc
     exact outM3 Try.results69 hf hc (show look _ 2 = _ from rfl) (show look _ 3 = _ from rfl) (show look _ 4 = _ from rfl) ⟨b_2,p_1,c_1,rfl,hc⟩
    ·rintro D_2 x_3 _ a w hsF ⟨hl_3,rfl⟩ hf hc
     replace hf : Has ⟨118,markL (D_2::(D_1::[]))⟩ a [(6,pq b_3),(9,pq b_4)] := hf.kp rfl
     replace hc : Ctx G (.box b_7 [pq b_2] 94::.box b_8 [.bool r_3] 4::.box b_2 [i6 r.Rise,i6 r.Fall,.slice r_Days_p r.Days.length r_Days_c,.slice p_1 x_3.length c_1] 98::.row p_1 c_1 (x_3.map enc_api_Span) 71 2::.box b_4 [.func (.func 85) #[] #[pq b_3]] 143::.box b_3 [pq b_2] 94::(raws (D_2::(D_1::[])) ++ Lf)) w := rawsIn (C := [.box b_7 [pq b_2] 94,.box b_8 [.bool r_3] 4]) (L := [.box b_2 [i6 r.Rise,i6 r.Fall,.slice r_Days_p r.Days.length r_Days_c,.slice p_1 x_3.length c_1] 98,.row p_1 c_1 (x_3.map enc_api_Span) 71 2,.box b_4 [.func (.func 85) #[] #[pq b_3]] 143,.box b_3 [pq b_2] 94]) hc
     replace hF : (none) = some res := by subst hsF; exact hF
     cases hF
   ·rintro D_1 x_2 _ a w hsF ⟨hl,rfl⟩ hf hc
    replace hf : Has ⟨118,markL (D_1::[])⟩ a [(6,pq b_3),(9,pq b_4)] := hf.kp rfl
    replace hc : Ctx G (.box b_5 [pq b_2] 94::.box b_6 [.bool r_1] 4::.box b_2 [i6 r.Rise,i6 r.Fall,.slice r_Days_p r.Days.length r_Days_c,.slice p_1 x_2.length c_1] 98::.row p_1 c_1 (x_2.map enc_api_Span) 71 2::.box b_4 [.func (.func 85) #[] #[pq b_3]] 143::.box b_3 [pq b_2] 94::(raws (D_1::[]) ++ Lf)) w := rawsIn (C := [.box b_5 [pq b_2] 94,.box b_6 [.bool r_1] 4]) (L := [.box b_2 [i6 r.Rise,i6 r.Fall,.slice r_Days_p r.Days.length r_Days_c,.slice p_1 x_2.length c_1] 98,.row p_1 c_1 (x_2.map enc_api_Span) 71 2,.box b_4 [.func (.func 85) #[] #[pq b_3]] 143,.box b_3 [pq b_2] 94]) hc
    replace hF : (none) = some res := by subst hsF; exact hF
    cases hF
  have ho9 : ∀ r,x9 = .out r → r = res := by
   rintro r rfl
   exact sj hF
  replace hc := hc.nilRow 71 2
  replace hc := hc.drop k3
  refine cLoop N (loopW (S := S9) (x := x9) ?_ N (0,([] : List api_Span)) _ _ ⟨none,0,hf.kp rfl,hc⟩ hx9)
  clear hF hf hc
  rintro ⟨x,x_1⟩ st9 a w KB9 ⟨p_1,c_1,hf,hc⟩ hF hfin9 hK9
  unfold daily_opened_b9 at hF
  refine zS fun K h => sp 1 hf rfl fun a hf => zT h ?_
  refine wp_seq_k fun K23 h23 => zI hf rfl hF ?_ ?_ <;> clear hF <;> intro hF
  ·refine wp_skip ?_
   refine h23 _ _ ?_
   refine wp_seq_k fun K24 h24 => wp_block ?_
   refine zS fun K h => ?_
   obtain ⟨e_5,he_5,hF⟩ := bnd_some hF
   obtain ⟨b_9,o,qa_4,qp⟩ := h_r_Days.atm he_5
   refine zP hf rfl (pIA Try.underlying66 sz_100 rfl rfl qa_4) fun a hf => zE hf hc rfl (eLdN (vs := [.bool e_5.Known,i6 e_5.Flow.Lo,i6 e_5.Flow.Hi]) ag_100 rfl rfl (cells_pc qp (n := 3) (o' := 0) rfl)) fun a w hf hc => zA hf hc zr_100 rfl fun b_10 a w hf hc => zW hf hc sz_100 u0 rfl fun w hc => zT h ?_
   obtain ⟨r_6,hr_6,hF⟩ := bnd_some hF
   obtain ⟨un,hun,hF⟩ := bnd_some hF
   replace hc := hc.nilRow 0 0
   refine regionE (fun θ => [⟨none,none,6,pq b_3⟩,⟨none,none,8,pq b_10⟩,⟨none,none,23,.slice r_Days_p r.Days.length r_Days_c⟩,⟨none,none,24,i6 ((r.Days.length : Nat) : Int)⟩,⟨none,none,25,i6 x⟩,⟨some 0,none,29,pq b_2⟩,⟨some 1,none,30,pq b_2⟩,⟨some 2,none,31,pq b_2⟩,⟨some 3,none,32,.pointer (some ⟨b_2,3,none⟩)⟩,⟨some 4,none,33,.slice p_1 x_1.length c_1⟩,⟨some 5,none,34,.agg #[.bool e_5.Known,i6 e_5.Flow.Lo,i6 e_5.Flow.Hi]⟩,⟨some 6,none,35,.agg #[i6 r_6.Lo,i6 r_6.Hi]⟩,⟨some 7,none,36,.slice (some ⟨(θ 56).b,0,none⟩) 1 1⟩,⟨some 8,none,37,.slice ((θ 64).p) ((x_1 ++ [r_6]).length) ((θ 64).c)⟩,⟨some 9,none,38,pq b_2⟩,⟨some 10,none,39,.pointer (some ⟨b_2,3,none⟩)⟩]) (fun E θ => (bif E 7 then .row (some ⟨(θ 56).b,0,none⟩) 1 (([r_6] : List api_Span).map enc_api_Span) 71 2 else .row none 0 [] 0 0)::.box b_10 [.bool e_5.Known,i6 e_5.Flow.Lo,i6 e_5.Flow.Hi] 100::(bif E 8 then .row ((θ 64).p) ((θ 64).c) ((x_1 ++ [r_6]).map enc_api_Span) 71 2 else .row p_1 c_1 (x_1.map enc_api_Span) 71 2)::.box b_3 [pq b_2] 94::(bif E 11 then .box b_2 [i6 r.Rise,i6 r.Fall,.slice r_Days_p r.Days.length r_Days_c,.slice ((θ 64).p) ((x_1 ++ [r_6]).length) ((θ 64).c)] 98 else .box b_2 [i6 r.Rise,i6 r.Fall,.slice r_Days_p r.Days.length r_Days_c,.slice p_1 x_1.length c_1] 98)::Lf) [(11,4),(11,8)] (fun a w => ∃ (b_12 : Nat) (p_3 : Option Addr) (c_3 : Nat),Has 118 a [(6,pq b_3),(23,.slice r_Days_p r.Days.length r_Days_c),(24,i6 ((r.Days.length : Nat) : Int)),(25,i6 x)] ∧ Ctx G (.row (some ⟨b_12,0,none⟩) 1 (([r_6] : List api_Span).map enc_api_Span) 71 2::.box b_10 [.bool e_5.Known,i6 e_5.Flow.Lo,i6 e_5.Flow.Hi] 100::.row p_3 c_3 ((x_1 ++ [r_6]).map enc_api_Span) 71 2::.box b_3 [pq b_2] 94::.box b_2 [i6 r.Rise,i6 r.Fall,.slice r_Days_p r.Days.length r_Days_c,.slice p_3 ((x_1 ++ [r_6]).length) c_3] 98::Lf) w) follows_mx (by kernel_rfl) (by kernel_rfl) (HasE.of hf ⟨rfl,rfl,rfl,rfl,rfl,trivial,trivial,trivial,trivial,trivial,trivial,trivial,trivial,trivial,trivial,trivial,trivial⟩) hc ⟨?_,?_,?_,?_,?_,?_,?_,?_,?_,?_,?_,?_,trivial⟩ ?_ ?_
   ·intro E θ a w hD hi hp he hc
    have hf := he.h0.mT he 0 rfl
    refine zL hf hc sc_94 m3 rfl fun a w hf hc => zD θ he hi hf 5 rfl rfl rfl hc
   ·intro E θ a w hD hi hp he hc
    have hf := he.h0.mT he 0 rfl
    refine zL hf hc sc_94 m3 rfl fun a w hf hc => zD θ he hi hf 6 rfl rfl rfl hc
   ·intro E θ a w hD hi hp he hc
    have e1 := hp.o 1 rfl
    have hf := he.h0.mP he 6 rfl e1
    refine sp 1 hf rfl fun a hf => zD θ he hi hf 7 rfl rfl rfl hc
   ·intro E θ a w hD hi hp he hc
    have e2 := hp.o 2 rfl
    have hf := he.h0.mP he 7 rfl e2
    refine zP hf rfl (pFA fa_98_1 rfl) fun a hf => zD θ he hi hf 8 rfl rfl rfl hc
   ·intro E θ a w hD hi hp he hc
    have e3 := hp.o 3 rfl
    have e11 := hD.f 0 rfl hi
    try dsimp only at hc
    rw [e11] at hc
    have hf := he.h0.mP he 8 rfl e3
    refine zL hf hc sc_63 m4 rfl fun a w hf hc => zD θ he hi hf 9 rfl rfl rfl ?_
    try dsimp only
    rw [updE_fls 4 e11 rfl]
    exact hc
   ·intro E θ a w hD hi hp he hc
    have hf := he.h0.mT he 1 rfl
    refine zN hf hc ag_100 m1 rfl fun a w hf hc => zD θ he hi hf 10 rfl rfl rfl hc
   ·intro E θ a w hD hi hp he hc
    have e5 := hp.o 5 rfl
    have hf := he.h0.mP he 10 rfl e5
    refine zQ (v := .agg #[i6 r_6.Lo,i6 r_6.Hi]) hf hc en_51 rfl (fun w hc => daily_Value_span_ok e_5 hc hr_6) fun a w hf hc => zD θ he hi hf 11 rfl rfl rfl hc
   ·intro E θ a w hD hi hp he hc
    have e6 := hp.o 6 rfl
    try dsimp only at hc
    rw [hi] at hc
    have hf := he.h0.mP he 11 rfl e6
    refine stBS (rows := ([r_6] : List api_Span).map enc_api_Span) (vs := [(0,.agg #[i6 r_6.Lo,i6 r_6.Hi])]) hf hc rfl rfl sl_63 rfl ⟨rfl,rfl,rfl,trivial⟩ rfl rfl fun b_11 a w hf hc => cNil ?_
    refine xThenN ?_
    intro ds u hau
    replace hc := hc.drop k1
    refine ⟨(setT θ 56 ⟨b_11,none,0,(fun _ => (none,0))⟩),he.put hi hau hf rfl [] trivial ⟨qq,qq,qq,qq,qq,qq,qq,qq,qq,qq,qq,qq,qq,qq,qq,qq,trivial⟩,?_⟩
    try dsimp only
    rw [updE_self E 7]
    exact hc
   ·intro E θ a w hD hi hp he hc
    have e4 := hp.o 4 rfl
    have e7 := hp.o 7 rfl
    have e11 := hD.f 1 rfl hi
    try dsimp only at hc
    rw [e7,hi,e11] at hc
    have hf := (he.h0.mP he 9 rfl e4).mP he 12 rfl e7
    refine stApm (xs := x_1) (ys := ([r_6] : List api_Span)) hf hc rfl rfl sl_63 rfl rfl rfl rfl rfl one_enc_api_Span (src_row hc m0) (fun _ _ => u2) (by simpa using room_spec hun) fun p_2 c_2 a w hf hc => cNil ?_
    refine xThenN ?_
    intro ds u hau
    refine ⟨(setT θ 64 ⟨0,p_2,c_2,(fun _ => (none,0))⟩),he.put hi hau hf rfl [] trivial ⟨qq,qq,qq,qq,qq,qq,qq,qq,qq,qq,qq,qq,qq,qq,qq,qq,trivial⟩,?_⟩
    try dsimp only
    rw [updE_tru 8 e7,updE_self E 8,updE_fls 8 e11 rfl]
    exact hc
   ·intro E θ a w hD hi hp he hc
    have e0 := hp.o 0 rfl
    have hf := he.h0.mP he 5 rfl e0
    refine sp 1 hf rfl fun a hf => zD θ he hi hf 14 rfl rfl rfl hc
   ·intro E θ a w hD hi hp he hc
    have e9 := hp.o 9 rfl
    have hf := he.h0.mP he 14 rfl e9
    refine zP hf rfl (pFA fa_98_1 rfl) fun a hf => zD θ he hi hf 15 rfl rfl rfl hc
   ·intro E θ a w hD hi hp he hc
    have e8 := hp.o 8 rfl
    have e10 := hp.o 10 rfl
    try dsimp only at hc
    rw [hi] at hc
    have hf := (he.h0.mP he 13 rfl e8).mP he 15 rfl e10
    refine zW hf hc sz_63 u4 rfl fun w hc => zG θ he hi hf rfl ?_
    try dsimp only
    rw [updE_self E 11]
    exact hc
   ·intro E θ a w hall he hc
    have hf := he.h0
    have e7 := hall 7 rfl
    have e8 := hall 8 rfl
    have e11 := hall 11 rfl
    replace hf := hf.more he 4 rfl (onT)
    replace hf := hf.more he 3 rfl (onT)
    replace hf := hf.more he 2 rfl (onT)
    replace hf := hf.more he 0 rfl (onT)
    try dsimp only at hc
    rw [e7,e8,e11] at hc
    exact ⟨(θ 56).b,(θ 64).p,(θ 64).c,hf.kp rfl,hc⟩
   rintro a w ⟨b_12,p_3,c_3,hf,hc⟩
   refine h24 _ _ ?_
   refine cReg ?_
   refine sp 2 hf rfl fun a hf => cNil ?_
   replace hc := (hc.drop k1).drop k0
   exact hK9 (W (x + 1),(x_1 ++ [r_6])) _ _ (sj hF).symm ⟨p_3,c_3,hf.kp rfl,hc⟩
  ·refine wp_exit ?_
   refine xThen ?_
   refine xThen ?_
   have he := sj hF
   rw [← he] at hfin9
   refine cHit ?_
   exact hr9 _ _ _ hfin9 ⟨p_1,c_1,hf.kp rfl,hc⟩

def daily_agreed_j3 (N : Nat) (e_1 : Int) : Option ((Int) ⊕ (Int × Int × (List api_Span) × Int)) :=
 some (.inl e_1)
def daily_agreed_j6 (N : Nat) (r_1 : Int × Int × (List api_Span) × Bool × Int) (e_2 : Int) : Option ((Int) ⊕ (Int × Int × (List api_Span) × Int)) :=
 some (.inr (r_1.1,r_1.2.1,r_1.2.2.1,e_2))
def daily_agreed (N : Nat) (r : daily_Record) : Option ((Int) ⊕ (Int × Int × (List api_Span) × Int)) :=
 Option.bind (daily_opened N r) (sumK (fun r_0 => cond ((r_0.2 == 0) && (!r_0.1))
 (daily_agreed_j3 N 7)
 (daily_agreed_j3 N r_0.2))
 (fun r_1 => cond ((r_1.2.2.2.2 == 0) && (!r_1.2.2.2.1))
 (daily_agreed_j6 N r_1 7)
 (daily_agreed_j6 N r_1 r_1.2.2.2.2)))
theorem daily_agreed_ok {N : Nat} {G : Pers} {Lf : List Ent} {w : World} (r : daily_Record) {r_Days_p : Option Addr} {r_Days_c : Nat} (h_r_Days : Rd G 3 r_Days_p r_Days_c (r.Days.map enc_daily_Value)) (hc : Ctx G (Lf) w) {res : (Int) ⊕ (Int × Int × (List api_Span) × Int)} (hF : daily_agreed N r = some res) : Calls Try.prog 44 #[.agg #[i6 r.Rise,i6 r.Fall,.slice r_Days_p r.Days.length r_Days_c]] w (fun e w => sumK (fun rr => e = .returned (.tuple #[.pointer none,i6 rr]) ∧ Ctx G (Lf) w) (fun rr => ∃ (b'1 : Nat) (p'1 : Option Addr) (c'1 : Nat),e = .returned (.tuple #[pq b'1,i6 rr.2.2.2]) ∧ Ctx G (.row p'1 c'1 (rr.2.2.1.map enc_api_Span) 71 2::.box b'1 [i6 rr.1,i6 rr.2.1,.slice r_Days_p r.Days.length r_Days_c,.slice p'1 rr.2.2.1.length c'1] 98::Lf) w) res) := by
 unfold daily_agreed at hF
 refine fnIn Try.func44 rfl Try.ntmps44 rfl fun a hf => zS fun K h => zB hf hc rfl fun b_1 a w hf hc => sp 2 hf rfl fun a hf => zT h ?_
 refine zS fun K h => zN hf hc ag_68 m0 rfl fun a w hf hc => ?_
 obtain ⟨r_0,hr_0,hF⟩ := bnd_some hF
 cases r_0 with
 | inl r_0 =>
  replace hF := sumKl hF
  refine zC hf en_69 rfl (daily_opened_ok r h_r_Days hc hr_0) ?_
  rintro _ w ⟨rfl,hc⟩
  refine ⟨_,rfl,fun a hf => ?_⟩
  refine sp 7 hf rfl fun a hf => zT h ?_
  refine wp_seq_k fun K3 h3 => ?_
  have hj3 : ∀ (e_1 : Int) a w,Has 21 a [(4,.pointer none),(6,i6 e_1)] → Ctx G (Lf) w → daily_agreed_j3 N e_1 = some res → K3 a w := by
   repeat (clear hF)
   repeat (clear hc)
   repeat (clear hf)
   intro e_1 a w hf hc hF
   unfold daily_agreed_j3 at hF
   refine h3 _ _ ?_
   refine zS fun K h => sp 4 hf rfl fun a hf => zT h ?_
   refine wp_ret ?_
   obtain rfl := sj hF
   exact zO2 Try.results44 hf rfl rfl ⟨rfl,hc⟩
  refine zS fun K h => sp 3 hf rfl fun a hf => stCc 3 (fun a => Has 21 a [(4,.pointer none),(5,.bool r_0.1),(6,i6 r_0.2),(13,i6 r_0.2),(14,.bool (r_0.2 == 0)),(15,.bool (r_0.2 == 0)),(18,.bool ((r_0.2 == 0) && (!r_0.1)))]) hc ?_ ?_
  ·cases hb : (r_0.2 == 0)
   ·rw [hb] at hf
    refine stS hf rfl rfl rfl fun a hf => stS hf rfl rfl rfl fun a hf => sp 1 hf rfl fun a hf => cNil ⟨hf.kp rfl,hc⟩
   ·rw [hb] at hf
    refine sp 3 hf rfl fun a hf => cNil ⟨hf.kp rfl,hc⟩
  intro a w ⟨hf,hc⟩
  refine zT h ?_
  refine zI hf rfl hF ?_ ?_ <;> clear hF <;> intro hF
  ·refine cReg ?_
   refine sp 1 hf rfl fun a hf => cNil ?_
   replace hc := hc.drop k0
   exact hj3 7 _ _  (hf.kp rfl) hc hF
  ·refine wp_skip ?_
   replace hc := hc.drop k0
   exact hj3 r_0.2 _ _  (hf.kp rfl) hc hF
 | inr r_1 =>
  replace hF := sumKr hF
  have hr_1 := hr_0
  refine zC hf en_69 rfl (daily_opened_ok r h_r_Days hc hr_1) ?_
  rintro _ w ⟨b_2,p_1,c_1,rfl,hc⟩
  refine ⟨_,rfl,fun a hf => ?_⟩
  refine sp 7 hf rfl fun a hf => zT h ?_
  refine wp_seq_k fun K6 h6 => ?_
  have hj6 : ∀ (e_2 : Int) a w,Has 21 a [(4,pq b_2),(6,i6 e_2)] → Ctx G (.row p_1 c_1 (r_1.2.2.1.map enc_api_Span) 71 2::.box b_2 [i6 r_1.1,i6 r_1.2.1,.slice r_Days_p r.Days.length r_Days_c,.slice p_1 r_1.2.2.1.length c_1] 98::Lf) w → daily_agreed_j6 N r_1 e_2 = some res → K6 a w := by
   repeat (clear hF)
   repeat (clear hc)
   repeat (clear hf)
   intro e_2 a w hf hc hF
   unfold daily_agreed_j6 at hF
   refine h6 _ _ ?_
   refine zS fun K h => sp 4 hf rfl fun a hf => zT h ?_
   refine wp_ret ?_
   obtain rfl := sj hF
   exact zO2 Try.results44 hf rfl rfl ⟨b_2,p_1,c_1,rfl,hc⟩
  refine zS fun K h => sp 3 hf rfl fun a hf => stCc 3 (fun a => Has 21 a [(4,pq b_2),(5,.bool r_1.2.2.2.1),(6,i6 r_1.2.2.2.2),(13,i6 r_1.2.2.2.2),(14,.bool (r_1.2.2.2.2 == 0)),(15,.bool (r_1.2.2.2.2 == 0)),(18,.bool ((r_1.2.2.2.2 == 0) && (!r_1.2.2.2.1)))]) hc ?_ ?_
  ·cases hb : (r_1.2.2.2.2 == 0)
   ·rw [hb] at hf
    refine stS hf rfl rfl rfl fun a hf => stS hf rfl rfl rfl fun a hf => sp 1 hf rfl fun a hf => cNil ⟨hf.kp rfl,hc⟩
   ·rw [hb] at hf
    refine sp 3 hf rfl fun a hf => cNil ⟨hf.kp rfl,hc⟩
  intro a w ⟨hf,hc⟩
  refine zT h ?_
  refine zI hf rfl hF ?_ ?_ <;> clear hF <;> intro hF
  ·refine cReg ?_
   refine sp 1 hf rfl fun a hf => cNil ?_
   replace hc := hc.drop k2
   exact hj6 7 _ _  (hf.kp rfl) hc hF
  ·refine wp_skip ?_
   replace hc := hc.drop k2
   exact hj6 r_1.2.2.2.2 _ _  (hf.kp rfl) hc hF

def daily_Fill (N : Nat) (r : daily_Record) : Option ((List api_Span) × Int) :=
 Option.bind (daily_agreed N r) (sumK (fun r_0 => cond (r_0 != 0)
 (some (([] : List api_Span),r_0))
 (none))
 (fun r_1 => cond (r_1.2.2.2 != 0)
 (some (([] : List api_Span),r_1.2.2.2))
 (some (r_1.2.2.1,0))))
theorem daily_Fill_ok {N : Nat} {G : Pers} {Lf : List Ent} {w : World} (r : daily_Record) {r_Days_p : Option Addr} {r_Days_c : Nat} (h_r_Days : Rd G 3 r_Days_p r_Days_c (r.Days.map enc_daily_Value)) (hc : Ctx G (Lf) w) {res : (List api_Span) × Int} (hF : daily_Fill N r = some res) : Calls Try.prog 24 #[.agg #[i6 r.Rise,i6 r.Fall,.slice r_Days_p r.Days.length r_Days_c]] w (fun e w => ∃ (p'1 : Option Addr) (c'1 : Nat),e = .returned (.tuple #[.slice p'1 res.1.length c'1,i6 res.2]) ∧ Ctx G (.row p'1 c'1 (res.1.map enc_api_Span) 71 2::Lf) w) := by
 unfold daily_Fill at hF
 refine fnIn Try.func24 rfl Try.ntmps24 rfl fun a hf => zS fun K h => zB hf hc rfl fun b_1 a w hf hc => sp 2 hf rfl fun a hf => zT h ?_
 refine zS fun K h => zN hf hc ag_68 m0 rfl fun a w hf hc => ?_
 obtain ⟨r_0,hr_0,hF⟩ := bnd_some hF
 cases r_0 with
 | inl r_0 =>
  replace hF := sumKl hF
  refine zC hf en_44 rfl (daily_agreed_ok r h_r_Days hc hr_0) ?_
  rintro _ w ⟨rfl,hc⟩
  refine ⟨_,rfl,fun a hf => ?_⟩
  refine sp 5 hf rfl fun a hf => zT h ?_
  refine wp_seq_k fun K3 h3 => zS fun K h => sp 2 hf rfl fun a hf => zT h ?_
  refine zI hf rfl hF ?_ ?_ <;> clear hF <;> intro hF
  ·refine zS fun K h => sp 3 hf rfl fun a hf => zT h ?_
   refine wp_ret ?_
   refine xThenR ?_
   obtain rfl := sj hF
   replace hc := hc.nilRow 71 2
   replace hc := hc.drop k1
   exact zO2 Try.results24 hf rfl rfl ⟨none,0,rfl,hc⟩
  ·refine wp_skip ?_
   refine h3 _ _ ?_
   refine wp_seq_k fun K6 h6 => noneO hF
 | inr r_1 =>
  replace hF := sumKr hF
  have hr_1 := hr_0
  refine zC hf en_44 rfl (daily_agreed_ok r h_r_Days hc hr_1) ?_
  rintro _ w ⟨b_2,p_1,c_1,rfl,hc⟩
  refine ⟨_,rfl,fun a hf => ?_⟩
  refine sp 5 hf rfl fun a hf => zT h ?_
  refine wp_seq_k fun K7 h7 => zS fun K h => sp 2 hf rfl fun a hf => zT h ?_
  refine zI hf rfl hF ?_ ?_ <;> clear hF <;> intro hF
  ·refine zS fun K h => sp 3 hf rfl fun a hf => zT h ?_
   refine wp_ret ?_
   refine xThenR ?_
   obtain rfl := sj hF
   replace hc := hc.nilRow 71 2
   replace hc := ((hc.drop k3).drop k2).drop k1
   exact zO2 Try.results24 hf rfl rfl ⟨none,0,rfl,hc⟩
  ·refine wp_skip ?_
   refine h7 _ _ ?_
   refine zS fun K h => sp 2 hf rfl fun a hf => zP hf rfl (pFA fa_98_1 rfl) fun a hf => zL hf hc sc_63 m1 rfl fun a w hf hc => sp 2 hf rfl fun a hf => zT h ?_
   refine wp_ret ?_
   obtain rfl := sj hF
   replace hc := (hc.drop k2).drop k1
   exact zO2 Try.results24 hf rfl rfl ⟨p_1,c_1,rfl,hc⟩

def daily_both  : Unit :=
 ()
theorem daily_both_ok {G : Pers} {Lf : List Ent} {w : World}    (hc : Ctx G (Lf) w) {res : Unit} (hF : daily_both = res) : Calls Try.prog 47 #[] w (fun e w => e = .returned (.agg #[.func (.func 73) #[] #[],.func (.func 74) #[] #[]]) ∧ Ctx G (Lf) w) := by
 unfold daily_both at hF
 refine fnIn Try.func47 rfl Try.ntmps47 rfl fun a hf => zS fun K h => zA hf hc zr_106 rfl fun b_1 a w hf hc => zT h ?_
 refine zS fun K h => zP hf rfl (pBuildS (cells := [.func (.func 73) #[] #[]]) bt_105 rfl rfl) fun a hf => zP hf rfl (pBuildS (cells := [.func (.func 74) #[] #[]]) bt_105 rfl rfl) fun a hf => zP hf rfl (pBuild (cells := [.func (.func 73) #[] #[],.func (.func 74) #[] #[]]) rfl (by rfl)) fun a hf => zW hf hc sz_106 u0 rfl fun w hc => zT h ?_
 refine wp_ret ?_
 obtain rfl := hF
 exact fnOut1 (by simp) rfl Try.results47 hf hc (rv_cellN (vs := [.func (.func 73) #[] #[],.func (.func 74) #[] #[]]) ag_106 rfl rfl (cells_box (n := 2) m0 rfl)) ⟨rfl,(hc.drop k0)⟩

def daily_both_1 (s_ : api_Span) : Int :=
 s_.Lo
theorem daily_both_1_ok {G : Pers} {Lf : List Ent} {w : World} (s_ : api_Span)   (hc : Ctx G (Lf) w) {res : Int} (hF : daily_both_1 s_ = res) : Calls Try.prog 73 #[.agg #[i6 s_.Lo,i6 s_.Hi]] w (fun e w => e = .returned (i6 res) ∧ Ctx G (Lf) w) := by
 unfold daily_both_1 at hF
 refine fnIn Try.func73 rfl Try.ntmps73 rfl fun a hf => zS fun K h => zB hf hc rfl fun b_1 a w hf hc => sp 1 hf rfl fun a hf => zT h ?_
 refine zS fun K h => zP hf rfl (pFA fa_71_0 rfl) fun a hf => zL hf hc sc_3 m0 rfl fun a w hf hc => sp 1 hf rfl fun a hf => zT h ?_
 refine wp_ret ?_
 obtain rfl := hF
 replace hc := hc.drop k0
 exact zO1 Try.results73 hf rfl ⟨rfl,hc⟩

def daily_ends_b5 (N : Nat) (l : List api_Span) (out : List Int) (x : Int) : Option (Step ((List Int) × Int) ((List Int))) :=
 cond (decide (x < ((l.length : Nat) : Int)))
 (Option.bind (getI l x) fun e_1 =>
 Option.bind (room ((out ++ [(daily_both_1 e_1)])).length) fun un =>
 some (.cont ((out ++ [(daily_both_1 e_1)]),W (x + 1))))
 (some (.brk (out,x)))
def daily_ends (N : Nat) (l : List api_Span) : Option ((List Int)) :=
 Option.bind (loopO (fun s5 => daily_ends_b5 N l s5.1 s5.2) N (([] : List Int),0)) fun x5 =>
 exK x5 (fun s5 => some s5.1) some
theorem daily_ends_ok {N : Nat} {G : Pers} {Lf : List Ent} {w : World} (l : List api_Span) {l_p : Option Addr} {l_c : Nat} (h_l : Rd G 2 l_p l_c (l.map enc_api_Span)) (hc : Ctx G (Lf) w) {res : (List Int)} (hF : daily_ends N l = some res) : Calls Try.prog 49 #[.slice l_p l.length l_c,.agg #[.func (.func 73) #[] #[]]] w (fun e w => ∃ (p'1 : Option Addr) (c'1 : Nat),e = .returned (.slice p'1 res.length c'1) ∧ Ctx G (.row p'1 c'1 (res.map encI_i64) 3 1::Lf) w) := by
 unfold daily_ends at hF
 refine fnIn Try.func49 rfl Try.ntmps49 rfl fun a hf => zS fun K h => zB hf hc rfl fun b_1 a w hf hc => sp 1 hf rfl fun a hf => zT h ?_
 refine zS fun K h => sp 1 hf rfl fun a hf => zT h ?_
 refine wp_seq_k fun K3 h3 => zS fun K h => sp 1 hf rfl fun a hf => zP hf rfl (pLenS Try.underlying63 rfl) fun a hf => sp 1 hf rfl fun a hf => zT h ?_
 refine wp_block ?_
 obtain ⟨x5,hx5,hF⟩ := bnd_some hF
 let S5 : ((List Int) × Int) → Act → World → Prop := (fun (zz : (List Int) × Int) a w => ∃ (p_1 : Option Addr) (c_1 : Nat),Has 23 a [(3,pq b_1),(5,.slice p_1 zz.1.length c_1),(8,.slice l_p l.length l_c),(9,i6 ((l.length : Nat) : Int)),(10,i6 zz.2)] ∧ Ctx G (.row p_1 c_1 (zz.1.map encI_i64) 3 1::.box b_1 [.func (.func 73) #[] #[]] 105::Lf) w)
 have hr5 : ∀ (zz : (List Int) × Int) a w,x5 = .go zz → S5 zz a w → K3 a w := by
  rintro ⟨out,x⟩ a w rfl ⟨p_1,c_1,hf,hc⟩
  replace hF := exK_go hF
  refine h3 _ _ ?_
  refine zS fun K h => sp 2 hf rfl fun a hf => zT h ?_
  refine wp_ret ?_
  obtain rfl := sj hF
  replace hc := hc.drop k1
  exact zO1 Try.results49 hf rfl ⟨p_1,c_1,rfl,hc⟩
 have ho5 : ∀ r,x5 = .out r → r = res := by
  rintro r rfl
  exact sj hF
 replace hc := hc.nilRow 3 1
 refine cLoop N (loopW (S := S5) (x := x5) ?_ N (([] : List Int),0) _ _ ⟨none,0,hf.kp rfl,hc⟩ hx5)
 clear hF hf hc
 rintro ⟨out,x⟩ st5 a w KB5 ⟨p_1,c_1,hf,hc⟩ hF hfin5 hK5
 unfold daily_ends_b5 at hF
 refine zS fun K h => sp 1 hf rfl fun a hf => zT h ?_
 refine wp_seq_k fun K8 h8 => zI hf rfl hF ?_ ?_ <;> clear hF <;> intro hF
 ·refine wp_skip ?_
  refine h8 _ _ ?_
  refine wp_seq_k fun K9 h9 => wp_block ?_
  refine zS fun K h => ?_
  obtain ⟨e_1,he_1,hF⟩ := bnd_some hF
  obtain ⟨b_2,o,qa,qp⟩ := h_l.atm he_1
  refine zP hf rfl (pIA Try.underlying63 sz_71 rfl rfl qa) fun a hf => zE hf hc rfl (eLdN (vs := [i6 e_1.Lo,i6 e_1.Hi]) ag_71 rfl rfl (cells_pc qp (n := 2) (o' := 0) rfl)) fun a w hf hc => zA hf hc zr_71 rfl fun b_3 a w hf hc => zW hf hc sz_71 u0 rfl fun w hc => zT h ?_
  refine cReg ?_
  refine sp 1 hf rfl fun a hf => zP hf rfl (pFA fa_105_0 rfl) fun a hf => zL hf hc sc_103 m2 rfl fun a w hf hc => zN hf hc ag_71 m0 rfl fun a w hf hc => zQ (v := i6 (daily_both_1 e_1)) hf hc en_73 rfl (fun w hc => daily_both_1_ok e_1 hc rfl) fun a w hf hc => stBS (rows := ([(daily_both_1 e_1)] : List Int).map encI_i64) (vs := [(0,i6 (daily_both_1 e_1))]) hf hc rfl rfl sl_27 rfl ⟨rfl,rfl,rfl,trivial⟩ rfl rfl fun b_4 a w hf hc => ?_
  obtain ⟨un,hun,hF⟩ := bnd_some hF
  refine stApm (xs := out) (ys := ([(daily_both_1 e_1)] : List Int)) hf hc rfl rfl sl_27 rfl rfl rfl rfl rfl one_encI_i64 (src_row hc m0) (fun _ _ => u2) (by simpa using room_spec hun) fun p_2 c_2 a w hf hc => sp 1 hf rfl fun a hf => cNil ?_
  refine h9 _ _ ?_
  refine cReg ?_
  refine sp 2 hf rfl fun a hf => cNil ?_
  replace hc := (hc.drop k1).drop k0
  exact hK5 ((out ++ [(daily_both_1 e_1)]),W (x + 1)) _ _ (sj hF).symm ⟨p_2,c_2,hf.kp rfl,hc⟩
 ·refine wp_exit ?_
  refine xThen ?_
  refine xThen ?_
  have he := sj hF
  rw [← he] at hfin5
  refine cHit ?_
  exact hr5 _ _ _ hfin5 ⟨p_1,c_1,hf.kp rfl,hc⟩

def daily_sum_b5 (N : Nat) (l : List Int) (out : Int) (x : Int) : Option (Step (Int × Int) (Int)) :=
 cond (decide (x < ((l.length : Nat) : Int)))
 (Option.bind (getI l x) fun e_1 =>
 some (.cont (W (out + e_1),W (x + 1))))
 (some (.brk (out,x)))
def daily_sum (N : Nat) (l : List Int) : Option (Int) :=
 Option.bind (loopO (fun s5 => daily_sum_b5 N l s5.1 s5.2) N (0,0)) fun x5 =>
 exK x5 (fun s5 => some s5.1) some
theorem daily_sum_ok {N : Nat} {G : Pers} {Lf : List Ent} {w : World} (l : List Int) {l_p : Option Addr} {l_c : Nat} (h_l : Rd G 1 l_p l_c (l.map encI_i64)) (hc : Ctx G (Lf) w) {res : Int} (hF : daily_sum N l = some res) : Calls Try.prog 48 #[.slice l_p l.length l_c] w (fun e w => e = .returned (i6 res) ∧ Ctx G (Lf) w) := by
 unfold daily_sum at hF
 refine fnIn Try.func48 rfl Try.ntmps48 rfl fun a hf => zS fun K h => sp 1 hf rfl fun a hf => zT h ?_
 refine zS fun K h => sp 1 hf rfl fun a hf => zT h ?_
 refine wp_seq_k fun K3 h3 => zS fun K h => sp 1 hf rfl fun a hf => zP hf rfl (pLenS Try.underlying27 rfl) fun a hf => sp 1 hf rfl fun a hf => zT h ?_
 refine wp_block ?_
 obtain ⟨x5,hx5,hF⟩ := bnd_some hF
 let S5 : (Int × Int) → Act → World → Prop := (fun (zz : Int × Int) a w => Has 17 a [(3,i6 zz.1),(6,.slice l_p l.length l_c),(7,i6 ((l.length : Nat) : Int)),(8,i6 zz.2)] ∧ Ctx G (Lf) w)
 have hr5 : ∀ (zz : Int × Int) a w,x5 = .go zz → S5 zz a w → K3 a w := by
  rintro ⟨out,x⟩ a w rfl ⟨hf,hc⟩
  replace hF := exK_go hF
  refine h3 _ _ ?_
  refine zS fun K h => sp 2 hf rfl fun a hf => zT h ?_
  refine wp_ret ?_
  obtain rfl := sj hF
  exact zO1 Try.results48 hf rfl ⟨rfl,hc⟩
 have ho5 : ∀ r,x5 = .out r → r = res := by
  rintro r rfl
  exact sj hF
 refine cLoop N (loopW (S := S5) (x := x5) ?_ N (0,0) _ _ ⟨hf.kp rfl,hc⟩ hx5)
 clear hF hf hc
 rintro ⟨out,x⟩ st5 a w KB5 ⟨hf,hc⟩ hF hfin5 hK5
 unfold daily_sum_b5 at hF
 refine zS fun K h => sp 1 hf rfl fun a hf => zT h ?_
 refine wp_seq_k fun K8 h8 => zI hf rfl hF ?_ ?_ <;> clear hF <;> intro hF
 ·refine wp_skip ?_
  refine h8 _ _ ?_
  refine wp_seq_k fun K9 h9 => wp_block ?_
  refine zS fun K h => ?_
  obtain ⟨e_1,he_1,hF⟩ := bnd_some hF
  obtain ⟨b_1,o,qa,qp⟩ := h_l.atm he_1
  refine zP hf rfl (pIA Try.underlying27 sz_3 rfl rfl qa) fun a hf => zE hf hc rfl (eLd1 sc_3 rfl (cell_pc (j := 0) qp rfl)) fun a w hf hc => sp 1 hf rfl fun a hf => zT h ?_
  refine cReg ?_
  refine sp 4 hf rfl fun a hf => cNil ?_
  refine h9 _ _ ?_
  refine cReg ?_
  refine sp 2 hf rfl fun a hf => cNil ?_
  exact hK5 (W (out + e_1),W (x + 1)) _ _ (sj hF).symm ⟨hf.kp rfl,hc⟩
 ·refine wp_exit ?_
  refine xThen ?_
  refine xThen ?_
  have he := sj hF
  rw [← he] at hfin5
  refine cHit ?_
  exact hr5 _ _ _ hfin5 ⟨hf.kp rfl,hc⟩

def daily_both_2 (s_ : api_Span) : Int :=
 s_.Hi
theorem daily_both_2_ok {G : Pers} {Lf : List Ent} {w : World} (s_ : api_Span)   (hc : Ctx G (Lf) w) {res : Int} (hF : daily_both_2 s_ = res) : Calls Try.prog 74 #[.agg #[i6 s_.Lo,i6 s_.Hi]] w (fun e w => e = .returned (i6 res) ∧ Ctx G (Lf) w) := by
 unfold daily_both_2 at hF
 refine fnIn Try.func74 rfl Try.ntmps74 rfl fun a hf => zS fun K h => zB hf hc rfl fun b_1 a w hf hc => sp 1 hf rfl fun a hf => zT h ?_
 refine zS fun K h => zP hf rfl (pFA fa_71_1 rfl) fun a hf => zL hf hc sc_3 m0 rfl fun a w hf hc => sp 1 hf rfl fun a hf => zT h ?_
 refine wp_ret ?_
 obtain rfl := hF
 replace hc := hc.drop k0
 exact zO1 Try.results74 hf rfl ⟨rfl,hc⟩

def daily_ends_s2_b5 (N : Nat) (l : List api_Span) (out : List Int) (x : Int) : Option (Step ((List Int) × Int) ((List Int))) :=
 cond (decide (x < ((l.length : Nat) : Int)))
 (Option.bind (getI l x) fun e_1 =>
 Option.bind (room ((out ++ [(daily_both_2 e_1)])).length) fun un =>
 some (.cont ((out ++ [(daily_both_2 e_1)]),W (x + 1))))
 (some (.brk (out,x)))
def daily_ends_s2 (N : Nat) (l : List api_Span) : Option ((List Int)) :=
 Option.bind (loopO (fun s5 => daily_ends_s2_b5 N l s5.1 s5.2) N (([] : List Int),0)) fun x5 =>
 exK x5 (fun s5 => some s5.1) some
theorem daily_ends_s2_ok {N : Nat} {G : Pers} {Lf : List Ent} {w : World} (l : List api_Span) {l_p : Option Addr} {l_c : Nat} (h_l : Rd G 2 l_p l_c (l.map enc_api_Span)) (hc : Ctx G (Lf) w) {res : (List Int)} (hF : daily_ends_s2 N l = some res) : Calls Try.prog 49 #[.slice l_p l.length l_c,.agg #[.func (.func 74) #[] #[]]] w (fun e w => ∃ (p'1 : Option Addr) (c'1 : Nat),e = .returned (.slice p'1 res.length c'1) ∧ Ctx G (.row p'1 c'1 (res.map encI_i64) 3 1::Lf) w) := by
 unfold daily_ends_s2 at hF
 refine fnIn Try.func49 rfl Try.ntmps49 rfl fun a hf => zS fun K h => zB hf hc rfl fun b_1 a w hf hc => sp 1 hf rfl fun a hf => zT h ?_
 refine zS fun K h => sp 1 hf rfl fun a hf => zT h ?_
 refine wp_seq_k fun K3 h3 => zS fun K h => sp 1 hf rfl fun a hf => zP hf rfl (pLenS Try.underlying63 rfl) fun a hf => sp 1 hf rfl fun a hf => zT h ?_
 refine wp_block ?_
 obtain ⟨x5,hx5,hF⟩ := bnd_some hF
 let S5 : ((List Int) × Int) → Act → World → Prop := (fun (zz : (List Int) × Int) a w => ∃ (p_1 : Option Addr) (c_1 : Nat),Has 23 a [(3,pq b_1),(5,.slice p_1 zz.1.length c_1),(8,.slice l_p l.length l_c),(9,i6 ((l.length : Nat) : Int)),(10,i6 zz.2)] ∧ Ctx G (.row p_1 c_1 (zz.1.map encI_i64) 3 1::.box b_1 [.func (.func 74) #[] #[]] 105::Lf) w)
 have hr5 : ∀ (zz : (List Int) × Int) a w,x5 = .go zz → S5 zz a w → K3 a w := by
  rintro ⟨out,x⟩ a w rfl ⟨p_1,c_1,hf,hc⟩
  replace hF := exK_go hF
  refine h3 _ _ ?_
  refine zS fun K h => sp 2 hf rfl fun a hf => zT h ?_
  refine wp_ret ?_
  obtain rfl := sj hF
  replace hc := hc.drop k1
  exact zO1 Try.results49 hf rfl ⟨p_1,c_1,rfl,hc⟩
 have ho5 : ∀ r,x5 = .out r → r = res := by
  rintro r rfl
  exact sj hF
 replace hc := hc.nilRow 3 1
 refine cLoop N (loopW (S := S5) (x := x5) ?_ N (([] : List Int),0) _ _ ⟨none,0,hf.kp rfl,hc⟩ hx5)
 clear hF hf hc
 rintro ⟨out,x⟩ st5 a w KB5 ⟨p_1,c_1,hf,hc⟩ hF hfin5 hK5
 unfold daily_ends_s2_b5 at hF
 refine zS fun K h => sp 1 hf rfl fun a hf => zT h ?_
 refine wp_seq_k fun K8 h8 => zI hf rfl hF ?_ ?_ <;> clear hF <;> intro hF
 ·refine wp_skip ?_
  refine h8 _ _ ?_
  refine wp_seq_k fun K9 h9 => wp_block ?_
  refine zS fun K h => ?_
  obtain ⟨e_1,he_1,hF⟩ := bnd_some hF
  obtain ⟨b_2,o,qa,qp⟩ := h_l.atm he_1
  refine zP hf rfl (pIA Try.underlying63 sz_71 rfl rfl qa) fun a hf => zE hf hc rfl (eLdN (vs := [i6 e_1.Lo,i6 e_1.Hi]) ag_71 rfl rfl (cells_pc qp (n := 2) (o' := 0) rfl)) fun a w hf hc => zA hf hc zr_71 rfl fun b_3 a w hf hc => zW hf hc sz_71 u0 rfl fun w hc => zT h ?_
  refine cReg ?_
  refine sp 1 hf rfl fun a hf => zP hf rfl (pFA fa_105_0 rfl) fun a hf => zL hf hc sc_103 m2 rfl fun a w hf hc => zN hf hc ag_71 m0 rfl fun a w hf hc => zQ (v := i6 (daily_both_2 e_1)) hf hc en_74 rfl (fun w hc => daily_both_2_ok e_1 hc rfl) fun a w hf hc => stBS (rows := ([(daily_both_2 e_1)] : List Int).map encI_i64) (vs := [(0,i6 (daily_both_2 e_1))]) hf hc rfl rfl sl_27 rfl ⟨rfl,rfl,rfl,trivial⟩ rfl rfl fun b_4 a w hf hc => ?_
  obtain ⟨un,hun,hF⟩ := bnd_some hF
  refine stApm (xs := out) (ys := ([(daily_both_2 e_1)] : List Int)) hf hc rfl rfl sl_27 rfl rfl rfl rfl rfl one_encI_i64 (src_row hc m0) (fun _ _ => u2) (by simpa using room_spec hun) fun p_2 c_2 a w hf hc => sp 1 hf rfl fun a hf => cNil ?_
  refine h9 _ _ ?_
  refine cReg ?_
  refine sp 2 hf rfl fun a hf => cNil ?_
  replace hc := (hc.drop k1).drop k0
  exact hK5 ((out ++ [(daily_both_2 e_1)]),W (x + 1)) _ _ (sj hF).symm ⟨p_2,c_2,hf.kp rfl,hc⟩
 ·refine wp_exit ?_
  refine xThen ?_
  refine xThen ?_
  have he := sj hF
  rw [← he] at hfin5
  refine cHit ?_
  exact hr5 _ _ _ hfin5 ⟨p_1,c_1,hf.kp rfl,hc⟩

def daily_Volume (N : Nat) (r : daily_Record) (from_ : Int) (to_ : Int) : Option (api_Span × Int) :=
 Option.bind (daily_Check N r) fun r_0 =>
 cond (r_0 != 0)
 (some ((⟨0,0⟩ : api_Span),r_0))
 (cond ((!(daily_in from_ 0 to_)) || (decide (((r.Days.length : Nat) : Int) ≤ to_)))
 (some ((⟨0,0⟩ : api_Span),2))
 (Option.bind (daily_agreed N r) (sumK (fun r_1 => cond (r_1 != 0)
 (some ((⟨0,0⟩ : api_Span),r_1))
 (none))
 (fun r_2 => cond (r_2.2.2.2 != 0)
 (some ((⟨0,0⟩ : api_Span),r_2.2.2.2))
 (Option.bind (subO r_2.2.2.1 from_ (W (to_ + 1))) fun sub =>
 Option.bind (daily_ends N sub) fun r_3 =>
 Option.bind (daily_sum N r_3) fun r_4 =>
 Option.bind (daily_ends_s2 N sub) fun r_5 =>
 Option.bind (daily_sum N r_5) fun r_6 =>
 some ((⟨r_4,r_6⟩ : api_Span),0))))))
theorem daily_Volume_ok {N : Nat} {G : Pers} {Lf : List Ent} {w : World} (r : daily_Record) (from_ : Int) (to_ : Int) {r_Days_p : Option Addr} {r_Days_c : Nat} (h_r_Days : Rd G 3 r_Days_p r_Days_c (r.Days.map enc_daily_Value)) (hc : Ctx G (Lf) w) {res : api_Span × Int} (hF : daily_Volume N r from_ to_ = some res) : Calls Try.prog 26 #[.agg #[i6 r.Rise,i6 r.Fall,.slice r_Days_p r.Days.length r_Days_c],i6 from_,i6 to_] w (fun e w => e = .returned (.tuple #[.agg #[i6 res.1.Lo,i6 res.1.Hi],i6 res.2]) ∧ Ctx G (Lf) w) := by
 unfold daily_Volume at hF
 refine fnIn Try.func26 rfl Try.ntmps26 rfl fun a hf => zS fun K h => zB hf hc rfl fun b_1 a w hf hc => zA hf hc zr_71 rfl fun b_2 a w hf hc => sp 1 hf rfl fun a hf => zT h ?_
 refine wp_seq_k fun K2 h2 => zS fun K h => zN hf hc ag_68 m1 rfl fun a w hf hc => ?_
 obtain ⟨r_0,hr_0,hF⟩ := bnd_some hF
 refine zQ (v := i6 r_0) hf hc en_46 rfl (fun w hc => daily_Check_ok r h_r_Days hc hr_0) fun a w hf hc => sp 1 hf rfl fun a hf => zT h ?_
 refine zS fun K h => sp 2 hf rfl fun a hf => zT h ?_
 refine zI hf rfl hF ?_ ?_ <;> clear hF <;> intro hF
 ·refine zS fun K h => zP hf rfl (pBuildS (cells := [i6 0,i6 0]) bt_71 rfl rfl) fun a hf => sp 1 hf rfl fun a hf => zW hf hc sz_71 u0 rfl fun w hc => sp 1 hf rfl fun a hf => zT h ?_
  refine wp_ret ?_
  refine xThenR ?_
  obtain rfl := sj hF
  replace hc := hc.drop k1
  exact fnOut2 (by simp) rfl Try.results26 hf hc (rv_cellN (vs := [i6 0,i6 0]) ag_71 rfl rfl (cells_box (n := 2) m0 rfl)) (show look _ 7 = _ from rfl) ⟨rfl,(hc.drop k0)⟩
 ·refine wp_skip ?_
  refine h2 _ _ ?_
  refine wp_seq_k fun K6 h6 => zS fun K h => sp 2 hf rfl fun a hf => zQ (v := .bool (daily_in from_ 0 to_)) hf hc en_20 rfl (fun w hc => daily_in_ok from_ 0 to_ hc rfl) fun a w hf hc => sp 2 hf rfl fun a hf => stCc 6 (fun a => Has 60 a [(1,i6 from_),(2,i6 to_),(3,pq b_1),(6,pq b_2),(19,i6 from_),(20,i6 to_),(21,.bool (daily_in from_ 0 to_)),(22,.bool (!(daily_in from_ 0 to_))),(23,.bool (!(daily_in from_ 0 to_))),(29,.bool ((!(daily_in from_ 0 to_)) || (decide (((r.Days.length : Nat) : Int) ≤ to_))))]) hc ?_ ?_
  ·cases hb : (!(daily_in from_ 0 to_))
   ·rw [hb] at hf
    refine sp 1 hf rfl fun a hf => zP hf rfl (pFA fa_68_2 rfl) fun a hf => zL hf hc sc_66 m1 rfl fun a w hf hc => zP hf rfl (pLenS Try.underlying66 rfl) fun a hf => sp 2 hf rfl fun a hf => cNil ⟨hf.kp rfl,hc⟩
   ·rw [hb] at hf
    refine stS hf rfl rfl rfl fun a hf => stS hf rfl rfl rfl fun a hf => stS hf rfl rfl rfl fun a hf => stS hf rfl rfl rfl fun a hf => stS hf rfl rfl rfl fun a hf => sp 1 hf rfl fun a hf => cNil ⟨hf.kp rfl,hc⟩
  intro a w ⟨hf,hc⟩
  refine zT h ?_
  refine zI hf rfl hF ?_ ?_ <;> clear hF <;> intro hF
  ·refine zS fun K h => zP hf rfl (pBuildS (cells := [i6 0,i6 0]) bt_71 rfl rfl) fun a hf => zW hf hc sz_71 u0 rfl fun w hc => sp 1 hf rfl fun a hf => zT h ?_
   refine wp_ret ?_
   refine xThenR ?_
   obtain rfl := sj hF
   replace hc := hc.drop k1
   exact fnOut2 (by simp) rfl Try.results26 hf hc (rv_cellN (vs := [i6 0,i6 0]) ag_71 rfl rfl (cells_box (n := 2) m0 rfl)) (show look _ 7 = _ from rfl) ⟨rfl,(hc.drop k0)⟩
  ·refine wp_skip ?_
   refine h6 _ _ ?_
   refine zS fun K h => zN hf hc ag_68 m1 rfl fun a w hf hc => ?_
   obtain ⟨r_1,hr_1,hF⟩ := bnd_some hF
   cases r_1 with
   | inl r_1 =>
    replace hF := sumKl hF
    refine zC hf en_44 rfl (daily_agreed_ok r h_r_Days hc hr_1) ?_
    rintro _ w ⟨rfl,hc⟩
    refine ⟨_,rfl,fun a hf => ?_⟩
    refine sp 5 hf rfl fun a hf => zT h ?_
    refine wp_seq_k fun K10 h10 => zS fun K h => sp 2 hf rfl fun a hf => zT h ?_
    refine zI hf rfl hF ?_ ?_ <;> clear hF <;> intro hF
    ·refine zS fun K h => zP hf rfl (pBuildS (cells := [i6 0,i6 0]) bt_71 rfl rfl) fun a hf => sp 1 hf rfl fun a hf => zW hf hc sz_71 u0 rfl fun w hc => sp 1 hf rfl fun a hf => zT h ?_
     refine wp_ret ?_
     refine xThenR ?_
     obtain rfl := sj hF
     replace hc := hc.drop k1
     exact fnOut2 (by simp) rfl Try.results26 hf hc (rv_cellN (vs := [i6 0,i6 0]) ag_71 rfl rfl (cells_box (n := 2) m0 rfl)) (show look _ 7 = _ from rfl) ⟨rfl,(hc.drop k0)⟩
    ·refine wp_skip ?_
     refine h10 _ _ ?_
     refine wp_seq_k fun K13 h13 => noneO hF
   | inr r_2 =>
    replace hF := sumKr hF
    have hr_2 := hr_1
    refine zC hf en_44 rfl (daily_agreed_ok r h_r_Days hc hr_2) ?_
    rintro _ w ⟨b_3,p_1,c_1,rfl,hc⟩
    refine ⟨_,rfl,fun a hf => ?_⟩
    refine sp 5 hf rfl fun a hf => zT h ?_
    refine wp_seq_k fun K14 h14 => zS fun K h => sp 2 hf rfl fun a hf => zT h ?_
    refine zI hf rfl hF ?_ ?_ <;> clear hF <;> intro hF
    ·refine zS fun K h => zP hf rfl (pBuildS (cells := [i6 0,i6 0]) bt_71 rfl rfl) fun a hf => sp 1 hf rfl fun a hf => zW hf hc sz_71 u2 rfl fun w hc => sp 1 hf rfl fun a hf => zT h ?_
     refine wp_ret ?_
     refine xThenR ?_
     obtain rfl := sj hF
     replace hc := ((hc.drop k3).drop k1).drop k0
     exact fnOut2 (by simp) rfl Try.results26 hf hc (rv_cellN (vs := [i6 0,i6 0]) ag_71 rfl rfl (cells_box (n := 2) m0 rfl)) (show look _ 7 = _ from rfl) ⟨rfl,(hc.drop k0)⟩
    ·refine wp_skip ?_
     refine h14 _ _ ?_
     refine wp_seq_k fun K17 h17 => ?_
     have qc := row_cap hc m0
     obtain ⟨sub,hsub,hF⟩ := bnd_some hF
     replace hc := hc.nilRow 0 0
     refine regionE (fun θ => [⟨none,none,1,i6 from_⟩,⟨none,none,2,i6 to_⟩,⟨none,none,6,pq b_2⟩,⟨none,none,9,pq b_3⟩,⟨some 0,none,40,pq b_3⟩,⟨some 1,none,41,pq b_3⟩,⟨some 2,none,42,.pointer (some ⟨b_3,3,none⟩)⟩,⟨some 3,none,43,.slice p_1 r_2.2.2.1.length c_1⟩,⟨some 4,none,44,i6 from_⟩,⟨some 5,none,45,i6 to_⟩,⟨some 6,none,46,i6 (W (to_ + 1))⟩,⟨some 7,none,47,.slice (subP p_1 c_1 from_.toNat 2) sub.length (c_1 - from_.toNat)⟩,⟨some 8,none,48,.agg #[.func (.func 73) #[] #[],.func (.func 74) #[] #[]]⟩,⟨some 9,none,12,.pointer (some ⟨(θ 72).b,0,none⟩)⟩,⟨some 10,none,11,.slice (subP p_1 c_1 from_.toNat 2) sub.length (c_1 - from_.toNat)⟩]) (fun E θ => (bif E 11 then .box (θ 72).b [.func (.func 73) #[] #[],.func (.func 74) #[] #[]] 106 else bif E 9 then .box (θ 72).b [.nilFunc,.nilFunc] 106 else .row none 0 [] 0 0)::.row p_1 c_1 (r_2.2.2.1.map enc_api_Span) 71 2::.box b_3 [i6 r_2.1,i6 r_2.2.1,.slice r_Days_p r.Days.length r_Days_c,.slice p_1 r_2.2.2.1.length c_1] 98::.box b_2 [i6 0,i6 0] 71::.box b_1 [i6 r.Rise,i6 r.Fall,.slice r_Days_p r.Days.length r_Days_c] 68::Lf) [(11,9)] (fun a w => ∃ (b_5 : Nat),Has 60 a [(6,pq b_2),(12,pq b_5),(11,.slice (subP p_1 c_1 from_.toNat 2) sub.length (c_1 - from_.toNat))] ∧ Ctx G (.box b_5 [.func (.func 73) #[] #[],.func (.func 74) #[] #[]] 106::.row p_1 c_1 (r_2.2.2.1.map enc_api_Span) 71 2::.box b_3 [i6 r_2.1,i6 r_2.2.1,.slice r_Days_p r.Days.length r_Days_c,.slice p_1 r_2.2.2.1.length c_1] 98::.box b_2 [i6 0,i6 0] 71::.box b_1 [i6 r.Rise,i6 r.Fall,.slice r_Days_p r.Days.length r_Days_c] 68::Lf) w) follows_mx (by kernel_rfl) (by kernel_rfl) (HasE.of hf ⟨rfl,rfl,rfl,rfl,trivial,trivial,trivial,trivial,trivial,trivial,trivial,trivial,trivial,trivial,trivial,trivial⟩) hc ⟨?_,?_,?_,?_,?_,?_,?_,?_,?_,?_,?_,?_,trivial⟩ ?_ ?_
     ·intro E θ a w hD hi hp he hc
      have hf := he.h0.mT he 3 rfl
      refine sp 1 hf rfl fun a hf => zD θ he hi hf 4 rfl rfl rfl hc
     ·intro E θ a w hD hi hp he hc
      have e0 := hp.o 0 rfl
      have hf := he.h0.mP he 4 rfl e0
      refine sp 1 hf rfl fun a hf => zD θ he hi hf 5 rfl rfl rfl hc
     ·intro E θ a w hD hi hp he hc
      have e1 := hp.o 1 rfl
      have hf := he.h0.mP he 5 rfl e1
      refine zP hf rfl (pFA fa_98_1 rfl) fun a hf => zD θ he hi hf 6 rfl rfl rfl hc
     ·intro E θ a w hD hi hp he hc
      have e2 := hp.o 2 rfl
      have hf := he.h0.mP he 6 rfl e2
      refine zL hf hc sc_63 m2 rfl fun a w hf hc => zD θ he hi hf 7 rfl rfl rfl hc
     ·intro E θ a w hD hi hp he hc
      have hf := he.h0.mT he 0 rfl
      refine sp 1 hf rfl fun a hf => zD θ he hi hf 8 rfl rfl rfl hc
     ·intro E θ a w hD hi hp he hc
      have hf := he.h0.mT he 1 rfl
      refine sp 1 hf rfl fun a hf => zD θ he hi hf 9 rfl rfl rfl hc
     ·intro E θ a w hD hi hp he hc
      have e5 := hp.o 5 rfl
      have hf := he.h0.mP he 9 rfl e5
      refine sp 1 hf rfl fun a hf => zD θ he hi hf 10 rfl rfl rfl hc
     ·intro E θ a w hD hi hp he hc
      have e3 := hp.o 3 rfl
      have e4 := hp.o 4 rfl
      have e6 := hp.o 6 rfl
      have hf := ((he.h0.mP he 7 rfl e3).mP he 8 rfl e4).mP he 10 rfl e6
      refine zP hf rfl (pSl Try.underlying63 sz_71 rfl rfl qc rfl rfl hsub) fun a hf => zD θ he hi hf 11 rfl rfl rfl hc
     ·intro E θ a w hD hi hp he hc
      have hf := he.h0
      refine zQ (v := .agg #[.func (.func 73) #[] #[],.func (.func 74) #[] #[]]) hf hc en_47 rfl (fun w hc => daily_both_ok hc rfl) fun a w hf hc => zD θ he hi hf 12 rfl rfl rfl hc
     ·intro E θ a w hD hi hp he hc
      have e11 := hD.f 0 rfl hi
      try dsimp only at hc
      rw [hi,e11] at hc
      have hf := he.h0
      refine zA hf hc zr_106 rfl fun b_4 a w hf hc => cNil ?_
      refine xThenN ?_
      intro ds u hau
      replace hc := hc.drop k1
      refine ⟨(setT θ 72 ⟨b_4,none,0,(fun _ => (none,0))⟩),he.put hi hau hf rfl [] trivial ⟨qq,qq,qq,qq,qq,qq,qq,qq,qq,qq,qq,qq,qq,qq,qq,trivial⟩,?_⟩
      try dsimp only
      rw [updE_self E 9,updE_fls 9 e11 rfl]
      exact hc
     ·intro E θ a w hD hi hp he hc
      have e7 := hp.o 7 rfl
      have hf := he.h0.mP he 11 rfl e7
      refine sp 1 hf rfl fun a hf => zD θ he hi hf 14 rfl rfl rfl hc
     ·intro E θ a w hD hi hp he hc
      have e8 := hp.o 8 rfl
      have e9 := hp.o 9 rfl
      try dsimp only at hc
      rw [e9,hi] at hc
      have hf := (he.h0.mP he 12 rfl e8).mP he 13 rfl e9
      refine zW hf hc sz_106 u0 rfl fun w hc => zG θ he hi hf rfl ?_
      try dsimp only
      rw [updE_tru 11 e9,updE_self E 11]
      exact hc
     ·intro E θ a w hall he hc
      have hf := he.h0
      have e9 := hall 9 rfl
      have e10 := hall 10 rfl
      have e11 := hall 11 rfl
      replace hf := hf.more he 14 rfl (onP e10)
      replace hf := hf.more he 13 rfl (onP e9)
      replace hf := hf.more he 2 rfl (onT)
      try dsimp only at hc
      rw [e9,e11] at hc
      exact ⟨(θ 72).b,hf.kp rfl,hc⟩
     rintro a w ⟨b_5,hf,hc⟩
     refine h17 _ _ ?_
     refine wp_seq_k fun K18 h18 => ?_
     obtain ⟨r_3,hr_3,hF⟩ := bnd_some hF
     obtain ⟨r_4,hr_4,hF⟩ := bnd_some hF
     obtain ⟨r_5,hr_5,hF⟩ := bnd_some hF
     obtain ⟨r_6,hr_6,hF⟩ := bnd_some hF
     replace hc := hc.nilRow 0 0
     replace hc := hc.nilRow 0 0
     refine regionE (fun θ => [⟨none,none,6,pq b_2⟩,⟨none,none,11,.slice (subP p_1 c_1 from_.toNat 2) sub.length (c_1 - from_.toNat)⟩,⟨none,none,12,pq b_5⟩,⟨some 0,none,49,.slice (subP p_1 c_1 from_.toNat 2) sub.length (c_1 - from_.toNat)⟩,⟨some 1,none,50,pq b_5⟩,⟨some 2,none,51,.agg #[.func (.func 73) #[] #[]]⟩,⟨some 3,none,52,.slice ((θ 24).p) r_3.length ((θ 24).c)⟩,⟨some 4,none,53,i6 r_4⟩,⟨some 5,none,54,.slice (subP p_1 c_1 from_.toNat 2) sub.length (c_1 - from_.toNat)⟩,⟨some 6,none,55,.pointer (some ⟨b_5,1,none⟩)⟩,⟨some 7,none,56,.agg #[.func (.func 74) #[] #[]]⟩,⟨some 8,none,57,.slice ((θ 64).p) r_5.length ((θ 64).c)⟩,⟨some 9,none,58,i6 r_6⟩,⟨some 10,none,59,.agg #[i6 r_4,i6 r_6]⟩,⟨some 12,none,7,i6 0⟩]) (fun E θ => (bif E 8 then .row ((θ 64).p) ((θ 64).c) (r_5.map encI_i64) 3 1 else .row none 0 [] 0 0)::(bif E 3 then .row ((θ 24).p) ((θ 24).c) (r_3.map encI_i64) 3 1 else .row none 0 [] 0 0)::.box b_5 [.func (.func 73) #[] #[],.func (.func 74) #[] #[]] 106::.row p_1 c_1 (r_2.2.2.1.map enc_api_Span) 71 2::.box b_3 [i6 r_2.1,i6 r_2.2.1,.slice r_Days_p r.Days.length r_Days_c,.slice p_1 r_2.2.2.1.length c_1] 98::(bif E 11 then .box b_2 [i6 r_4,i6 r_6] 71 else .box b_2 [i6 0,i6 0] 71)::.box b_1 [i6 r.Rise,i6 r.Fall,.slice r_Days_p r.Days.length r_Days_c] 68::Lf) [] (fun a w => ∃ (p_4 : Option Addr) (c_4 : Nat) (p_5 : Option Addr) (c_5 : Nat),Has 60 a [(6,pq b_2),(7,i6 0)] ∧ Ctx G (.row p_4 c_4 (r_5.map encI_i64) 3 1::.row p_5 c_5 (r_3.map encI_i64) 3 1::.box b_5 [.func (.func 73) #[] #[],.func (.func 74) #[] #[]] 106::.row p_1 c_1 (r_2.2.2.1.map enc_api_Span) 71 2::.box b_3 [i6 r_2.1,i6 r_2.2.1,.slice r_Days_p r.Days.length r_Days_c,.slice p_1 r_2.2.2.1.length c_1] 98::.box b_2 [i6 r_4,i6 r_6] 71::.box b_1 [i6 r.Rise,i6 r.Fall,.slice r_Days_p r.Days.length r_Days_c] 68::Lf) w) follows_mx (by kernel_rfl) (by kernel_rfl) (HasE.of hf ⟨rfl,rfl,rfl,trivial,trivial,trivial,trivial,trivial,trivial,trivial,trivial,trivial,trivial,trivial,trivial,trivial⟩) hc ⟨?_,?_,?_,?_,?_,?_,?_,?_,?_,?_,?_,?_,?_,trivial⟩ ?_ ?_
     ·intro E θ a w hD hi hp he hc
      have hf := he.h0.mT he 1 rfl
      refine sp 1 hf rfl fun a hf => zD θ he hi hf 3 rfl rfl rfl hc
     ·intro E θ a w hD hi hp he hc
      have hf := he.h0.mT he 2 rfl
      refine zP hf rfl (pIAA Try.underlying106 sz_105 rfl rfl (by decide) (by decide)) fun a hf => zD θ he hi hf 4 rfl rfl rfl hc
     ·intro E θ a w hD hi hp he hc
      have e1 := hp.o 1 rfl
      have hf := he.h0.mP he 4 rfl e1
      refine zN hf hc ag_105 m2 rfl fun a w hf hc => zD θ he hi hf 5 rfl rfl rfl hc
     ·intro E θ a w hD hi hp he hc
      have e0 := hp.o 0 rfl
      have e2 := hp.o 2 rfl
      try dsimp only at hc
      rw [hi] at hc
      have hf := (he.h0.mP he 3 rfl e0).mP he 5 rfl e2
      obtain ⟨G1,hle1,hrd1,hc,hth1⟩ := lend hc k3
      refine zC hf en_49 rfl (daily_ends_ok sub (Rd.sub hrd1 hsub) hc hr_3) ?_
      rintro _ w ⟨p_2,c_2,rfl,hc⟩
      refine ⟨_,rfl,fun a hf => ?_⟩
      replace hc := hth1 _ _ hc
      refine cNil ?_
      refine xThenN ?_
      intro ds u hau
      replace hc := ((((hc.drop k3).pick k0).pick k3).pick k2).pick k3
      refine ⟨(setT θ 24 ⟨0,p_2,c_2,(fun _ => (none,0))⟩),he.put hi hau hf rfl [] trivial ⟨qq,qq,qq,qq,qq,qq,qq,qq,qq,qq,qq,qq,qq,qq,qq,trivial⟩,?_⟩
      try dsimp only
      rw [updE_self E 3]
      exact hc
     ·intro E θ a w hD hi hp he hc
      have e3 := hp.o 3 rfl
      try dsimp only at hc
      rw [e3] at hc
      have hf := he.h0.mP he 6 rfl e3
      refine zQ (v := i6 r_4) hf hc en_48 rfl (fun w hc => by obtain ⟨G1,hle1,hrd1,hc,hth1⟩ := lend hc k1; exact (daily_sum_ok r_3 hrd1 hc hr_4).mono fun e w h => ⟨h.1,((hth1 _ _ h.2).unpick k1)⟩) fun a w hf hc => zD θ he hi hf 7 rfl rfl rfl ?_
      try dsimp only
      rw [updE_tru 4 e3]
      exact hc
     ·intro E θ a w hD hi hp he hc
      have hf := he.h0.mT he 1 rfl
      refine sp 1 hf rfl fun a hf => zD θ he hi hf 8 rfl rfl rfl hc
     ·intro E θ a w hD hi hp he hc
      have hf := he.h0.mT he 2 rfl
      refine zP hf rfl (pIAA Try.underlying106 sz_105 rfl rfl (by decide) (by decide)) fun a hf => zD θ he hi hf 9 rfl rfl rfl hc
     ·intro E θ a w hD hi hp he hc
      have e6 := hp.o 6 rfl
      have hf := he.h0.mP he 9 rfl e6
      refine zN hf hc ag_105 m2 rfl fun a w hf hc => zD θ he hi hf 10 rfl rfl rfl hc
     ·intro E θ a w hD hi hp he hc
      have e5 := hp.o 5 rfl
      have e7 := hp.o 7 rfl
      try dsimp only at hc
      rw [hi] at hc
      have hf := (he.h0.mP he 8 rfl e5).mP he 10 rfl e7
      obtain ⟨G1,hle1,hrd1,hc,hth1⟩ := lend hc k3
      refine zC hf en_49 rfl (daily_ends_s2_ok sub (Rd.sub hrd1 hsub) hc hr_5) ?_
      rintro _ w ⟨p_3,c_3,rfl,hc⟩
      refine ⟨_,rfl,fun a hf => ?_⟩
      replace hc := hth1 _ _ hc
      refine cNil ?_
      refine xThenN ?_
      intro ds u hau
      replace hc := ((((hc.drop k2).pick k0).pick k3).pick k3).pick k3
      refine ⟨(setT θ 64 ⟨0,p_3,c_3,(fun _ => (none,0))⟩),he.put hi hau hf rfl [] trivial ⟨qq,qq,qq,qq,qq,qq,qq,qq,qq,qq,qq,qq,qq,qq,qq,trivial⟩,?_⟩
      try dsimp only
      rw [updE_self E 8]
      exact hc
     ·intro E θ a w hD hi hp he hc
      have e8 := hp.o 8 rfl
      try dsimp only at hc
      rw [e8] at hc
      have hf := he.h0.mP he 11 rfl e8
      refine zQ (v := i6 r_6) hf hc en_48 rfl (fun w hc => by obtain ⟨G1,hle1,hrd1,hc,hth1⟩ := lend hc k0; exact (daily_sum_ok r_5 hrd1 hc hr_6).mono fun e w h => ⟨h.1,((hth1 _ _ h.2).unpick k0)⟩) fun a w hf hc => zD θ he hi hf 12 rfl rfl rfl ?_
      try dsimp only
      rw [updE_tru 9 e8]
      exact hc
     ·intro E θ a w hD hi hp he hc
      have e4 := hp.o 4 rfl
      have e9 := hp.o 9 rfl
      have hf := (he.h0.mP he 7 rfl e4).mP he 12 rfl e9
      refine zP hf rfl (pBuildS (cells := [i6 r_4,i6 r_6]) bt_71 rfl rfl) fun a hf => zD θ he hi hf 13 rfl rfl rfl hc
     ·intro E θ a w hD hi hp he hc
      have e10 := hp.o 10 rfl
      try dsimp only at hc
      rw [hi] at hc
      have hf := (he.h0.mT he 0 rfl).mP he 13 rfl e10
      refine zW hf hc sz_71 u5 rfl fun w hc => zG θ he hi hf rfl ?_
      try dsimp only
      rw [updE_self E 11]
      exact hc
     ·intro E θ a w hD hi hp he hc
      have hf := he.h0
      refine sp 1 hf rfl fun a hf => zD θ he hi hf 14 rfl rfl rfl hc
     ·intro E θ a w hall he hc
      have hf := he.h0
      have e3 := hall 3 rfl
      have e8 := hall 8 rfl
      have e11 := hall 11 rfl
      have e12 := hall 12 rfl
      replace hf := hf.more he 14 rfl (onP e12)
      replace hf := hf.more he 0 rfl (onT)
      try dsimp only at hc
      rw [e3,e8,e11] at hc
      exact ⟨(θ 64).p,(θ 64).c,(θ 24).p,(θ 24).c,hf.kp rfl,hc⟩
     rintro a w ⟨p_4,c_4,p_5,c_5,hf,hc⟩
     refine h18 _ _ ?_
     refine wp_ret ?_
     obtain rfl := sj hF
     replace hc := (((((hc.drop k6).drop k4).drop k3).drop k2).drop k1).drop k0
     exact fnOut2 (by simp) rfl Try.results26 hf hc (rv_cellN (vs := [i6 r_4,i6 r_6]) ag_71 rfl rfl (cells_box (n := 2) m0 rfl)) (show look _ 7 = _ from rfl) ⟨rfl,(hc.drop k0)⟩

def slices_Max_Lint_int_b7 (N : Nat) (x : List Int) (m : Int) (i_1 : Int) : Option (Step (Int × Int) (Int)) :=
 cond (decide (i_1 < ((x.length : Nat) : Int)))
 (Option.bind (getI x i_1) fun e_2 =>
 some (.cont (max m e_2,W (i_1 + 1))))
 (some (.brk (m,i_1)))
def slices_Max_Lint_int (N : Nat) (x : List Int) : Option (Int) :=
 cond (decide (((x.length : Nat) : Int) < 1))
 (none)
 (Option.bind (getI x 0) fun e_1 =>
 Option.bind (loopO (fun s7 => slices_Max_Lint_int_b7 N x s7.1 s7.2) N (e_1,1)) fun x7 =>
 exK x7 (fun s7 => some s7.1) some)
theorem slices_Max_Lint_int_ok {N : Nat} {G : Pers} {Lf : List Ent} {w : World} (x : List Int) {x_p : Option Addr} {x_c : Nat} (h_x : Rd G 1 x_p x_c (x.map encI_i64)) (hc : Ctx G (Lf) w) {res : Int} (hF : slices_Max_Lint_int N x = some res) : Calls Try.prog 50 #[.slice x_p x.length x_c] w (fun e w => e = .returned (i6 res) ∧ Ctx G (Lf) w) := by
 unfold slices_Max_Lint_int at hF
 refine fnIn Try.func50 rfl Try.ntmps50 rfl fun a hf => zS fun K h => sp 1 hf rfl fun a hf => zT h ?_
 refine wp_seq_k fun K2 h2 => zS fun K h => sp 1 hf rfl fun a hf => zP hf rfl (pLenS Try.underlying27 rfl) fun a hf => sp 1 hf rfl fun a hf => zT h ?_
 refine zI hf rfl hF ?_ ?_ <;> clear hF <;> intro hF
 ·exact noneO hF
 ·refine wp_skip ?_
  refine h2 _ _ ?_
  refine zS fun K h => sp 1 hf rfl fun a hf => ?_
  obtain ⟨e_1,he_1,hF⟩ := bnd_some hF
  obtain ⟨b_1,o,qa,qp⟩ := h_x.atm he_1
  refine zP hf rfl (pIA Try.underlying27 sz_3 rfl rfl qa) fun a hf => zE hf hc rfl (eLd1 sc_3 rfl (cell_pc (j := 0) qp rfl)) fun a w hf hc => sp 1 hf rfl fun a hf => zT h ?_
  refine wp_seq_k fun K5 h5 => zS fun K h => sp 1 hf rfl fun a hf => zT h ?_
  refine wp_block ?_
  obtain ⟨x7,hx7,hF⟩ := bnd_some hF
  let S7 : (Int × Int) → Act → World → Prop := (fun (zz : Int × Int) a w => Has 25 a [(0,.slice x_p x.length x_c),(3,i6 zz.1),(4,i6 zz.2)] ∧ Ctx G (Lf) w)
  have hr7 : ∀ (zz : Int × Int) a w,x7 = .go zz → S7 zz a w → K5 a w := by
   rintro ⟨m,i_1⟩ a w rfl ⟨hf,hc⟩
   replace hF := exK_go hF
   refine h5 _ _ ?_
   refine zS fun K h => sp 2 hf rfl fun a hf => zT h ?_
   refine wp_ret ?_
   obtain rfl := sj hF
   exact zO1 Try.results50 hf rfl ⟨rfl,hc⟩
  have ho7 : ∀ r,x7 = .out r → r = res := by
   rintro r rfl
   exact sj hF
  refine cLoop N (loopW (S := S7) (x := x7) ?_ N (e_1,1) _ _ ⟨hf.kp rfl,hc⟩ hx7)
  clear hF hf hc
  rintro ⟨m,i_1⟩ st7 a w KB7 ⟨hf,hc⟩ hF hfin7 hK7
  unfold slices_Max_Lint_int_b7 at hF
  refine wp_seq_k fun K9 h9 => zS fun K h => sp 2 hf rfl fun a hf => zP hf rfl (pLenS Try.underlying27 rfl) fun a hf => sp 1 hf rfl fun a hf => zT h ?_
  refine zI hf rfl hF ?_ ?_ <;> clear hF <;> intro hF
  ·refine wp_skip ?_
   refine h9 _ _ ?_
   refine wp_seq_k fun K11 h11 => wp_block ?_
   refine cReg ?_
   refine sp 3 hf rfl fun a hf => ?_
   obtain ⟨e_2,he_2,hF⟩ := bnd_some hF
   obtain ⟨b_2,o_1,qa_1,qp_1⟩ := h_x.atm he_2
   refine zP hf rfl (pIA Try.underlying27 sz_3 rfl rfl qa_1) fun a hf => zE hf hc rfl (eLd1 sc_3 rfl (cell_pc (j := 0) qp_1 rfl)) fun a w hf hc => zP hf rfl (pMax2 rfl rfl) fun a hf => sp 1 hf rfl fun a hf => cNil ?_
   refine h11 _ _ ?_
   refine cReg ?_
   refine sp 3 hf rfl fun a hf => cNil ?_
   exact hK7 (max m e_2,W (i_1 + 1)) _ _ (sj hF).symm ⟨hf.kp rfl,hc⟩
  ·refine wp_exit ?_
   refine xThen ?_
   refine xThen ?_
   have he := sj hF
   rw [← he] at hfin7
   refine cHit ?_
   exact hr7 _ _ _ hfin7 ⟨hf.kp rfl,hc⟩

def daily_Peak_j20 (N : Nat) (x : Int) (days_1 : List Int) : Option (Step ((List Int) × Int) (api_Span × (List Int) × Int)) :=
 some (.cont (days_1,W (x + 1)))
def daily_Peak_b16 (N : Nat) (r_1 : Int × Int × (List api_Span) × Int) (r_3 : Int) (days : List Int) (x : Int) : Option (Step ((List Int) × Int) (api_Span × (List Int) × Int)) :=
 cond (decide (x < ((r_1.2.2.1.length : Nat) : Int)))
 (Option.bind (getI r_1.2.2.1 x) fun e_1 =>
 cond (decide (r_3 ≤ e_1.Hi))
 (Option.bind (room ((days ++ [x])).length) fun un =>
 daily_Peak_j20 N x (days ++ [x]))
 (daily_Peak_j20 N x days))
 (some (.brk (days,x)))
def daily_Peak (N : Nat) (r : daily_Record) : Option (api_Span × (List Int) × Int) :=
 Option.bind (daily_agreed N r) (sumK (fun r_0 => cond (r_0 != 0)
 (some ((⟨0,0⟩ : api_Span),([] : List Int),r_0))
 (none))
 (fun r_1 => cond (r_1.2.2.2 != 0)
 (some ((⟨0,0⟩ : api_Span),([] : List Int),r_1.2.2.2))
 (Option.bind (daily_ends N r_1.2.2.1) fun r_2 =>
 Option.bind (slices_Max_Lint_int N r_2) fun r_3 =>
 Option.bind (daily_ends_s2 N r_1.2.2.1) fun r_4 =>
 Option.bind (slices_Max_Lint_int N r_4) fun r_5 =>
 Option.bind (loopO (fun s16 => daily_Peak_b16 N r_1 r_3 s16.1 s16.2) N (([] : List Int),0)) fun x16 =>
 exK x16 (fun s16 => some ((⟨r_3,r_5⟩ : api_Span),s16.1,0)) some)))
theorem daily_Peak_ok {N : Nat} {G : Pers} {Lf : List Ent} {w : World} (r : daily_Record) {r_Days_p : Option Addr} {r_Days_c : Nat} (h_r_Days : Rd G 3 r_Days_p r_Days_c (r.Days.map enc_daily_Value)) (hc : Ctx G (Lf) w) {res : api_Span × (List Int) × Int} (hF : daily_Peak N r = some res) : Calls Try.prog 27 #[.agg #[i6 r.Rise,i6 r.Fall,.slice r_Days_p r.Days.length r_Days_c]] w (fun e w => ∃ (p'1 : Option Addr) (c'1 : Nat),e = .returned (.tuple #[.agg #[i6 res.1.Lo,i6 res.1.Hi],.slice p'1 res.2.1.length c'1,i6 res.2.2]) ∧ Ctx G (.row p'1 c'1 (res.2.1.map encI_i64) 3 1::Lf) w) := by
 unfold daily_Peak at hF
 refine fnIn Try.func27 rfl Try.ntmps27 rfl fun a hf => zS fun K h => zB hf hc rfl fun b_1 a w hf hc => zA hf hc zr_71 rfl fun b_2 a w hf hc => sp 2 hf rfl fun a hf => zT h ?_
 refine zS fun K h => zN hf hc ag_68 m1 rfl fun a w hf hc => ?_
 obtain ⟨r_0,hr_0,hF⟩ := bnd_some hF
 cases r_0 with
 | inl r_0 =>
  replace hF := sumKl hF
  refine zC hf en_44 rfl (daily_agreed_ok r h_r_Days hc hr_0) ?_
  rintro _ w ⟨rfl,hc⟩
  refine ⟨_,rfl,fun a hf => ?_⟩
  refine sp 5 hf rfl fun a hf => zT h ?_
  refine wp_seq_k fun K3 h3 => zS fun K h => sp 2 hf rfl fun a hf => zT h ?_
  refine zI hf rfl hF ?_ ?_ <;> clear hF <;> intro hF
  ·refine zS fun K h => zP hf rfl (pBuildS (cells := [i6 0,i6 0]) bt_71 rfl rfl) fun a hf => sp 1 hf rfl fun a hf => zW hf hc sz_71 u0 rfl fun w hc => sp 2 hf rfl fun a hf => zT h ?_
   refine wp_ret ?_
   refine xThenR ?_
   obtain rfl := sj hF
   replace hc := hc.nilRow 3 1
   replace hc := hc.drop k2
   exact fnOut3 (by simp) rfl Try.results27 hf hc (rv_cellN (vs := [i6 0,i6 0]) ag_71 rfl rfl (cells_box (n := 2) m1 rfl)) (show look _ 3 = _ from rfl) (show look _ 4 = _ from rfl) ⟨none,0,rfl,(hc.drop k1)⟩
  ·refine wp_skip ?_
   refine h3 _ _ ?_
   refine zS fun K h => zQ (v := .agg #[.func (.func 73) #[] #[],.func (.func 74) #[] #[]]) hf hc en_47 rfl (fun w hc => daily_both_ok hc rfl) fun a w hf hc => zA hf hc zr_106 rfl fun b_3 a w hf hc => zW hf hc sz_106 u0 rfl fun w hc => zT h ?_
   refine wp_seq_k fun K7 h7 => noneO hF
 | inr r_1 =>
  replace hF := sumKr hF
  have hr_1 := hr_0
  refine zC hf en_44 rfl (daily_agreed_ok r h_r_Days hc hr_1) ?_
  rintro _ w ⟨b_4,p_1,c_1,rfl,hc⟩
  refine ⟨_,rfl,fun a hf => ?_⟩
  refine sp 5 hf rfl fun a hf => zT h ?_
  refine wp_seq_k fun K8 h8 => zS fun K h => sp 2 hf rfl fun a hf => zT h ?_
  refine zI hf rfl hF ?_ ?_ <;> clear hF <;> intro hF
  ·refine zS fun K h => zP hf rfl (pBuildS (cells := [i6 0,i6 0]) bt_71 rfl rfl) fun a hf => sp 1 hf rfl fun a hf => zW hf hc sz_71 u2 rfl fun w hc => sp 2 hf rfl fun a hf => zT h ?_
   refine wp_ret ?_
   refine xThenR ?_
   obtain rfl := sj hF
   replace hc := hc.nilRow 3 1
   replace hc := ((hc.drop k4).drop k2).drop k1
   exact fnOut3 (by simp) rfl Try.results27 hf hc (rv_cellN (vs := [i6 0,i6 0]) ag_71 rfl rfl (cells_box (n := 2) m1 rfl)) (show look _ 3 = _ from rfl) (show look _ 4 = _ from rfl) ⟨none,0,rfl,(hc.drop k1)⟩
  ·refine wp_skip ?_
   refine h8 _ _ ?_
   refine zS fun K h => zQ (v := .agg #[.func (.func 73) #[] #[],.func (.func 74) #[] #[]]) hf hc en_47 rfl (fun w hc => daily_both_ok hc rfl) fun a w hf hc => zA hf hc zr_106 rfl fun b_5 a w hf hc => zW hf hc sz_106 u0 rfl fun w hc => zT h ?_
   refine wp_seq_k fun K12 h12 => ?_
   obtain ⟨r_2,hr_2,hF⟩ := bnd_some hF
   obtain ⟨r_3,hr_3,hF⟩ := bnd_some hF
   obtain ⟨r_4,hr_4,hF⟩ := bnd_some hF
   obtain ⟨r_5,hr_5,hF⟩ := bnd_some hF
   replace hc := hc.nilRow 0 0
   replace hc := hc.nilRow 0 0
   replace hc := hc.nilRow 0 0
   refine regionE (fun θ => [⟨none,none,2,pq b_2⟩,⟨none,none,5,pq b_4⟩,⟨none,none,7,pq b_5⟩,⟨some 0,none,22,pq b_4⟩,⟨some 1,none,23,pq b_4⟩,⟨some 2,none,24,.pointer (some ⟨b_4,3,none⟩)⟩,⟨some 3,none,25,.slice p_1 r_1.2.2.1.length c_1⟩,⟨some 4,none,26,pq b_5⟩,⟨some 5,none,27,.agg #[.func (.func 73) #[] #[]]⟩,⟨some 6,none,28,.slice ((θ 48).p) r_2.length ((θ 48).c)⟩,⟨some 7,none,29,i6 r_3⟩,⟨some 8,none,30,pq b_4⟩,⟨some 9,none,31,pq b_4⟩,⟨some 10,none,32,.pointer (some ⟨b_4,3,none⟩)⟩,⟨some 11,none,33,.slice p_1 r_1.2.2.1.length c_1⟩,⟨some 12,none,34,.pointer (some ⟨b_5,1,none⟩)⟩,⟨some 13,none,35,.agg #[.func (.func 74) #[] #[]]⟩,⟨some 14,none,36,.slice ((θ 112).p) r_4.length ((θ 112).c)⟩,⟨some 15,none,37,i6 r_5⟩,⟨some 16,none,38,.agg #[i6 r_3,i6 r_5]⟩,⟨some 17,none,8,.pointer (some ⟨(θ 136).b,0,none⟩)⟩]) (fun E θ => (bif E 18 then .box (θ 136).b [i6 r_3,i6 r_5] 71 else bif E 17 then .box (θ 136).b [i6 0,i6 0] 71 else .row none 0 [] 0 0)::(bif E 14 then .row ((θ 112).p) ((θ 112).c) (r_4.map encI_i64) 3 1 else .row none 0 [] 0 0)::(bif E 6 then .row ((θ 48).p) ((θ 48).c) (r_2.map encI_i64) 3 1 else .row none 0 [] 0 0)::.box b_5 [.func (.func 73) #[] #[],.func (.func 74) #[] #[]] 106::.row p_1 c_1 (r_1.2.2.1.map enc_api_Span) 71 2::.box b_4 [i6 r_1.1,i6 r_1.2.1,.slice r_Days_p r.Days.length r_Days_c,.slice p_1 r_1.2.2.1.length c_1] 98::.box b_2 [i6 0,i6 0] 71::.box b_1 [i6 r.Rise,i6 r.Fall,.slice r_Days_p r.Days.length r_Days_c] 68::Lf) [(18,17)] (fun a w => ∃ (b_7 : Nat) (p_4 : Option Addr) (c_4 : Nat) (p_5 : Option Addr) (c_5 : Nat),Has 61 a [(2,pq b_2),(5,pq b_4),(8,pq b_7)] ∧ Ctx G (.box b_7 [i6 r_3,i6 r_5] 71::.row p_4 c_4 (r_4.map encI_i64) 3 1::.row p_5 c_5 (r_2.map encI_i64) 3 1::.box b_5 [.func (.func 73) #[] #[],.func (.func 74) #[] #[]] 106::.row p_1 c_1 (r_1.2.2.1.map enc_api_Span) 71 2::.box b_4 [i6 r_1.1,i6 r_1.2.1,.slice r_Days_p r.Days.length r_Days_c,.slice p_1 r_1.2.2.1.length c_1] 98::.box b_2 [i6 0,i6 0] 71::.box b_1 [i6 r.Rise,i6 r.Fall,.slice r_Days_p r.Days.length r_Days_c] 68::Lf) w) follows_mx (by kernel_rfl) (by kernel_rfl) (HasE.of hf ⟨rfl,rfl,rfl,trivial,trivial,trivial,trivial,trivial,trivial,trivial,trivial,trivial,trivial,trivial,trivial,trivial,trivial,trivial,trivial,trivial,trivial,trivial⟩) hc ⟨?_,?_,?_,?_,?_,?_,?_,?_,?_,?_,?_,?_,?_,?_,?_,?_,?_,?_,?_,trivial⟩ ?_ ?_
   ·intro E θ a w hD hi hp he hc
    have hf := he.h0.mT he 1 rfl
    refine sp 1 hf rfl fun a hf => zD θ he hi hf 3 rfl rfl rfl hc
   ·intro E θ a w hD hi hp he hc
    have e0 := hp.o 0 rfl
    have hf := he.h0.mP he 3 rfl e0
    refine sp 1 hf rfl fun a hf => zD θ he hi hf 4 rfl rfl rfl hc
   ·intro E θ a w hD hi hp he hc
    have e1 := hp.o 1 rfl
    have hf := he.h0.mP he 4 rfl e1
    refine zP hf rfl (pFA fa_98_1 rfl) fun a hf => zD θ he hi hf 5 rfl rfl rfl hc
   ·intro E θ a w hD hi hp he hc
    have e2 := hp.o 2 rfl
    have hf := he.h0.mP he 5 rfl e2
    refine zL hf hc sc_63 m5 rfl fun a w hf hc => zD θ he hi hf 6 rfl rfl rfl hc
   ·intro E θ a w hD hi hp he hc
    have hf := he.h0.mT he 2 rfl
    refine zP hf rfl (pIAA Try.underlying106 sz_105 rfl rfl (by decide) (by decide)) fun a hf => zD θ he hi hf 7 rfl rfl rfl hc
   ·intro E θ a w hD hi hp he hc
    have e4 := hp.o 4 rfl
    have hf := he.h0.mP he 7 rfl e4
    refine zN hf hc ag_105 m3 rfl fun a w hf hc => zD θ he hi hf 8 rfl rfl rfl hc
   ·intro E θ a w hD hi hp he hc
    have e3 := hp.o 3 rfl
    have e5 := hp.o 5 rfl
    try dsimp only at hc
    rw [hi] at hc
    have hf := (he.h0.mP he 6 rfl e3).mP he 8 rfl e5
    obtain ⟨G1,hle1,hrd1,hc,hth1⟩ := lend hc k4
    refine zC hf en_49 rfl (daily_ends_ok r_1.2.2.1 hrd1 hc hr_2) ?_
    rintro _ w ⟨p_2,c_2,rfl,hc⟩
    refine ⟨_,rfl,fun a hf => ?_⟩
    replace hc := hth1 _ _ hc
    refine cNil ?_
    refine xThenN ?_
    intro ds u hau
    replace hc := (((((hc.drop k4).pick k0).pick k4).pick k2).pick k4).pick k4
    refine ⟨(setT θ 48 ⟨0,p_2,c_2,(fun _ => (none,0))⟩),he.put hi hau hf rfl [] trivial ⟨qq,qq,qq,qq,qq,qq,qq,qq,qq,qq,qq,qq,qq,qq,qq,qq,qq,qq,qq,qq,qq,trivial⟩,?_⟩
    try dsimp only
    rw [updE_self E 6]
    exact hc
   ·intro E θ a w hD hi hp he hc
    have e6 := hp.o 6 rfl
    try dsimp only at hc
    rw [e6] at hc
    have hf := he.h0.mP he 9 rfl e6
    refine zQ (v := i6 r_3) hf hc en_50 rfl (fun w hc => by obtain ⟨G1,hle1,hrd1,hc,hth1⟩ := lend hc k2; exact (slices_Max_Lint_int_ok r_2 hrd1 hc hr_3).mono fun e w h => ⟨h.1,((hth1 _ _ h.2).unpick k2)⟩) fun a w hf hc => zD θ he hi hf 10 rfl rfl rfl ?_
    try dsimp only
    rw [updE_tru 7 e6]
    exact hc
   ·intro E θ a w hD hi hp he hc
    have hf := he.h0.mT he 1 rfl
    refine sp 1 hf rfl fun a hf => zD θ he hi hf 11 rfl rfl rfl hc
   ·intro E θ a w hD hi hp he hc
    have e8 := hp.o 8 rfl
    have hf := he.h0.mP he 11 rfl e8
    refine sp 1 hf rfl fun a hf => zD θ he hi hf 12 rfl rfl rfl hc
   ·intro E θ a w hD hi hp he hc
    have e9 := hp.o 9 rfl
    have hf := he.h0.mP he 12 rfl e9
    refine zP hf rfl (pFA fa_98_1 rfl) fun a hf => zD θ he hi hf 13 rfl rfl rfl hc
   ·intro E θ a w hD hi hp he hc
    have e10 := hp.o 10 rfl
    have hf := he.h0.mP he 13 rfl e10
    refine zL hf hc sc_63 m5 rfl fun a w hf hc => zD θ he hi hf 14 rfl rfl rfl hc
   ·intro E θ a w hD hi hp he hc
    have hf := he.h0.mT he 2 rfl
    refine zP hf rfl (pIAA Try.underlying106 sz_105 rfl rfl (by decide) (by decide)) fun a hf => zD θ he hi hf 15 rfl rfl rfl hc
   ·intro E θ a w hD hi hp he hc
    have e12 := hp.o 12 rfl
    have hf := he.h0.mP he 15 rfl e12
    refine zN hf hc ag_105 m3 rfl fun a w hf hc => zD θ he hi hf 16 rfl rfl rfl hc
   ·intro E θ a w hD hi hp he hc
    have e11 := hp.o 11 rfl
    have e13 := hp.o 13 rfl
    try dsimp only at hc
    rw [hi] at hc
    have hf := (he.h0.mP he 14 rfl e11).mP he 16 rfl e13
    obtain ⟨G1,hle1,hrd1,hc,hth1⟩ := lend hc k4
    refine zC hf en_49 rfl (daily_ends_s2_ok r_1.2.2.1 hrd1 hc hr_4) ?_
    rintro _ w ⟨p_3,c_3,rfl,hc⟩
    refine ⟨_,rfl,fun a hf => ?_⟩
    replace hc := hth1 _ _ hc
    refine cNil ?_
    refine xThenN ?_
    intro ds u hau
    replace hc := (((((hc.drop k3).pick k0).pick k4).pick k4).pick k3).pick k4
    refine ⟨(setT θ 112 ⟨0,p_3,c_3,(fun _ => (none,0))⟩),he.put hi hau hf rfl [] trivial ⟨qq,qq,qq,qq,qq,qq,qq,qq,qq,qq,qq,qq,qq,qq,qq,qq,qq,qq,qq,qq,qq,trivial⟩,?_⟩
    try dsimp only
    rw [updE_self E 14]
    exact hc
   ·intro E θ a w hD hi hp he hc
    have e14 := hp.o 14 rfl
    try dsimp only at hc
    rw [e14] at hc
    have hf := he.h0.mP he 17 rfl e14
    refine zQ (v := i6 r_5) hf hc en_50 rfl (fun w hc => by obtain ⟨G1,hle1,hrd1,hc,hth1⟩ := lend hc k1; exact (slices_Max_Lint_int_ok r_4 hrd1 hc hr_5).mono fun e w h => ⟨h.1,((hth1 _ _ h.2).unpick k1)⟩) fun a w hf hc => zD θ he hi hf 18 rfl rfl rfl ?_
    try dsimp only
    rw [updE_tru 15 e14]
    exact hc
   ·intro E θ a w hD hi hp he hc
    have e7 := hp.o 7 rfl
    have e15 := hp.o 15 rfl
    have hf := (he.h0.mP he 10 rfl e7).mP he 18 rfl e15
    refine zP hf rfl (pBuildS (cells := [i6 r_3,i6 r_5]) bt_71 rfl rfl) fun a hf => zD θ he hi hf 19 rfl rfl rfl hc
   ·intro E θ a w hD hi hp he hc
    have e18 := hD.f 0 rfl hi
    try dsimp only at hc
    rw [hi,e18] at hc
    have hf := he.h0
    refine zA hf hc zr_71 rfl fun b_6 a w hf hc => cNil ?_
    refine xThenN ?_
    intro ds u hau
    replace hc := hc.drop k1
    refine ⟨(setT θ 136 ⟨b_6,none,0,(fun _ => (none,0))⟩),he.put hi hau hf rfl [] trivial ⟨qq,qq,qq,qq,qq,qq,qq,qq,qq,qq,qq,qq,qq,qq,qq,qq,qq,qq,qq,qq,qq,trivial⟩,?_⟩
    try dsimp only
    rw [updE_self E 17,updE_fls 17 e18 rfl]
    exact hc
   ·intro E θ a w hD hi hp he hc
    have e16 := hp.o 16 rfl
    have e17 := hp.o 17 rfl
    try dsimp only at hc
    rw [e17,hi] at hc
    have hf := (he.h0.mP he 19 rfl e16).mP he 20 rfl e17
    refine zW hf hc sz_71 u0 rfl fun w hc => zG θ he hi hf rfl ?_
    try dsimp only
    rw [updE_tru 18 e17,updE_self E 18]
    exact hc
   ·intro E θ a w hall he hc
    have hf := he.h0
    have e6 := hall 6 rfl
    have e14 := hall 14 rfl
    have e17 := hall 17 rfl
    have e18 := hall 18 rfl
    replace hf := hf.more he 20 rfl (onP e17)
    replace hf := hf.more he 1 rfl (onT)
    replace hf := hf.more he 0 rfl (onT)
    try dsimp only at hc
    rw [e6,e14,e17,e18] at hc
    exact ⟨(θ 136).b,(θ 112).p,(θ 112).c,(θ 48).p,(θ 48).c,hf.kp rfl,hc⟩
   rintro a w ⟨b_7,p_4,c_4,p_5,c_5,hf,hc⟩
   refine h12 _ _ ?_
   refine zS fun K h => sp 1 hf rfl fun a hf => zT h ?_
   refine wp_seq_k fun K14 h14 => zS fun K h => sp 2 hf rfl fun a hf => zP hf rfl (pFA fa_98_1 rfl) fun a hf => zL hf hc sc_63 m5 rfl fun a w hf hc => zP hf rfl (pLenS Try.underlying63 rfl) fun a hf => sp 1 hf rfl fun a hf => zT h ?_
   refine wp_block ?_
   obtain ⟨x16,hx16,hF⟩ := bnd_some hF
   let S16 : ((List Int) × Int) → Act → World → Prop := (fun (zz : (List Int) × Int) a w => ∃ (p_6 : Option Addr) (c_6 : Nat) (p_7 : Option Addr) (c_7 : Nat),Has 61 a [(2,pq b_2),(8,pq b_7),(9,.slice p_6 zz.1.length c_6),(42,.slice p_7 r_1.2.2.1.length c_7),(43,i6 ((r_1.2.2.1.length : Nat) : Int)),(44,i6 zz.2)] ∧ Ctx G (.row p_6 c_6 (zz.1.map encI_i64) 3 1::.box b_7 [i6 r_3,i6 r_5] 71::.row p_7 c_7 (r_1.2.2.1.map enc_api_Span) 71 2::.box b_2 [i6 0,i6 0] 71::Lf) w)
   have hr16 : ∀ (zz : (List Int) × Int) a w,x16 = .go zz → S16 zz a w → K14 a w := by
    rintro ⟨days,x⟩ a w rfl ⟨p_6,c_6,p_7,c_7,hf,hc⟩
    replace hF := exK_go hF
    refine h14 _ _ ?_
    refine zS fun K h => zN hf hc ag_71 m1 rfl fun a w hf hc => sp 1 hf rfl fun a hf => zW hf hc sz_71 u3 rfl fun w hc => sp 2 hf rfl fun a hf => zT h ?_
    refine wp_ret ?_
    obtain rfl := sj hF
    replace hc := (hc.drop k2).drop k1
    exact fnOut3 (by simp) rfl Try.results27 hf hc (rv_cellN (vs := [i6 r_3,i6 r_5]) ag_71 rfl rfl (cells_box (n := 2) m1 rfl)) (show look _ 3 = _ from rfl) (show look _ 4 = _ from rfl) ⟨p_6,c_6,rfl,(hc.drop k1)⟩
   have ho16 : ∀ r,x16 = .out r → r = res := by
    rintro r rfl
    exact sj hF
   replace hc := hc.nilRow 3 1
   replace hc := ((((hc.drop k8).drop k6).drop k4).drop k3).drop k2
   refine cLoop N (loopW (S := S16) (x := x16) ?_ N (([] : List Int),0) _ _ ⟨none,0,p_1,c_1,hf.kp rfl,hc⟩ hx16)
   clear hF hf hc
   rintro ⟨days,x⟩ st16 a w KB16 ⟨p_6,c_6,p_7,c_7,hf,hc⟩ hF hfin16 hK16
   unfold daily_Peak_b16 at hF
   refine zS fun K h => sp 1 hf rfl fun a hf => zT h ?_
   refine wp_seq_k fun K19 h19 => zI hf rfl hF ?_ ?_ <;> clear hF <;> intro hF
   ·refine wp_skip ?_
    refine h19 _ _ ?_
    refine wp_seq_k fun K20 h20 => ?_
    have hj20 : ∀ (days_1 : List Int) (p_8 : Option Addr) (c_8 : Nat) (p_9 : Option Addr) (c_9 : Nat) a w,Has 61 a [(2,pq b_2),(8,pq b_7),(9,.slice p_8 days_1.length c_8),(42,.slice p_9 r_1.2.2.1.length c_9),(43,i6 ((r_1.2.2.1.length : Nat) : Int)),(44,i6 x)] → Ctx G (.row p_8 c_8 (days_1.map encI_i64) 3 1::.box b_7 [i6 r_3,i6 r_5] 71::.row p_9 c_9 (r_1.2.2.1.map enc_api_Span) 71 2::.box b_2 [i6 0,i6 0] 71::Lf) w → daily_Peak_j20 N x days_1 = some st16 → K20 a w := by
     repeat (clear hF)
     repeat (clear hc)
     repeat (clear hf)
     intro days_1 p_8 c_8 p_9 c_9 a w hf hc hF
     unfold daily_Peak_j20 at hF
     refine h20 _ _ ?_
     refine cReg ?_
     refine sp 2 hf rfl fun a hf => cNil ?_
     exact hK16 (days_1,W (x + 1)) _ _ (sj hF).symm ⟨p_8,c_8,p_9,c_9,hf.kp rfl,hc⟩
    refine wp_block ?_
    refine zS fun K h => sp 1 hf rfl fun a hf => ?_
    obtain ⟨e_1,he_1,hF⟩ := bnd_some hF
    obtain ⟨g,rfl,qa,qr⟩ := row_atm hc m2 he_1
    refine zP hf rfl (pIA Try.underlying63 sz_71 rfl rfl qa) fun a hf => zE hf hc rfl (eLdN (vs := [i6 e_1.Lo,i6 e_1.Hi]) ag_71 rfl rfl (cells_rw (sz := 2) (i := x.toNat) m2 qr (n := 2) (o' := 0) rfl)) fun a w hf hc => zA hf hc zr_71 rfl fun b_8 a w hf hc => sp 1 hf rfl fun a hf => zW hf hc sz_71 u0 rfl fun w hc => zT h ?_
    refine zS fun K h => zP hf rfl (pFA fa_71_1 rfl) fun a hf => zL hf hc sc_3 m0 rfl fun a w hf hc => zP hf rfl (pFA fa_71_0 rfl) fun a hf => zL hf hc sc_3 m2 rfl fun a w hf hc => sp 1 hf rfl fun a hf => zT h ?_
    refine zI hf rfl hF ?_ ?_ <;> clear hF <;> intro hF
    ·refine cReg ?_
     refine sp 2 hf rfl fun a hf => stBS (rows := ([x] : List Int).map encI_i64) (vs := [(0,i6 x)]) hf hc rfl rfl sl_27 rfl ⟨rfl,rfl,rfl,trivial⟩ rfl rfl fun b_9 a w hf hc => ?_
     obtain ⟨un,hun,hF⟩ := bnd_some hF
     refine stApm (xs := days) (ys := ([x] : List Int)) hf hc rfl rfl sl_27 rfl rfl rfl rfl rfl one_encI_i64 (src_row hc m0) (fun _ _ => u2) (by simpa using room_spec hun) fun p_10 c_10 a w hf hc => sp 1 hf rfl fun a hf => cNil ?_
     replace hc := (hc.drop k1).drop k0
     exact hj20 (days ++ [x]) p_10 c_10 (some ⟨g,0,none⟩) c_7 _ _  (hf.kp rfl) hc hF
    ·refine wp_skip ?_
     replace hc := hc.drop k0
     exact hj20 days p_6 c_6 (some ⟨g,0,none⟩) c_7 _ _  (hf.kp rfl) hc hF
   ·refine wp_exit ?_
    refine xThen ?_
    refine xThen ?_
    have he := sj hF
    rw [← he] at hfin16
    refine cHit ?_
    exact hr16 _ _ _ hfin16 ⟨p_6,c_6,p_7,c_7,hf.kp rfl,hc⟩

def daily_Clash_b18 (N : Nat) (r : daily_Record) (x : Int) (e_2 : daily_Value) (x_1 : Int) : Option (Step (Int) (Step (Int × Int × Int × Int) (Int × Int × Int))) :=
 cond (decide (x_1 < ((r.Days.length : Nat) : Int)))
 (Option.bind (getI r.Days x_1) fun e_3 =>
 Option.bind (daily_Value_span N e_2) fun r_1 =>
 Option.bind (daily_Value_span N e_3) fun r_2 =>
 cond ((decide (x < x_1)) && ((decide ((W (r_1.Hi + (W (r.Rise * (W (x_1 - x)))))) < r_2.Lo)) || (decide (r_2.Hi < (W (r_1.Lo - (W (r.Fall * (W (x_1 - x))))))))))
 (some (.ret (.brk (x,x_1,0,x))))
 (some (.cont (W (x_1 + 1)))))
 (some (.brk x_1))
def daily_Clash_b10 (N : Nat) (r : daily_Record) (a_1 : Int) (b_2 : Int) (e_1 : Int) (x : Int) : Option (Step (Int × Int × Int × Int) (Int × Int × Int)) :=
 cond (decide (x < ((r.Days.length : Nat) : Int)))
 (Option.bind (getI r.Days x) fun e_2 =>
 Option.bind (loopO (fun s18 => daily_Clash_b18 N r x e_2 s18) N 0) fun x18 =>
 exK x18 (fun s18 => some (.cont (a_1,b_2,e_1,W (x + 1)))) some)
 (some (.brk (a_1,b_2,e_1,x)))
def daily_Clash (N : Nat) (r : daily_Record) : Option (Int × Int × Int) :=
 Option.bind (daily_Check N r) fun r_0 =>
 cond (r_0 != 0)
 (some (0,0,r_0))
 (Option.bind (loopO (fun s10 => daily_Clash_b10 N r s10.1 s10.2.1 s10.2.2.1 s10.2.2.2) N (0,0,5,0)) fun x10 =>
 exK x10 (fun s10 => some (s10.1,s10.2.1,s10.2.2.1)) some)
theorem daily_Clash_ok {N : Nat} {G : Pers} {Lf : List Ent} {w : World} (r : daily_Record) {r_Days_p : Option Addr} {r_Days_c : Nat} (h_r_Days : Rd G 3 r_Days_p r_Days_c (r.Days.map enc_daily_Value)) (hc : Ctx G (Lf) w) {res : Int × Int × Int} (hF : daily_Clash N r = some res) : Calls Try.prog 28 #[.agg #[i6 r.Rise,i6 r.Fall,.slice r_Days_p r.Days.length r_Days_c]] w (fun e w => e = .returned (.tuple #[i6 res.1,i6 res.2.1,i6 res.2.2]) ∧ Ctx G (Lf) w) := by
 unfold daily_Clash at hF
 refine fnIn Try.func28 rfl Try.ntmps28 rfl fun a hf => zS fun K h => zB hf hc rfl fun b_1 a w hf hc => sp 3 hf rfl fun a hf => zT h ?_
 refine wp_scope_straight ?_
 refine wp_seq_k fun K2 h2 => zS fun K h => zN hf hc ag_68 m0 rfl fun a w hf hc => ?_
 obtain ⟨r_0,hr_0,hF⟩ := bnd_some hF
 refine zQ (v := i6 r_0) hf hc en_46 rfl (fun w hc => daily_Check_ok r h_r_Days hc hr_0) fun a w hf hc => sp 1 hf rfl fun a hf => zT h ?_
 refine zS fun K h => sp 2 hf rfl fun a hf => zT h ?_
 refine zI hf rfl hF ?_ ?_ <;> clear hF <;> intro hF
 ·refine zS fun K h => sp 4 hf rfl fun a hf => zT h ?_
  refine wp_ret ?_
  refine xThenR ?_
  refine xScopeR ?_
  obtain rfl := sj hF
  replace hc := hc.drop k0
  exact zO3 Try.results28 hf rfl rfl rfl ⟨rfl,hc⟩
 ·refine wp_skip ?_
  refine h2 _ _ ?_
  refine zS fun K h => sp 3 hf rfl fun a hf => zT h ?_
  refine wp_seq_k fun K7 h7 => wp_label ?_
  refine h7 _ _ ?_
  refine wp_seq_k fun K8 h8 => zS fun K h => zP hf rfl (pFA fa_68_2 rfl) fun a hf => zL hf hc sc_66 m0 rfl fun a w hf hc => zP hf rfl (pLenS Try.underlying66 rfl) fun a hf => sp 1 hf rfl fun a hf => zT h ?_
  refine wp_block ?_
  obtain ⟨x10,hx10,hF⟩ := bnd_some hF
  let S10 : (Int × Int × Int × Int) → Act → World → Prop := (fun (zz : Int × Int × Int × Int) a w => Has 78 a [(1,pq b_1),(6,i6 zz.1),(7,i6 zz.2.1),(8,i6 zz.2.2.1),(21,.slice r_Days_p r.Days.length r_Days_c),(22,i6 ((r.Days.length : Nat) : Int)),(23,i6 zz.2.2.2)] ∧ Ctx G (.box b_1 [i6 r.Rise,i6 r.Fall,.slice r_Days_p r.Days.length r_Days_c] 68::Lf) w)
  have hr10 : ∀ (zz : Int × Int × Int × Int) a w,x10 = .go zz → S10 zz a w → K8 a w := by
   rintro ⟨a_1,b_2,e_1,x⟩ a w rfl ⟨hf,hc⟩
   replace hF := exK_go hF
   refine h8 _ _ ?_
   refine zS fun K h => sp 6 hf rfl fun a hf => zT h ?_
   refine wp_ret ?_
   refine xScopeR ?_
   obtain rfl := sj hF
   replace hc := hc.drop k0
   exact zO3 Try.results28 hf rfl rfl rfl ⟨rfl,hc⟩
  have ho10 : ∀ r,x10 = .out r → r = res := by
   rintro r rfl
   exact sj hF
  refine cLoop N (loopW (S := S10) (x := x10) ?_ N (0,0,5,0) _ _ ⟨hf.kp rfl,hc⟩ hx10)
  clear hF hf hc
  rintro ⟨a_1,b_2,e_1,x⟩ st10 a w KB10 ⟨hf,hc⟩ hF hfin10 hK10
  unfold daily_Clash_b10 at hF
  refine zS fun K h => sp 1 hf rfl fun a hf => zT h ?_
  refine wp_seq_k fun K13 h13 => zI hf rfl hF ?_ ?_ <;> clear hF <;> intro hF
  ·refine wp_skip ?_
   refine h13 _ _ ?_
   refine wp_seq_k fun K14 h14 => wp_block ?_
   refine zS fun K h => sp 1 hf rfl fun a hf => ?_
   obtain ⟨e_2,he_2,hF⟩ := bnd_some hF
   obtain ⟨b_3,o,qa,qp⟩ := h_r_Days.atm he_2
   refine zP hf rfl (pIA Try.underlying66 sz_100 rfl rfl qa) fun a hf => zE hf hc rfl (eLdN (vs := [.bool e_2.Known,i6 e_2.Flow.Lo,i6 e_2.Flow.Hi]) ag_100 rfl rfl (cells_pc qp (n := 3) (o' := 0) rfl)) fun a w hf hc => zA hf hc zr_100 rfl fun b_4 a w hf hc => sp 1 hf rfl fun a hf => zW hf hc sz_100 u0 rfl fun w hc => zT h ?_
   refine zS fun K h => zP hf rfl (pFA fa_68_2 rfl) fun a hf => zL hf hc sc_66 m1 rfl fun a w hf hc => zP hf rfl (pLenS Try.underlying66 rfl) fun a hf => sp 1 hf rfl fun a hf => zT h ?_
   refine wp_thenK fun K17 h17 => wp_block ?_
   obtain ⟨x18,hx18,hF⟩ := bnd_some hF
   let S18 : Int → Act → World → Prop := (fun (zz : Int) a w => Has 78 a [(1,pq b_1),(6,i6 a_1),(7,i6 b_2),(8,i6 e_1),(9,i6 x),(10,pq b_4),(21,.slice r_Days_p r.Days.length r_Days_c),(22,i6 ((r.Days.length : Nat) : Int)),(23,i6 x),(29,.slice r_Days_p r.Days.length r_Days_c),(30,i6 ((r.Days.length : Nat) : Int)),(31,i6 zz)] ∧ Ctx G (.box b_4 [.bool e_2.Known,i6 e_2.Flow.Lo,i6 e_2.Flow.Hi] 100::.box b_1 [i6 r.Rise,i6 r.Fall,.slice r_Days_p r.Days.length r_Days_c] 68::Lf) w)
   have hr18 : ∀ (zz : Int) a w,x18 = .go zz → S18 zz a w → K17 a w := by
    rintro x_1 a w rfl ⟨hf,hc⟩
    replace hF := exK_go hF
    refine h17 _ _ ?_
    refine h14 _ _ ?_
    refine cReg ?_
    refine sp 2 hf rfl fun a hf => cNil ?_
    replace hc := hc.drop k0
    exact hK10 (a_1,b_2,e_1,W (x + 1)) _ _ (sj hF).symm ⟨hf.kp rfl,hc⟩
   have ho18 : ∀ r,x18 = .out r → r = st10 := by
    rintro r rfl
    exact sj hF
   refine cLoop N (loopW (S := S18) (x := x18) ?_ N 0 _ _ ⟨hf.kp rfl,hc⟩ hx18)
   clear hF hf hc
   rintro x_1 st18 a w KB18 ⟨hf,hc⟩ hF hfin18 hK18
   unfold daily_Clash_b18 at hF
   refine zS fun K h => sp 1 hf rfl fun a hf => zT h ?_
   refine wp_seq_k fun K20 h20 => zI hf rfl hF ?_ ?_ <;> clear hF <;> intro hF
   ·refine wp_skip ?_
    refine h20 _ _ ?_
    refine wp_seq_k fun K21 h21 => wp_block ?_
    refine zS fun K h => sp 1 hf rfl fun a hf => ?_
    obtain ⟨e_3,he_3,hF⟩ := bnd_some hF
    obtain ⟨b_5,o_1,qa_1,qp_1⟩ := h_r_Days.atm he_3
    refine zP hf rfl (pIA Try.underlying66 sz_100 rfl rfl qa_1) fun a hf => zE hf hc rfl (eLdN (vs := [.bool e_3.Known,i6 e_3.Flow.Lo,i6 e_3.Flow.Hi]) ag_100 rfl rfl (cells_pc qp_1 (n := 3) (o' := 0) rfl)) fun a w hf hc => zA hf hc zr_100 rfl fun b_6 a w hf hc => sp 1 hf rfl fun a hf => zW hf hc sz_100 u0 rfl fun w hc => zT h ?_
    refine wp_seq_k fun K23 h23 => ?_
    obtain ⟨r_1,hr_1,hF⟩ := bnd_some hF
    obtain ⟨r_2,hr_2,hF⟩ := bnd_some hF
    replace hc := hc.nilRow 0 0
    replace hc := hc.nilRow 0 0
    refine regionE (fun θ => [⟨none,none,1,pq b_1⟩,⟨none,none,6,i6 a_1⟩,⟨none,none,7,i6 b_2⟩,⟨none,none,8,i6 e_1⟩,⟨none,none,9,i6 x⟩,⟨none,none,10,pq b_4⟩,⟨none,none,11,i6 x_1⟩,⟨none,none,12,pq b_6⟩,⟨none,none,21,.slice r_Days_p r.Days.length r_Days_c⟩,⟨none,none,22,i6 ((r.Days.length : Nat) : Int)⟩,⟨none,none,23,i6 x⟩,⟨none,none,29,.slice r_Days_p r.Days.length r_Days_c⟩,⟨none,none,30,i6 ((r.Days.length : Nat) : Int)⟩,⟨none,none,31,i6 x_1⟩,⟨some 0,none,36,.agg #[.bool e_2.Known,i6 e_2.Flow.Lo,i6 e_2.Flow.Hi]⟩,⟨some 1,none,37,.agg #[i6 r_1.Lo,i6 r_1.Hi]⟩,⟨some 2,none,38,.agg #[.bool e_3.Known,i6 e_3.Flow.Lo,i6 e_3.Flow.Hi]⟩,⟨some 3,none,39,.agg #[i6 r_2.Lo,i6 r_2.Hi]⟩,⟨some 4,none,13,.pointer (some ⟨(θ 32).b,0,none⟩)⟩,⟨some 5,none,14,.pointer (some ⟨(θ 40).b,0,none⟩)⟩]) (fun E θ => (bif E 7 then .box (θ 40).b [i6 r_2.Lo,i6 r_2.Hi] 71 else bif E 5 then .box (θ 40).b [i6 0,i6 0] 71 else .row none 0 [] 0 0)::(bif E 6 then .box (θ 32).b [i6 r_1.Lo,i6 r_1.Hi] 71 else bif E 4 then .box (θ 32).b [i6 0,i6 0] 71 else .row none 0 [] 0 0)::.box b_6 [.bool e_3.Known,i6 e_3.Flow.Lo,i6 e_3.Flow.Hi] 100::.box b_4 [.bool e_2.Known,i6 e_2.Flow.Lo,i6 e_2.Flow.Hi] 100::.box b_1 [i6 r.Rise,i6 r.Fall,.slice r_Days_p r.Days.length r_Days_c] 68::Lf) [(6,4),(7,5)] (fun a w => ∃ (b_9 : Nat) (b_10 : Nat),Has 78 a [(1,pq b_1),(6,i6 a_1),(7,i6 b_2),(8,i6 e_1),(9,i6 x),(10,pq b_4),(11,i6 x_1),(21,.slice r_Days_p r.Days.length r_Days_c),(22,i6 ((r.Days.length : Nat) : Int)),(23,i6 x),(29,.slice r_Days_p r.Days.length r_Days_c),(30,i6 ((r.Days.length : Nat) : Int)),(31,i6 x_1),(13,pq b_9),(14,pq b_10)] ∧ Ctx G (.box b_10 [i6 r_2.Lo,i6 r_2.Hi] 71::.box b_9 [i6 r_1.Lo,i6 r_1.Hi] 71::.box b_6 [.bool e_3.Known,i6 e_3.Flow.Lo,i6 e_3.Flow.Hi] 100::.box b_4 [.bool e_2.Known,i6 e_2.Flow.Lo,i6 e_2.Flow.Hi] 100::.box b_1 [i6 r.Rise,i6 r.Fall,.slice r_Days_p r.Days.length r_Days_c] 68::Lf) w) follows_mx (by kernel_rfl) (by kernel_rfl) (HasE.of hf ⟨rfl,rfl,rfl,rfl,rfl,rfl,rfl,rfl,rfl,rfl,rfl,rfl,rfl,rfl,trivial,trivial,trivial,trivial,trivial,trivial,trivial⟩) hc ⟨?_,?_,?_,?_,?_,?_,?_,?_,trivial⟩ ?_ ?_
    ·intro E θ a w hD hi hp he hc
     have hf := he.h0.mT he 5 rfl
     refine zN hf hc ag_100 m3 rfl fun a w hf hc => zD θ he hi hf 14 rfl rfl rfl hc
    ·intro E θ a w hD hi hp he hc
     have e0 := hp.o 0 rfl
     have hf := he.h0.mP he 14 rfl e0
     refine zQ (v := .agg #[i6 r_1.Lo,i6 r_1.Hi]) hf hc en_51 rfl (fun w hc => daily_Value_span_ok e_2 hc hr_1) fun a w hf hc => zD θ he hi hf 15 rfl rfl rfl hc
    ·intro E θ a w hD hi hp he hc
     have hf := he.h0.mT he 7 rfl
     refine zN hf hc ag_100 m2 rfl fun a w hf hc => zD θ he hi hf 16 rfl rfl rfl hc
    ·intro E θ a w hD hi hp he hc
     have e2 := hp.o 2 rfl
     have hf := he.h0.mP he 16 rfl e2
     refine zQ (v := .agg #[i6 r_2.Lo,i6 r_2.Hi]) hf hc en_51 rfl (fun w hc => daily_Value_span_ok e_3 hc hr_2) fun a w hf hc => zD θ he hi hf 17 rfl rfl rfl hc
    ·intro E θ a w hD hi hp he hc
     have e6 := hD.f 0 rfl hi
     try dsimp only at hc
     rw [hi,e6] at hc
     have hf := he.h0
     refine zA hf hc zr_71 rfl fun b_7 a w hf hc => cNil ?_
     refine xThenN ?_
     intro ds u hau
     replace hc := ((hc.drop k2).pick k0).pick k1
     refine ⟨(setT θ 32 ⟨b_7,none,0,(fun _ => (none,0))⟩),he.put hi hau hf rfl [] trivial ⟨qq,qq,qq,qq,qq,qq,qq,qq,qq,qq,qq,qq,qq,qq,qq,qq,qq,qq,qq,qq,trivial⟩,?_⟩
     try dsimp only
     rw [updE_self E 4,updE_fls 4 e6 rfl]
     exact hc
    ·intro E θ a w hD hi hp he hc
     have e7 := hD.f 1 rfl hi
     try dsimp only at hc
     rw [hi,e7] at hc
     have hf := he.h0
     refine zA hf hc zr_71 rfl fun b_8 a w hf hc => cNil ?_
     refine xThenN ?_
     intro ds u hau
     replace hc := hc.drop k1
     refine ⟨(setT θ 40 ⟨b_8,none,0,(fun _ => (none,0))⟩),he.put hi hau hf rfl [] trivial ⟨qq,qq,qq,qq,qq,qq,qq,qq,qq,qq,qq,qq,qq,qq,qq,qq,qq,qq,qq,qq,trivial⟩,?_⟩
     try dsimp only
     rw [updE_self E 5,updE_fls 5 e7 rfl]
     exact hc
    ·intro E θ a w hD hi hp he hc
     have e1 := hp.o 1 rfl
     have e4 := hp.o 4 rfl
     try dsimp only at hc
     rw [e4,hi] at hc
     have hf := (he.h0.mP he 15 rfl e1).mP he 18 rfl e4
     refine zW hf hc sz_71 u1 rfl fun w hc => zG θ he hi hf rfl ?_
     try dsimp only
     rw [updE_tru 6 e4,updE_self E 6]
     exact hc
    ·intro E θ a w hD hi hp he hc
     have e3 := hp.o 3 rfl
     have e5 := hp.o 5 rfl
     try dsimp only at hc
     rw [e5,hi] at hc
     have hf := (he.h0.mP he 17 rfl e3).mP he 19 rfl e5
     refine zW hf hc sz_71 u0 rfl fun w hc => zG θ he hi hf rfl ?_
     try dsimp only
     rw [updE_tru 7 e5,updE_self E 7]
     exact hc
    ·intro E θ a w hall he hc
     have hf := he.h0
     have e4 := hall 4 rfl
     have e5 := hall 5 rfl
     have e6 := hall 6 rfl
     have e7 := hall 7 rfl
     replace hf := hf.more he 19 rfl (onP e5)
     replace hf := hf.more he 18 rfl (onP e4)
     replace hf := hf.more he 13 rfl (onT)
     replace hf := hf.more he 12 rfl (onT)
     replace hf := hf.more he 11 rfl (onT)
     replace hf := hf.more he 10 rfl (onT)
     replace hf := hf.more he 9 rfl (onT)
     replace hf := hf.more he 8 rfl (onT)
     replace hf := hf.more he 6 rfl (onT)
     replace hf := hf.more he 5 rfl (onT)
     replace hf := hf.more he 4 rfl (onT)
     replace hf := hf.more he 3 rfl (onT)
     replace hf := hf.more he 2 rfl (onT)
     replace hf := hf.more he 1 rfl (onT)
     replace hf := hf.more he 0 rfl (onT)
     try dsimp only at hc
     rw [e4,e5,e6,e7] at hc
     exact ⟨(θ 32).b,(θ 40).b,hf.kp rfl,hc⟩
    rintro a w ⟨b_9,b_10,hf,hc⟩
    refine h23 _ _ ?_
    refine zS fun K h => sp 4 hf rfl fun a hf => stCc 27 (fun a => Has 78 a [(1,pq b_1),(6,i6 a_1),(7,i6 b_2),(8,i6 e_1),(9,i6 x),(10,pq b_4),(11,i6 x_1),(21,.slice r_Days_p r.Days.length r_Days_c),(22,i6 ((r.Days.length : Nat) : Int)),(23,i6 x),(29,.slice r_Days_p r.Days.length r_Days_c),(30,i6 ((r.Days.length : Nat) : Int)),(31,i6 x_1),(13,pq b_9),(14,pq b_10),(40,i6 x_1),(41,i6 x),(42,.bool (decide (x < x_1))),(43,.bool (decide (x < x_1))),(70,.bool ((decide (x < x_1)) && ((decide ((W (r_1.Hi + (W (r.Rise * (W (x_1 - x)))))) < r_2.Lo)) || (decide (r_2.Hi < (W (r_1.Lo - (W (r.Fall * (W (x_1 - x)))))))))))]) hc ?_ ?_
    ·cases hb : (decide (x < x_1))
     ·rw [hb] at hf
      refine stS hf rfl rfl rfl fun a hf => stS hf rfl rfl rfl fun a hf => stS hf rfl rfl rfl fun a hf => stS hf rfl rfl rfl fun a hf => stS hf rfl rfl rfl fun a hf => stS hf rfl rfl rfl fun a hf => stS hf rfl rfl rfl fun a hf => stS hf rfl rfl rfl fun a hf => stS hf rfl rfl rfl fun a hf => stS hf rfl rfl rfl fun a hf => stS hf rfl rfl rfl fun a hf => stS hf rfl rfl rfl fun a hf => stS hf rfl rfl rfl fun a hf => ?_
      refine stS hf rfl rfl rfl fun a hf => stS hf rfl rfl rfl fun a hf => stS hf rfl rfl rfl fun a hf => stS hf rfl rfl rfl fun a hf => stS hf rfl rfl rfl fun a hf => stS hf rfl rfl rfl fun a hf => stS hf rfl rfl rfl fun a hf => stS hf rfl rfl rfl fun a hf => stS hf rfl rfl rfl fun a hf => stS hf rfl rfl rfl fun a hf => stS hf rfl rfl rfl fun a hf => stS hf rfl rfl rfl fun a hf => stS hf rfl rfl rfl fun a hf => ?_
      refine sp 1 hf rfl fun a hf => cNil ⟨hf.kp rfl,hc⟩
     ·rw [hb] at hf
      refine zP hf rfl (pFA fa_71_1 rfl) fun a hf => zL hf hc sc_3 m1 rfl fun a w hf hc => zP hf rfl (pFA fa_68_0 rfl) fun a hf => zL hf hc sc_3 m4 rfl fun a w hf hc => sp 5 hf rfl fun a hf => zP hf rfl (pFA fa_71_0 rfl) fun a hf => zL hf hc sc_3 m0 rfl fun a w hf hc => sp 2 hf rfl fun a hf => stCc 13 (fun a => Has 78 a ((1,pq b_1)::(6,i6 a_1)::(7,i6 b_2)::(8,i6 e_1)::(9,i6 x)::(10,pq b_4)::(11,i6 x_1)::(21,.slice r_Days_p r.Days.length r_Days_c)::(22,i6 ((r.Days.length : Nat) : Int))::(23,i6 x)::(29,.slice r_Days_p r.Days.length r_Days_c)::(30,i6 ((r.Days.length : Nat) : Int))::(31,i6 x_1)::(13,pq b_9)::(14,pq b_10)::(40,i6 x_1)::(41,i6 x)::(42,.bool true)::(43,.bool true)::(44,.pointer (some ⟨b_9,1,none⟩))::(45,i6 r_1.Hi)::(46,pq b_1)::(47,i6 r.Rise)::(48,i6 x_1)::(49,i6 x)::(50,i6 (W (x_1 - x)))::(51,i6 (W (r.Rise * (W (x_1 - x)))))::(52,i6 (W (r_1.Hi + (W (r.Rise * (W (x_1 - x)))))))::(53,pq b_10)::(54,i6 r_2.Lo)::(55,.bool (decide ((W (r_1.Hi + (W (r.Rise * (W (x_1 - x)))))) < r_2.Lo)))::(56,.bool (decide ((W (r_1.Hi + (W (r.Rise * (W (x_1 - x)))))) < r_2.Lo)))::(69,.bool ((decide ((W (r_1.Hi + (W (r.Rise * (W (x_1 - x)))))) < r_2.Lo)) || (decide (r_2.Hi < (W (r_1.Lo - (W (r.Fall * (W (x_1 - x))))))))))::[])) hc ?_ ?_
      ·cases hb : (decide ((W (r_1.Hi + (W (r.Rise * (W (x_1 - x)))))) < r_2.Lo))
       ·rw [hb] at hf
        refine zP hf rfl (pFA fa_71_0 rfl) fun a hf => zL hf hc sc_3 m1 rfl fun a w hf hc => zP hf rfl (pFA fa_68_1 rfl) fun a hf => zL hf hc sc_3 m4 rfl fun a w hf hc => sp 5 hf rfl fun a hf => zP hf rfl (pFA fa_71_1 rfl) fun a hf => zL hf hc sc_3 m0 rfl fun a w hf hc => sp 2 hf rfl fun a hf => cNil ⟨hf.kp rfl,hc⟩
       ·rw [hb] at hf
        refine stS hf rfl rfl rfl fun a hf => stS hf rfl rfl rfl fun a hf => stS hf rfl rfl rfl fun a hf => stS hf rfl rfl rfl fun a hf => stS hf rfl rfl rfl fun a hf => stS hf rfl rfl rfl fun a hf => stS hf rfl rfl rfl fun a hf => stS hf rfl rfl rfl fun a hf => stS hf rfl rfl rfl fun a hf => stS hf rfl rfl rfl fun a hf => stS hf rfl rfl rfl fun a hf => stS hf rfl rfl rfl fun a hf => sp 1 hf rfl fun a hf => ?_
        exact cNil ⟨hf.kp rfl,hc⟩
      intro a w ⟨hf,hc⟩
      refine sp 1 hf rfl fun a hf => cNil ⟨hf.kp rfl,hc⟩
    intro a w ⟨hf,hc⟩
    refine zT h ?_
    refine zI hf rfl hF ?_ ?_ <;> clear hF <;> intro hF
    ·refine zS fun K h => sp 5 hf rfl fun a hf => zT h ?_
     refine wp_exit ?_
     refine cMiss rfl ?_
     refine xThen ?_
     refine xThen ?_
     have he := sj hF
     rw [← he] at hfin18
     replace hF := ho18 _ hfin18
     refine cMiss rfl ?_
     refine xThen ?_
     refine cMiss rfl ?_
     refine xThen ?_
     refine xThen ?_
     replace hc := (((hc.drop k3).drop k2).drop k1).drop k0
     have he := hF
     rw [← he] at hfin10
     refine cHit ?_
     exact hr10 _ _ _ hfin10 ⟨hf.kp rfl,hc⟩
    ·refine wp_skip ?_
     refine h21 _ _ ?_
     refine cReg ?_
     refine sp 2 hf rfl fun a hf => cNil ?_
     replace hc := ((hc.drop k2).drop k1).drop k0
     exact hK18 (W (x_1 + 1)) _ _ (sj hF).symm ⟨hf.kp rfl,hc⟩
   ·refine wp_exit ?_
    refine xThen ?_
    refine xThen ?_
    have he := sj hF
    rw [← he] at hfin18
    refine cHit ?_
    exact hr18 _ _ _ hfin18 ⟨hf.kp rfl,hc⟩
  ·refine wp_exit ?_
   refine xThen ?_
   refine xThen ?_
   have he := sj hF
   rw [← he] at hfin10
   refine cHit ?_
   exact hr10 _ _ _ hfin10 ⟨hf.kp rfl,hc⟩

def kit_Same_api_Span_b7 (N : Nat) (a_ : List api_Span) (b_ : List api_Span) (i_1 : Int) : Option (Step (Int) (Bool)) :=
 cond (decide (i_1 < ((a_.length : Nat) : Int)))
 (Option.bind (getI a_ i_1) fun e_1 =>
 Option.bind (getI b_ i_1) fun e_2 =>
 cond (!(e_1.Lo == e_2.Lo && e_1.Hi == e_2.Hi))
 (some (.ret false))
 (some (.cont (W (i_1 + 1)))))
 (some (.brk i_1))
def kit_Same_api_Span (N : Nat) (a_ : List api_Span) (b_ : List api_Span) : Option (Bool) :=
 cond (((a_.length : Nat) : Int) != ((b_.length : Nat) : Int))
 (some false)
 (Option.bind (loopO (fun s7 => kit_Same_api_Span_b7 N a_ b_ s7) N 0) fun x7 =>
 exK x7 (fun s7 => some true) some)
theorem kit_Same_api_Span_ok {N : Nat} {G : Pers} {Lf : List Ent} {w : World} (a_ : List api_Span) (b_ : List api_Span) {a__p : Option Addr} {a__c : Nat} {b__p : Option Addr} {b__c : Nat} (h_a_ : Rd G 2 a__p a__c (a_.map enc_api_Span)) (h_b_ : Rd G 2 b__p b__c (b_.map enc_api_Span)) (hc : Ctx G (Lf) w) {res : Bool} (hF : kit_Same_api_Span N a_ b_ = some res) : Calls Try.prog 29 #[.slice a__p a_.length a__c,.slice b__p b_.length b__c] w (fun e w => e = .returned (.bool res) ∧ Ctx G (Lf) w) := by
 unfold kit_Same_api_Span at hF
 refine fnIn Try.func29 rfl Try.ntmps29 rfl fun a hf => zS fun K h => sp 1 hf rfl fun a hf => zT h ?_
 refine wp_seq_k fun K2 h2 => zS fun K h => sp 1 hf rfl fun a hf => zP hf rfl (pLenS Try.underlying63 rfl) fun a hf => sp 1 hf rfl fun a hf => zP hf rfl (pLenS Try.underlying63 rfl) fun a hf => sp 1 hf rfl fun a hf => zT h ?_
 refine zI hf rfl hF ?_ ?_ <;> clear hF <;> intro hF
 ·refine zS fun K h => sp 1 hf rfl fun a hf => zT h ?_
  refine wp_ret ?_
  refine xThenR ?_
  obtain rfl := sj hF
  exact zO1 Try.results29 hf rfl ⟨rfl,hc⟩
 ·refine wp_skip ?_
  refine h2 _ _ ?_
  refine wp_seq_k fun K5 h5 => zS fun K h => sp 1 hf rfl fun a hf => zT h ?_
  refine wp_block ?_
  obtain ⟨x7,hx7,hF⟩ := bnd_some hF
  let S7 : Int → Act → World → Prop := (fun (zz : Int) a w => Has 26 a [(0,.slice a__p a_.length a__c),(1,.slice b__p b_.length b__c),(5,i6 zz)] ∧ Ctx G (Lf) w)
  have hr7 : ∀ (zz : Int) a w,x7 = .go zz → S7 zz a w → K5 a w := by
   rintro i_1 a w rfl ⟨hf,hc⟩
   replace hF := exK_go hF
   refine h5 _ _ ?_
   refine zS fun K h => sp 1 hf rfl fun a hf => zT h ?_
   refine wp_ret ?_
   obtain rfl := sj hF
   exact zO1 Try.results29 hf rfl ⟨rfl,hc⟩
  have ho7 : ∀ r,x7 = .out r → r = res := by
   rintro r rfl
   exact sj hF
  refine cLoop N (loopW (S := S7) (x := x7) ?_ N 0 _ _ ⟨hf.kp rfl,hc⟩ hx7)
  clear hF hf hc
  rintro i_1 st7 a w KB7 ⟨hf,hc⟩ hF hfin7 hK7
  unfold kit_Same_api_Span_b7 at hF
  refine wp_seq_k fun K9 h9 => zS fun K h => sp 2 hf rfl fun a hf => zP hf rfl (pLenS Try.underlying63 rfl) fun a hf => sp 1 hf rfl fun a hf => zT h ?_
  refine zI hf rfl hF ?_ ?_ <;> clear hF <;> intro hF
  ·refine wp_skip ?_
   refine h9 _ _ ?_
   refine wp_seq_k fun K11 h11 => wp_block ?_
   refine wp_seq_k fun K12 h12 => ?_
   obtain ⟨e_1,he_1,hF⟩ := bnd_some hF
   obtain ⟨b_1,o,qa,qp⟩ := h_a_.atm he_1
   obtain ⟨e_2,he_2,hF⟩ := bnd_some hF
   obtain ⟨b_2,o_1,qa_1,qp_1⟩ := h_b_.atm he_2
   refine cQ hc follows_mx (by kernel_rfl) ?_
   refine qE hf rfl rfl rfl (Pu.ev (pM rfl)) fun a hf => qE hf rfl rfl rfl (Pu.ev (pM rfl)) fun a hf => qE hf rfl rfl rfl (Pu.ev (pIA Try.underlying63 sz_71 rfl rfl qa)) fun a hf => qE hf rfl rfl rfl (eLdN (vs := [i6 e_1.Lo,i6 e_1.Hi]) ag_71 rfl rfl (cells_pc qp (n := 2) (o' := 0) rfl)) fun a hf => qE hf rfl rfl rfl (Pu.ev (pM rfl)) fun a hf => qE hf rfl rfl rfl (Pu.ev (pM rfl)) fun a hf => qE hf rfl rfl rfl (Pu.ev (pIA Try.underlying63 sz_71 rfl rfl qa_1)) fun a hf => qE hf rfl rfl rfl (eLdN (vs := [i6 e_2.Lo,i6 e_2.Hi]) ag_71 rfl rfl (cells_pc qp_1 (n := 2) (o' := 0) rfl)) fun a hf => qE hf rfl rfl rfl (Pu.ev (pNeA ge_71 rfl rfl (eqs_71 _ _ _ _))) fun a hf => ?_
   intro w hc
   refine h12 _ _ ?_
   refine zI hf rfl hF ?_ ?_ <;> clear hF <;> intro hF
   ·refine zS fun K h => sp 1 hf rfl fun a hf => zT h ?_
    refine wp_ret ?_
    refine xBlkR ?_
    refine xThenR ?_
    refine xThenR ?_
    have he := sj hF
    rw [← he] at hfin7
    replace hF := ho7 _ hfin7
    refine xBlkR ?_
    refine xThenR ?_
    obtain rfl := hF
    exact zO1 Try.results29 hf rfl ⟨rfl,hc⟩
   ·refine wp_skip ?_
    refine h11 _ _ ?_
    refine cReg ?_
    refine sp 3 hf rfl fun a hf => cNil ?_
    exact hK7 (W (i_1 + 1)) _ _ (sj hF).symm ⟨hf.kp rfl,hc⟩
  ·refine wp_exit ?_
   refine xThen ?_
   refine xThen ?_
   have he := sj hF
   rw [← he] at hfin7
   refine cHit ?_
   exact hr7 _ _ _ hfin7 ⟨hf.kp rfl,hc⟩

def kit_Same_int_b7 (N : Nat) (a_ : List Int) (b_ : List Int) (i_1 : Int) : Option (Step (Int) (Bool)) :=
 cond (decide (i_1 < ((a_.length : Nat) : Int)))
 (Option.bind (getI a_ i_1) fun e_1 =>
 Option.bind (getI b_ i_1) fun e_2 =>
 cond (e_1 != e_2)
 (some (.ret false))
 (some (.cont (W (i_1 + 1)))))
 (some (.brk i_1))
def kit_Same_int (N : Nat) (a_ : List Int) (b_ : List Int) : Option (Bool) :=
 cond (((a_.length : Nat) : Int) != ((b_.length : Nat) : Int))
 (some false)
 (Option.bind (loopO (fun s7 => kit_Same_int_b7 N a_ b_ s7) N 0) fun x7 =>
 exK x7 (fun s7 => some true) some)
theorem kit_Same_int_ok {N : Nat} {G : Pers} {Lf : List Ent} {w : World} (a_ : List Int) (b_ : List Int) {a__p : Option Addr} {a__c : Nat} {b__p : Option Addr} {b__c : Nat} (h_a_ : Rd G 1 a__p a__c (a_.map encI_i64)) (h_b_ : Rd G 1 b__p b__c (b_.map encI_i64)) (hc : Ctx G (Lf) w) {res : Bool} (hF : kit_Same_int N a_ b_ = some res) : Calls Try.prog 31 #[.slice a__p a_.length a__c,.slice b__p b_.length b__c] w (fun e w => e = .returned (.bool res) ∧ Ctx G (Lf) w) := by
 unfold kit_Same_int at hF
 refine fnIn Try.func31 rfl Try.ntmps31 rfl fun a hf => zS fun K h => sp 1 hf rfl fun a hf => zT h ?_
 refine wp_seq_k fun K2 h2 => zS fun K h => sp 1 hf rfl fun a hf => zP hf rfl (pLenS Try.underlying27 rfl) fun a hf => sp 1 hf rfl fun a hf => zP hf rfl (pLenS Try.underlying27 rfl) fun a hf => sp 1 hf rfl fun a hf => zT h ?_
 refine zI hf rfl hF ?_ ?_ <;> clear hF <;> intro hF
 ·refine zS fun K h => sp 1 hf rfl fun a hf => zT h ?_
  refine wp_ret ?_
  refine xThenR ?_
  obtain rfl := sj hF
  exact zO1 Try.results31 hf rfl ⟨rfl,hc⟩
 ·refine wp_skip ?_
  refine h2 _ _ ?_
  refine wp_seq_k fun K5 h5 => zS fun K h => sp 1 hf rfl fun a hf => zT h ?_
  refine wp_block ?_
  obtain ⟨x7,hx7,hF⟩ := bnd_some hF
  let S7 : Int → Act → World → Prop := (fun (zz : Int) a w => Has 26 a [(0,.slice a__p a_.length a__c),(1,.slice b__p b_.length b__c),(5,i6 zz)] ∧ Ctx G (Lf) w)
  have hr7 : ∀ (zz : Int) a w,x7 = .go zz → S7 zz a w → K5 a w := by
   rintro i_1 a w rfl ⟨hf,hc⟩
   replace hF := exK_go hF
   refine h5 _ _ ?_
   refine zS fun K h => sp 1 hf rfl fun a hf => zT h ?_
   refine wp_ret ?_
   obtain rfl := sj hF
   exact zO1 Try.results31 hf rfl ⟨rfl,hc⟩
  have ho7 : ∀ r,x7 = .out r → r = res := by
   rintro r rfl
   exact sj hF
  refine cLoop N (loopW (S := S7) (x := x7) ?_ N 0 _ _ ⟨hf.kp rfl,hc⟩ hx7)
  clear hF hf hc
  rintro i_1 st7 a w KB7 ⟨hf,hc⟩ hF hfin7 hK7
  unfold kit_Same_int_b7 at hF
  refine wp_seq_k fun K9 h9 => zS fun K h => sp 2 hf rfl fun a hf => zP hf rfl (pLenS Try.underlying27 rfl) fun a hf => sp 1 hf rfl fun a hf => zT h ?_
  refine zI hf rfl hF ?_ ?_ <;> clear hF <;> intro hF
  ·refine wp_skip ?_
   refine h9 _ _ ?_
   refine wp_seq_k fun K11 h11 => wp_block ?_
   refine wp_seq_k fun K12 h12 => ?_
   obtain ⟨e_1,he_1,hF⟩ := bnd_some hF
   obtain ⟨b_1,o,qa,qp⟩ := h_a_.atm he_1
   obtain ⟨e_2,he_2,hF⟩ := bnd_some hF
   obtain ⟨b_2,o_1,qa_1,qp_1⟩ := h_b_.atm he_2
   refine cQ hc follows_mx (by kernel_rfl) ?_
   refine qE hf rfl rfl rfl (Pu.ev (pM rfl)) fun a hf => qE hf rfl rfl rfl (Pu.ev (pM rfl)) fun a hf => qE hf rfl rfl rfl (Pu.ev (pIA Try.underlying27 sz_3 rfl rfl qa)) fun a hf => qE hf rfl rfl rfl (eLd1 sc_3 rfl (cell_pc (j := 0) qp rfl)) fun a hf => qE hf rfl rfl rfl (Pu.ev (pM rfl)) fun a hf => qE hf rfl rfl rfl (Pu.ev (pM rfl)) fun a hf => qE hf rfl rfl rfl (Pu.ev (pIA Try.underlying27 sz_3 rfl rfl qa_1)) fun a hf => qE hf rfl rfl rfl (eLd1 sc_3 rfl (cell_pc (j := 0) qp_1 rfl)) fun a hf => qE hf rfl rfl rfl (Pu.ev (pNe rfl rfl)) fun a hf => ?_
   intro w hc
   refine h12 _ _ ?_
   refine zI hf rfl hF ?_ ?_ <;> clear hF <;> intro hF
   ·refine zS fun K h => sp 1 hf rfl fun a hf => zT h ?_
    refine wp_ret ?_
    refine xBlkR ?_
    refine xThenR ?_
    refine xThenR ?_
    have he := sj hF
    rw [← he] at hfin7
    replace hF := ho7 _ hfin7
    refine xBlkR ?_
    refine xThenR ?_
    obtain rfl := hF
    exact zO1 Try.results31 hf rfl ⟨rfl,hc⟩
   ·refine wp_skip ?_
    refine h11 _ _ ?_
    refine cReg ?_
    refine sp 3 hf rfl fun a hf => cNil ?_
    exact hK7 (W (i_1 + 1)) _ _ (sj hF).symm ⟨hf.kp rfl,hc⟩
  ·refine wp_exit ?_
   refine xThen ?_
   refine xThen ?_
   have he := sj hF
   rw [← he] at hfin7
   refine cHit ?_
   exact hr7 _ _ _ hfin7 ⟨hf.kp rfl,hc⟩

def daily_every_api_Span_1_s2 (x : api_Span) : Bool :=
 (!(daily_flows x))
theorem daily_every_api_Span_1_s2_ok {G : Pers} {Lf : List Ent} {w : World} (x : api_Span) {b_ : Nat}  (hc : Ctx G (.box b_ [.func (.func 53) #[] #[]] 113::Lf) w) {res : Bool} (hF : daily_every_api_Span_1_s2 x = res) : Calls Try.prog 76 #[.agg #[i6 x.Lo,i6 x.Hi],pq b_] w (fun e w => e = .returned (.bool res) ∧ Ctx G (.box b_ [.func (.func 53) #[] #[]] 113::Lf) w) := by
 unfold daily_every_api_Span_1_s2 at hF
 refine fnIn Try.func76 rfl Try.ntmps76 rfl fun a hf => zS fun K h => zB hf hc rfl fun b_1 a w hf hc => sp 1 hf rfl fun a hf => zT h ?_
 refine zS fun K h => zL hf hc sc_113 m1 rfl fun a w hf hc => zN hf hc ag_71 m0 rfl fun a w hf hc => zQ (v := .bool (daily_flows x)) hf hc en_53 rfl (fun w hc => daily_flows_ok x hc rfl) fun a w hf hc => sp 2 hf rfl fun a hf => zT h ?_
 refine wp_ret ?_
 obtain rfl := hF
 replace hc := hc.drop k0
 exact zO1 Try.results76 hf rfl ⟨rfl,hc⟩

def slices_IndexFunc_Lapi_Span_api_Span_s2_b4 (N : Nat) (s_ : List api_Span) (x : Int) : Option (Step (Int) (Int)) :=
 cond (decide (x < ((s_.length : Nat) : Int)))
 (Option.bind (getI s_ x) fun e_1 =>
 cond (daily_every_api_Span_1_s2 e_1)
 (some (.ret x))
 (some (.cont (W (x + 1)))))
 (some (.brk x))
def slices_IndexFunc_Lapi_Span_api_Span_s2 (N : Nat) (s_ : List api_Span) : Option (Int) :=
 Option.bind (loopO (fun s4 => slices_IndexFunc_Lapi_Span_api_Span_s2_b4 N s_ s4) N 0) fun x4 =>
 exK x4 (fun s4 => some (-1)) some
theorem slices_IndexFunc_Lapi_Span_api_Span_s2_ok {N : Nat} {G : Pers} {Lf : List Ent} {w : World} (s_ : List api_Span) {s__p : Option Addr} {s__c : Nat} {b_ : Nat} (h_s_ : Rd G 2 s__p s__c (s_.map enc_api_Span)) (hc : Ctx G (.box b_ [.func (.func 53) #[] #[]] 113::Lf) w) {res : Int} (hF : slices_IndexFunc_Lapi_Span_api_Span_s2 N s_ = some res) : Calls Try.prog 90 #[.slice s__p s_.length s__c,.func (.func 76) #[] #[pq b_]] w (fun e w => e = .returned (i6 res) ∧ Ctx G (.box b_ [.func (.func 53) #[] #[]] 113::Lf) w) := by
 unfold slices_IndexFunc_Lapi_Span_api_Span_s2 at hF
 refine fnIn Try.func90 rfl Try.ntmps90 rfl fun a hf => zS fun K h => sp 1 hf rfl fun a hf => zT h ?_
 refine wp_seq_k fun K2 h2 => zS fun K h => sp 1 hf rfl fun a hf => zP hf rfl (pLenS Try.underlying63 rfl) fun a hf => sp 1 hf rfl fun a hf => zT h ?_
 refine wp_block ?_
 obtain ⟨x4,hx4,hF⟩ := bnd_some hF
 let S4 : Int → Act → World → Prop := (fun (zz : Int) a w => Has 19 a [(0,.slice s__p s_.length s__c),(1,.func (.func 76) #[] #[pq b_]),(7,i6 ((s_.length : Nat) : Int)),(8,i6 zz)] ∧ Ctx G (.box b_ [.func (.func 53) #[] #[]] 113::Lf) w)
 have hr4 : ∀ (zz : Int) a w,x4 = .go zz → S4 zz a w → K2 a w := by
  rintro x a w rfl ⟨hf,hc⟩
  replace hF := exK_go hF
  refine h2 _ _ ?_
  refine zS fun K h => sp 1 hf rfl fun a hf => zT h ?_
  refine wp_ret ?_
  obtain rfl := sj hF
  exact zO1 Try.results90 hf rfl ⟨rfl,hc⟩
 have ho4 : ∀ r,x4 = .out r → r = res := by
  rintro r rfl
  exact sj hF
 refine cLoop N (loopW (S := S4) (x := x4) ?_ N 0 _ _ ⟨hf.kp rfl,hc⟩ hx4)
 clear hF hf hc
 rintro x st4 a w KB4 ⟨hf,hc⟩ hF hfin4 hK4
 unfold slices_IndexFunc_Lapi_Span_api_Span_s2_b4 at hF
 refine zS fun K h => sp 1 hf rfl fun a hf => zT h ?_
 refine wp_seq_k fun K7 h7 => zI hf rfl hF ?_ ?_ <;> clear hF <;> intro hF
 ·refine wp_skip ?_
  refine h7 _ _ ?_
  refine wp_seq_k fun K8 h8 => wp_block ?_
  refine zS fun K h => sp 2 hf rfl fun a hf => zT h ?_
  refine zS fun K h => sp 3 hf rfl fun a hf => ?_
  obtain ⟨e_1,he_1,hF⟩ := bnd_some hF
  obtain ⟨b_1,o,qa,qp⟩ := h_s_.atm he_1
  refine zP hf rfl (pIA Try.underlying63 sz_71 rfl rfl qa) fun a hf => zE hf hc rfl (eLdN (vs := [i6 e_1.Lo,i6 e_1.Hi]) ag_71 rfl rfl (cells_pc qp (n := 2) (o' := 0) rfl)) fun a w hf hc => zQ (v := .bool (daily_every_api_Span_1_s2 e_1)) hf hc en_76 rfl (fun w hc => (daily_every_api_Span_1_s2_ok e_1 (hc.pick k0) rfl).mono fun e w h => ⟨h.1,(h.2.unpick k0)⟩) fun a w hf hc => zT h ?_
  refine zI hf rfl hF ?_ ?_ <;> clear hF <;> intro hF
  ·refine zS fun K h => sp 2 hf rfl fun a hf => zT h ?_
   refine wp_ret ?_
   refine xBlkR ?_
   refine xThenR ?_
   refine xThenR ?_
   have he := sj hF
   rw [← he] at hfin4
   replace hF := ho4 _ hfin4
   refine xBlkR ?_
   refine xThenR ?_
   obtain rfl := hF
   exact zO1 Try.results90 hf rfl ⟨rfl,hc⟩
  ·refine wp_skip ?_
   refine h8 _ _ ?_
   refine cReg ?_
   refine sp 2 hf rfl fun a hf => cNil ?_
   exact hK4 (W (x + 1)) _ _ (sj hF).symm ⟨hf.kp rfl,hc⟩
 ·refine wp_exit ?_
  refine xThen ?_
  refine xThen ?_
  have he := sj hF
  rw [← he] at hfin4
  refine cHit ?_
  exact hr4 _ _ _ hfin4 ⟨hf.kp rfl,hc⟩

def slices_ContainsFunc_Lapi_Span_api_Span_s2 (N : Nat) (s_ : List api_Span) : Option (Bool) :=
 Option.bind (slices_IndexFunc_Lapi_Span_api_Span_s2 N s_) fun r =>
 some (decide (0 ≤ r))
theorem slices_ContainsFunc_Lapi_Span_api_Span_s2_ok {N : Nat} {G : Pers} {Lf : List Ent} {w : World} (s_ : List api_Span) {s__p : Option Addr} {s__c : Nat} {b_ : Nat} (h_s_ : Rd G 2 s__p s__c (s_.map enc_api_Span)) (hc : Ctx G (.box b_ [.func (.func 53) #[] #[]] 113::Lf) w) {res : Bool} (hF : slices_ContainsFunc_Lapi_Span_api_Span_s2 N s_ = some res) : Calls Try.prog 75 #[.slice s__p s_.length s__c,.func (.func 76) #[] #[pq b_]] w (fun e w => e = .returned (.bool res) ∧ Ctx G (.box b_ [.func (.func 53) #[] #[]] 113::Lf) w) := by
 unfold slices_ContainsFunc_Lapi_Span_api_Span_s2 at hF
 refine fnIn Try.func75 rfl Try.ntmps75 rfl fun a hf => zS fun K h => sp 1 hf rfl fun a hf => zT h ?_
 refine zS fun K h => sp 2 hf rfl fun a hf => ?_
 obtain ⟨r,hr,hF⟩ := bnd_some hF
 refine zQ (v := i6 r) hf hc en_90 rfl (fun w hc => (slices_IndexFunc_Lapi_Span_api_Span_s2_ok s_ h_s_ (hc.pick k0) hr).mono fun e w h => ⟨h.1,(h.2.unpick k0)⟩) fun a w hf hc => sp 2 hf rfl fun a hf => zT h ?_
 refine wp_ret ?_
 obtain rfl := sj hF
 exact zO1 Try.results75 hf rfl ⟨rfl,hc⟩

def daily_every_api_Span_s2 (N : Nat) (l : List api_Span) : Option (Bool) :=
 Option.bind (slices_ContainsFunc_Lapi_Span_api_Span_s2 N l) fun r =>
 some (!r)
theorem daily_every_api_Span_s2_ok {N : Nat} {G : Pers} {Lf : List Ent} {w : World} (l : List api_Span) {l_p : Option Addr} {l_c : Nat} (h_l : Rd G 2 l_p l_c (l.map enc_api_Span)) (hc : Ctx G (Lf) w) {res : Bool} (hF : daily_every_api_Span_s2 N l = some res) : Calls Try.prog 52 #[.slice l_p l.length l_c,.func (.func 53) #[] #[]] w (fun e w => e = .returned (.bool res) ∧ Ctx G (Lf) w) := by
 unfold daily_every_api_Span_s2 at hF
 refine fnIn Try.func52 rfl Try.ntmps52 rfl fun a hf => zS fun K h => zB hf hc rfl fun b_1 a w hf hc => sp 1 hf rfl fun a hf => zT h ?_
 refine zS fun K h => sp 1 hf rfl fun a hf => zP hf rfl (pMF (us := [pq b_1]) rfl rfl) fun a hf => ?_
 obtain ⟨r,hr,hF⟩ := bnd_some hF
 refine zQ (v := .bool r) hf hc en_75 rfl (fun w hc => (slices_ContainsFunc_Lapi_Span_api_Span_s2_ok l h_l (hc.pick k0) hr).mono fun e w h => ⟨h.1,(h.2.unpick k0)⟩) fun a w hf hc => sp 2 hf rfl fun a hf => zT h ?_
 refine wp_ret ?_
 obtain rfl := sj hF
 replace hc := hc.drop k0
 exact zO1 Try.results52 hf rfl ⟨rfl,hc⟩

def daily_work_again (N : Nat) (w_ : daily_work) (day : Int) (published : api_Span) : Option (Bool) :=
 Option.bind (getI w_.spans day) fun e_1 =>
 some ((decide (e_1.Lo < published.Lo)) || (decide (published.Hi < e_1.Hi)))
theorem daily_work_again_ok {N : Nat} {G : Pers} {Lf : List Ent} {w : World} (w_ : daily_work) (day : Int) (published : api_Span) {b_ : Nat} {w__Record_Days_p : Option Addr} {w__Record_Days_c : Nat} {w__spans_p : Option Addr} {w__spans_c : Nat} (h_w__Record_Days : Rd G 3 w__Record_Days_p w__Record_Days_c (w_.Record.Days.map enc_daily_Value)) (h_w__spans : Rd G 2 w__spans_p w__spans_c (w_.spans.map enc_api_Span)) (hc : Ctx G (.box b_ [i6 w_.Record.Rise,i6 w_.Record.Fall,.slice w__Record_Days_p w_.Record.Days.length w__Record_Days_c,.slice w__spans_p w_.spans.length w__spans_c] 98::Lf) w) {res : Bool} (hF : daily_work_again N w_ day published = some res) : Calls Try.prog 54 #[pq b_,i6 day,.agg #[i6 published.Lo,i6 published.Hi]] w (fun e w => e = .returned (.bool res) ∧ Ctx G (.box b_ [i6 w_.Record.Rise,i6 w_.Record.Fall,.slice w__Record_Days_p w_.Record.Days.length w__Record_Days_c,.slice w__spans_p w_.spans.length w__spans_c] 98::Lf) w) := by
 unfold daily_work_again at hF
 refine fnIn Try.func54 rfl Try.ntmps54 rfl fun a hf => zS fun K h => zB hf hc rfl fun b_1 a w hf hc => sp 1 hf rfl fun a hf => zT h ?_
 refine zS fun K h => sp 2 hf rfl fun a hf => zP hf rfl (pFA fa_98_1 rfl) fun a hf => zL hf hc sc_63 m1 rfl fun a w hf hc => sp 1 hf rfl fun a hf => ?_
 obtain ⟨e_1,he_1,hF⟩ := bnd_some hF
 obtain ⟨b_2,o,qa,qp⟩ := h_w__spans.atm he_1
 refine zP hf rfl (pIA Try.underlying63 sz_71 rfl rfl qa) fun a hf => zE hf hc rfl (eLdN (vs := [i6 e_1.Lo,i6 e_1.Hi]) ag_71 rfl rfl (cells_pc qp (n := 2) (o' := 0) rfl)) fun a w hf hc => zA hf hc zr_71 rfl fun b_3 a w hf hc => zW hf hc sz_71 u0 rfl fun w hc => zT h ?_
 refine zS fun K h => zP hf rfl (pFA fa_71_0 rfl) fun a hf => zL hf hc sc_3 m0 rfl fun a w hf hc => zP hf rfl (pFA fa_71_0 rfl) fun a hf => zL hf hc sc_3 m1 rfl fun a w hf hc => sp 2 hf rfl fun a hf => stCc 6 (fun a => Has 27 a [(5,pq b_1),(6,.bool false),(7,pq b_3),(15,pq b_3),(16,i6 e_1.Lo),(17,pq b_1),(18,i6 published.Lo),(19,.bool (decide (e_1.Lo < published.Lo))),(20,.bool (decide (e_1.Lo < published.Lo))),(26,.bool ((decide (e_1.Lo < published.Lo)) || (decide (published.Hi < e_1.Hi))))]) hc ?_ ?_
 ·cases hb : (decide (e_1.Lo < published.Lo))
  ·rw [hb] at hf
   refine zP hf rfl (pFA fa_71_1 rfl) fun a hf => zL hf hc sc_3 m0 rfl fun a w hf hc => zP hf rfl (pFA fa_71_1 rfl) fun a hf => zL hf hc sc_3 m1 rfl fun a w hf hc => sp 2 hf rfl fun a hf => cNil ⟨hf.kp rfl,hc⟩
  ·rw [hb] at hf
   refine stS hf rfl rfl rfl fun a hf => stS hf rfl rfl rfl fun a hf => stS hf rfl rfl rfl fun a hf => stS hf rfl rfl rfl fun a hf => stS hf rfl rfl rfl fun a hf => sp 1 hf rfl fun a hf => cNil ⟨hf.kp rfl,hc⟩
 intro a w ⟨hf,hc⟩
 refine sp 1 hf rfl fun a hf => zT h ?_
 refine wp_ret ?_
 obtain rfl := sj hF
 replace hc := (hc.drop k1).drop k0
 exact zO1 Try.results54 hf rfl ⟨rfl,hc⟩

def daily_Again_b18 (N : Nat) (published : List api_Span) : Option (Step (Unit) ((List Int) × Int)) :=
 cond (decide (0 < ((published.length : Nat) : Int)))
 (Option.bind (getI published 0) fun e_1 =>
 none)
 (some (.brk ()))
def daily_Again_j36 (N : Nat) (x : Int) (out_1 : List Int) : Option (Step ((List Int) × Int) ((List Int) × Int)) :=
 some (.cont (out_1,W (x + 1)))
def daily_Again_b32 (N : Nat) (r : daily_Record) (published : List api_Span) (r_3 : Int × Int × (List api_Span) × Int) (out : List Int) (x : Int) : Option (Step ((List Int) × Int) ((List Int) × Int)) :=
 cond (decide (x < ((published.length : Nat) : Int)))
 (Option.bind (getI published x) fun e_2 =>
 Option.bind (daily_work_again N (⟨(⟨r_3.1,r_3.2.1,r.Days⟩ : daily_Record),r_3.2.2.1⟩ : daily_work) x e_2) fun r_4 =>
 cond r_4
 (Option.bind (room ((out ++ [x])).length) fun un =>
 daily_Again_j36 N x (out ++ [x]))
 (daily_Again_j36 N x out))
 (some (.brk (out,x)))
def daily_Again (N : Nat) (r : daily_Record) (published : List api_Span) : Option ((List Int) × Int) :=
 Option.bind (daily_Check N r) fun r_0 =>
 cond (r_0 != 0)
 (some (([] : List Int),r_0))
 (cond (((published.length : Nat) : Int) != ((r.Days.length : Nat) : Int))
 (some (([] : List Int),2))
 (Option.bind (daily_every_api_Span_s2 N published) fun r_1 =>
 cond (!r_1)
 (some (([] : List Int),4))
 (Option.bind (daily_agreed N r) (sumK (fun r_2 => cond (r_2 != 0)
 (some (([] : List Int),r_2))
 (Option.bind (loopO (fun (_ : Unit) => daily_Again_b18 N published) N ()) fun x18 =>
 exK x18 (fun (_ : Unit) => some (([] : List Int),0)) some))
 (fun r_3 => cond (r_3.2.2.2 != 0)
 (some (([] : List Int),r_3.2.2.2))
 (Option.bind (loopO (fun s32 => daily_Again_b32 N r published r_3 s32.1 s32.2) N (([] : List Int),0)) fun x32 =>
 exK x32 (fun s32 => some (s32.1,0)) some))))))
theorem daily_Again_ok {N : Nat} {G : Pers} {Lf : List Ent} {w : World} (r : daily_Record) (published : List api_Span) {r_Days_p : Option Addr} {r_Days_c : Nat} {published_p : Option Addr} {published_c : Nat} (h_r_Days : Rd G 3 r_Days_p r_Days_c (r.Days.map enc_daily_Value)) (h_published : Rd G 2 published_p published_c (published.map enc_api_Span)) (hc : Ctx G (Lf) w) {res : (List Int) × Int} (hF : daily_Again N r published = some res) : Calls Try.prog 32 #[.agg #[i6 r.Rise,i6 r.Fall,.slice r_Days_p r.Days.length r_Days_c],.slice published_p published.length published_c] w (fun e w => ∃ (p'1 : Option Addr) (c'1 : Nat),e = .returned (.tuple #[.slice p'1 res.1.length c'1,i6 res.2]) ∧ Ctx G (.row p'1 c'1 (res.1.map encI_i64) 3 1::Lf) w) := by
 unfold daily_Again at hF
 refine fnIn Try.func32 rfl Try.ntmps32 rfl fun a hf => zS fun K h => zB hf hc rfl fun b_1 a w hf hc => sp 2 hf rfl fun a hf => zT h ?_
 refine zS fun K h => zN hf hc ag_68 m0 rfl fun a w hf hc => ?_
 obtain ⟨r_0,hr_0,hF⟩ := bnd_some hF
 refine zQ (v := i6 r_0) hf hc en_46 rfl (fun w hc => daily_Check_ok r h_r_Days hc hr_0) fun a w hf hc => sp 1 hf rfl fun a hf => zT h ?_
 refine wp_seq_k fun K3 h3 => wp_block ?_
 refine zS fun K h => sp 3 hf rfl fun a hf => zT h ?_
 refine zI hf rfl hF ?_ ?_ <;> clear hF <;> intro hF
 ·refine zS fun K h => sp 3 hf rfl fun a hf => zT h ?_
  refine wp_ret ?_
  refine xBlkR ?_
  refine xThenR ?_
  obtain rfl := sj hF
  replace hc := hc.nilRow 3 1
  replace hc := hc.drop k1
  exact zO2 Try.results32 hf rfl rfl ⟨none,0,rfl,hc⟩
 ·refine zS fun K h => sp 1 hf rfl fun a hf => zP hf rfl (pLenS Try.underlying63 rfl) fun a hf => zP hf rfl (pFA fa_68_2 rfl) fun a hf => zL hf hc sc_66 m0 rfl fun a w hf hc => zP hf rfl (pLenS Try.underlying66 rfl) fun a hf => sp 2 hf rfl fun a hf => zT h ?_
  refine zI hf rfl hF ?_ ?_ <;> clear hF <;> intro hF
  ·refine zS fun K h => sp 2 hf rfl fun a hf => zT h ?_
   refine wp_ret ?_
   refine xBlkR ?_
   refine xThenR ?_
   obtain rfl := sj hF
   replace hc := hc.nilRow 3 1
   replace hc := hc.drop k1
   exact zO2 Try.results32 hf rfl rfl ⟨none,0,rfl,hc⟩
  ·refine zS fun K h => sp 1 hf rfl fun a hf => ?_
   obtain ⟨r_1,hr_1,hF⟩ := bnd_some hF
   refine zQ (v := .bool r_1) hf hc en_52 rfl (fun w hc => daily_every_api_Span_s2_ok published h_published hc hr_1) fun a w hf hc => sp 2 hf rfl fun a hf => zT h ?_
   refine zI hf rfl hF ?_ ?_ <;> clear hF <;> intro hF
   ·refine zS fun K h => sp 2 hf rfl fun a hf => zT h ?_
    refine wp_ret ?_
    refine xBlkR ?_
    refine xThenR ?_
    obtain rfl := sj hF
    replace hc := hc.nilRow 3 1
    replace hc := hc.drop k1
    exact zO2 Try.results32 hf rfl rfl ⟨none,0,rfl,hc⟩
   ·refine wp_skip ?_
    refine h3 _ _ ?_
    refine zS fun K h => zN hf hc ag_68 m0 rfl fun a w hf hc => ?_
    obtain ⟨r_2,hr_2,hF⟩ := bnd_some hF
    cases r_2 with
    | inl r_2 =>
     replace hF := sumKl hF
     refine zC hf en_44 rfl (daily_agreed_ok r h_r_Days hc hr_2) ?_
     rintro _ w ⟨rfl,hc⟩
     refine ⟨_,rfl,fun a hf => ?_⟩
     refine sp 5 hf rfl fun a hf => zT h ?_
     refine wp_seq_k fun K11 h11 => zS fun K h => sp 2 hf rfl fun a hf => zT h ?_
     refine zI hf rfl hF ?_ ?_ <;> clear hF <;> intro hF
     ·refine zS fun K h => sp 3 hf rfl fun a hf => zT h ?_
      refine wp_ret ?_
      refine xThenR ?_
      obtain rfl := sj hF
      replace hc := hc.nilRow 3 1
      replace hc := hc.drop k1
      exact zO2 Try.results32 hf rfl rfl ⟨none,0,rfl,hc⟩
     ·refine wp_skip ?_
      refine h11 _ _ ?_
      refine zS fun K h => sp 1 hf rfl fun a hf => zT h ?_
      refine zS fun K h => sp 1 hf rfl fun a hf => zP hf rfl (pMF (vs := [.pointer none]) (us := []) rfl rfl) fun a hf => sp 1 hf rfl fun a hf => zT h ?_
      refine wp_seq_k fun K16 h16 => zS fun K h => sp 1 hf rfl fun a hf => zP hf rfl (pLenS Try.underlying63 rfl) fun a hf => sp 1 hf rfl fun a hf => zT h ?_
      refine wp_block ?_
      obtain ⟨x18,hx18,hF⟩ := bnd_some hF
      let S18 : Unit → Act → World → Prop := (fun (zz : Unit) a w => Has 56 a [(8,.slice none 0 0),(9,.func (.func 54) #[.pointer none] #[]),(39,.slice published_p published.length published_c),(40,i6 ((published.length : Nat) : Int)),(41,i6 0)] ∧ Ctx G (Lf) w)
      have hr18 : ∀ (zz : Unit) a w,x18 = .go zz → S18 zz a w → K16 a w := by
       rintro ⟨⟩ a w rfl ⟨hf,hc⟩
       replace hF := exK_go hF
       refine h16 _ _ ?_
       refine zS fun K h => sp 3 hf rfl fun a hf => zT h ?_
       refine wp_ret ?_
       obtain rfl := sj hF
       replace hc := hc.nilRow 3 1
       exact zO2 Try.results32 hf rfl rfl ⟨none,0,rfl,hc⟩
      have ho18 : ∀ r,x18 = .out r → r = res := by
       rintro r rfl
       exact sj hF
      replace hc := hc.drop k0
      refine cLoop N (loopW (S := S18) (x := x18) ?_ N () _ _ ⟨hf.kp rfl,hc⟩ hx18)
      clear hF hf hc
      rintro ⟨⟩ st18 a w KB18 ⟨hf,hc⟩ hF hfin18 hK18
      unfold daily_Again_b18 at hF
      refine zS fun K h => sp 1 hf rfl fun a hf => zT h ?_
      refine wp_seq_k fun K21 h21 => zI hf rfl hF ?_ ?_ <;> clear hF <;> intro hF
      ·refine wp_skip ?_
       refine h21 _ _ ?_
       refine wp_seq_k fun K22 h22 => wp_block ?_
       refine zS fun K h => sp 1 hf rfl fun a hf => ?_
       obtain ⟨e_1,he_1,hF⟩ := bnd_some hF
       obtain ⟨b_2,o,qa,qp⟩ := h_published.atm he_1
       refine zP hf rfl (pIA Try.underlying63 sz_71 rfl rfl qa) fun a hf => zE hf hc rfl (eLdN (vs := [i6 e_1.Lo,i6 e_1.Hi]) ag_71 rfl rfl (cells_pc qp (n := 2) (o' := 0) rfl)) fun a w hf hc => zA hf hc zr_71 rfl fun b_3 a w hf hc => sp 1 hf rfl fun a hf => zW hf hc sz_71 u0 rfl fun w hc => zT h ?_
       refine wp_seq_k fun K24 h24 => noneO hF
      ·refine wp_exit ?_
       refine xThen ?_
       refine xThen ?_
       have he := sj hF
       rw [← he] at hfin18
       refine cHit ?_
       exact hr18 _ _ _ hfin18 ⟨hf.kp rfl,hc⟩
    | inr r_3 =>
     replace hF := sumKr hF
     have hr_3 := hr_2
     refine zC hf en_44 rfl (daily_agreed_ok r h_r_Days hc hr_3) ?_
     rintro _ w ⟨b_4,p_1,c_1,rfl,hc⟩
     refine ⟨_,rfl,fun a hf => ?_⟩
     refine sp 5 hf rfl fun a hf => zT h ?_
     refine wp_seq_k fun K25 h25 => zS fun K h => sp 2 hf rfl fun a hf => zT h ?_
     refine zI hf rfl hF ?_ ?_ <;> clear hF <;> intro hF
     ·refine zS fun K h => sp 3 hf rfl fun a hf => zT h ?_
      refine wp_ret ?_
      refine xThenR ?_
      obtain rfl := sj hF
      replace hc := hc.nilRow 3 1
      replace hc := ((hc.drop k3).drop k2).drop k1
      exact zO2 Try.results32 hf rfl rfl ⟨none,0,rfl,hc⟩
     ·refine wp_skip ?_
      refine h25 _ _ ?_
      refine zS fun K h => sp 1 hf rfl fun a hf => zT h ?_
      refine zS fun K h => sp 1 hf rfl fun a hf => zP hf rfl (pMF (vs := [pq b_4]) (us := []) rfl rfl) fun a hf => sp 1 hf rfl fun a hf => zT h ?_
      refine wp_seq_k fun K30 h30 => zS fun K h => sp 1 hf rfl fun a hf => zP hf rfl (pLenS Try.underlying63 rfl) fun a hf => sp 1 hf rfl fun a hf => zT h ?_
      refine wp_block ?_
      obtain ⟨x32,hx32,hF⟩ := bnd_some hF
      let S32 : ((List Int) × Int) → Act → World → Prop := (fun (zz : (List Int) × Int) a w => ∃ (p_2 : Option Addr) (c_2 : Nat),Has 56 a [(8,.slice p_2 zz.1.length c_2),(9,.func (.func 54) #[pq b_4] #[]),(39,.slice published_p published.length published_c),(40,i6 ((published.length : Nat) : Int)),(41,i6 zz.2)] ∧ Ctx G (.row p_2 c_2 (zz.1.map encI_i64) 3 1::.row p_1 c_1 (r_3.2.2.1.map enc_api_Span) 71 2::.box b_4 [i6 r_3.1,i6 r_3.2.1,.slice r_Days_p r.Days.length r_Days_c,.slice p_1 r_3.2.2.1.length c_1] 98::Lf) w)
      have hr32 : ∀ (zz : (List Int) × Int) a w,x32 = .go zz → S32 zz a w → K30 a w := by
       rintro ⟨out,x⟩ a w rfl ⟨p_2,c_2,hf,hc⟩
       replace hF := exK_go hF
       refine h30 _ _ ?_
       refine zS fun K h => sp 3 hf rfl fun a hf => zT h ?_
       refine wp_ret ?_
       obtain rfl := sj hF
       replace hc := (hc.drop k2).drop k1
       exact zO2 Try.results32 hf rfl rfl ⟨p_2,c_2,rfl,hc⟩
      have ho32 : ∀ r,x32 = .out r → r = res := by
       rintro r rfl
       exact sj hF
      replace hc := hc.nilRow 3 1
      replace hc := hc.drop k3
      refine cLoop N (loopW (S := S32) (x := x32) ?_ N (([] : List Int),0) _ _ ⟨none,0,hf.kp rfl,hc⟩ hx32)
      clear hF hf hc
      rintro ⟨out,x⟩ st32 a w KB32 ⟨p_2,c_2,hf,hc⟩ hF hfin32 hK32
      unfold daily_Again_b32 at hF
      refine zS fun K h => sp 1 hf rfl fun a hf => zT h ?_
      refine wp_seq_k fun K35 h35 => zI hf rfl hF ?_ ?_ <;> clear hF <;> intro hF
      ·refine wp_skip ?_
       refine h35 _ _ ?_
       refine wp_seq_k fun K36 h36 => ?_
       have hj36 : ∀ (out_1 : List Int) (p_3 : Option Addr) (c_3 : Nat) a w,Has 56 a [(8,.slice p_3 out_1.length c_3),(9,.func (.func 54) #[pq b_4] #[]),(39,.slice published_p published.length published_c),(40,i6 ((published.length : Nat) : Int)),(41,i6 x)] → Ctx G (.row p_3 c_3 (out_1.map encI_i64) 3 1::.row p_1 c_1 (r_3.2.2.1.map enc_api_Span) 71 2::.box b_4 [i6 r_3.1,i6 r_3.2.1,.slice r_Days_p r.Days.length r_Days_c,.slice p_1 r_3.2.2.1.length c_1] 98::Lf) w → daily_Again_j36 N x out_1 = some st32 → K36 a w := by
        repeat (clear hF)
        repeat (clear hc)
        repeat (clear hf)
        intro out_1 p_3 c_3 a w hf hc hF
        unfold daily_Again_j36 at hF
        refine h36 _ _ ?_
        refine cReg ?_
        refine sp 2 hf rfl fun a hf => cNil ?_
        exact hK32 (out_1,W (x + 1)) _ _ (sj hF).symm ⟨p_3,c_3,hf.kp rfl,hc⟩
       refine wp_block ?_
       refine zS fun K h => sp 1 hf rfl fun a hf => ?_
       obtain ⟨e_2,he_2,hF⟩ := bnd_some hF
       obtain ⟨b_5,o_1,qa_1,qp_1⟩ := h_published.atm he_2
       refine zP hf rfl (pIA Try.underlying63 sz_71 rfl rfl qa_1) fun a hf => zE hf hc rfl (eLdN (vs := [i6 e_2.Lo,i6 e_2.Hi]) ag_71 rfl rfl (cells_pc qp_1 (n := 2) (o' := 0) rfl)) fun a w hf hc => zA hf hc zr_71 rfl fun b_6 a w hf hc => sp 1 hf rfl fun a hf => zW hf hc sz_71 u0 rfl fun w hc => zT h ?_
       refine zS fun K h => sp 2 hf rfl fun a hf => zN hf hc ag_71 m0 rfl fun a w hf hc => ?_
       obtain ⟨r_4,hr_4,hF⟩ := bnd_some hF
       refine zQ (v := .bool r_4) hf hc en_54 rfl (fun w hc => by obtain ⟨G1,hle1,hrd1,hc,hth1⟩ := lend hc k2; exact (daily_work_again_ok (⟨(⟨r_3.1,r_3.2.1,r.Days⟩ : daily_Record),r_3.2.2.1⟩ : daily_work) x e_2 (h_r_Days.mono hle1) hrd1 (hc.pick k2) hr_4).mono fun e w h => ⟨h.1,((hth1 _ _ (h.2.unpick k2)).unpick k2)⟩) fun a w hf hc => zT h ?_
       refine zI hf rfl hF ?_ ?_ <;> clear hF <;> intro hF
       ·refine cReg ?_
        refine sp 2 hf rfl fun a hf => stBS (rows := ([x] : List Int).map encI_i64) (vs := [(0,i6 x)]) hf hc rfl rfl sl_27 rfl ⟨rfl,rfl,rfl,trivial⟩ rfl rfl fun b_7 a w hf hc => ?_
        obtain ⟨un,hun,hF⟩ := bnd_some hF
        refine stApm (xs := out) (ys := ([x] : List Int)) hf hc rfl rfl sl_27 rfl rfl rfl rfl rfl one_encI_i64 (src_row hc m0) (fun _ _ => u2) (by simpa using room_spec hun) fun p_4 c_4 a w hf hc => sp 1 hf rfl fun a hf => cNil ?_
        replace hc := (hc.drop k1).drop k0
        exact hj36 (out ++ [x]) p_4 c_4 _ _  (hf.kp rfl) hc hF
       ·refine wp_skip ?_
        replace hc := hc.drop k0
        exact hj36 out p_2 c_2 _ _  (hf.kp rfl) hc hF
      ·refine wp_exit ?_
       refine xThen ?_
       refine xThen ?_
       have he := sj hF
       rw [← he] at hfin32
       refine cHit ?_
       exact hr32 _ _ _ hfin32 ⟨p_2,c_2,hf.kp rfl,hc⟩

def law07_Counter_b5 (N : Nat) (values : List Int) (out : List daily_Reading) (x : Int) : Option (Step ((List daily_Reading) × Int) ((List daily_Reading))) :=
 cond (decide (x < ((values.length : Nat) : Int)))
 (Option.bind (getI values x) fun e_1 =>
 Option.bind (room ((out ++ [(⟨e_1,1⟩ : daily_Reading)])).length) fun un =>
 some (.cont ((out ++ [(⟨e_1,1⟩ : daily_Reading)]),W (x + 1))))
 (some (.brk (out,x)))
def law07_Counter (N : Nat) (values : List Int) : Option ((List daily_Reading)) :=
 Option.bind (loopO (fun s5 => law07_Counter_b5 N values s5.1 s5.2) N (([] : List daily_Reading),0)) fun x5 =>
 exK x5 (fun s5 => some s5.1) some
theorem law07_Counter_ok {N : Nat} {G : Pers} {Lf : List Ent} {w : World} (values : List Int) {values_p : Option Addr} {values_c : Nat} (h_values : Rd G 1 values_p values_c (values.map encI_i64)) (hc : Ctx G (Lf) w) {res : (List daily_Reading)} (hF : law07_Counter N values = some res) : Calls Try.prog 33 #[.slice values_p values.length values_c] w (fun e w => ∃ (p'1 : Option Addr) (c'1 : Nat),e = .returned (.slice p'1 res.length c'1) ∧ Ctx G (.row p'1 c'1 (res.map enc_daily_Reading) 39 2::Lf) w) := by
 unfold law07_Counter at hF
 refine fnIn Try.func33 rfl Try.ntmps33 rfl fun a hf => zS fun K h => sp 1 hf rfl fun a hf => zT h ?_
 refine zS fun K h => sp 1 hf rfl fun a hf => zT h ?_
 refine wp_seq_k fun K3 h3 => zS fun K h => sp 1 hf rfl fun a hf => zP hf rfl (pLenS Try.underlying27 rfl) fun a hf => sp 1 hf rfl fun a hf => zT h ?_
 refine wp_block ?_
 obtain ⟨x5,hx5,hF⟩ := bnd_some hF
 let S5 : ((List daily_Reading) × Int) → Act → World → Prop := (fun (zz : (List daily_Reading) × Int) a w => ∃ (p_1 : Option Addr) (c_1 : Nat),Has 19 a [(3,.slice p_1 zz.1.length c_1),(6,.slice values_p values.length values_c),(7,i6 ((values.length : Nat) : Int)),(8,i6 zz.2)] ∧ Ctx G (.row p_1 c_1 (zz.1.map enc_daily_Reading) 39 2::Lf) w)
 have hr5 : ∀ (zz : (List daily_Reading) × Int) a w,x5 = .go zz → S5 zz a w → K3 a w := by
  rintro ⟨out,x⟩ a w rfl ⟨p_1,c_1,hf,hc⟩
  replace hF := exK_go hF
  refine h3 _ _ ?_
  refine zS fun K h => sp 2 hf rfl fun a hf => zT h ?_
  refine wp_ret ?_
  obtain rfl := sj hF
  exact zO1 Try.results33 hf rfl ⟨p_1,c_1,rfl,hc⟩
 have ho5 : ∀ r,x5 = .out r → r = res := by
  rintro r rfl
  exact sj hF
 replace hc := hc.nilRow 39 2
 refine cLoop N (loopW (S := S5) (x := x5) ?_ N (([] : List daily_Reading),0) _ _ ⟨none,0,hf.kp rfl,hc⟩ hx5)
 clear hF hf hc
 rintro ⟨out,x⟩ st5 a w KB5 ⟨p_1,c_1,hf,hc⟩ hF hfin5 hK5
 unfold law07_Counter_b5 at hF
 refine zS fun K h => sp 1 hf rfl fun a hf => zT h ?_
 refine wp_seq_k fun K8 h8 => zI hf rfl hF ?_ ?_ <;> clear hF <;> intro hF
 ·refine wp_skip ?_
  refine h8 _ _ ?_
  refine wp_seq_k fun K9 h9 => wp_block ?_
  refine zS fun K h => ?_
  obtain ⟨e_1,he_1,hF⟩ := bnd_some hF
  obtain ⟨b_1,o,qa,qp⟩ := h_values.atm he_1
  refine zP hf rfl (pIA Try.underlying27 sz_3 rfl rfl qa) fun a hf => zE hf hc rfl (eLd1 sc_3 rfl (cell_pc (j := 0) qp rfl)) fun a w hf hc => sp 1 hf rfl fun a hf => zT h ?_
  refine cReg ?_
  refine sp 2 hf rfl fun a hf => zP hf rfl (pBuildS (cells := [i6 e_1,i6 1]) bt_39 rfl rfl) fun a hf => stBS (rows := ([(⟨e_1,1⟩ : daily_Reading)] : List daily_Reading).map enc_daily_Reading) (vs := [(0,.agg #[i6 e_1,i6 1])]) hf hc rfl rfl sl_23 rfl ⟨rfl,rfl,rfl,trivial⟩ rfl rfl fun b_2 a w hf hc => ?_
  obtain ⟨un,hun,hF⟩ := bnd_some hF
  refine stApm (xs := out) (ys := ([(⟨e_1,1⟩ : daily_Reading)] : List daily_Reading)) hf hc rfl rfl sl_23 rfl rfl rfl rfl rfl one_enc_daily_Reading (src_row hc m0) (fun _ _ => u1) (by simpa using room_spec hun) fun p_2 c_2 a w hf hc => sp 1 hf rfl fun a hf => cNil ?_
  refine h9 _ _ ?_
  refine cReg ?_
  refine sp 2 hf rfl fun a hf => cNil ?_
  replace hc := hc.drop k0
  exact hK5 ((out ++ [(⟨e_1,1⟩ : daily_Reading)]),W (x + 1)) _ _ (sj hF).symm ⟨p_2,c_2,hf.kp rfl,hc⟩
 ·refine wp_exit ?_
  refine xThen ?_
  refine xThen ?_
  have he := sj hF
  rw [← he] at hfin5
  refine cHit ?_
  exact hr5 _ _ _ hfin5 ⟨p_1,c_1,hf.kp rfl,hc⟩

end Go.Nilo
