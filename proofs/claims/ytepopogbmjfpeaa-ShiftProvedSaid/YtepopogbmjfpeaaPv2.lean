/-
  What functions of the Go text compute, as plain functions, and that they do, part 2 of 4. Conditions: what each theorem names.
-/
import Derived.Test.YtepopogbmjfpeaaPv1
import Derived.Test.YtepopogbmjfpeaaProg
set_option linter.unusedVariables false
set_option linter.unusedSimpArgs false
set_option maxRecDepth 100000
set_option maxHeartbeats 4000000
namespace Go.Nilo
open Go.Proofs


def shift_moved_on_r13 (N : Nat) (s_ : api_Span) (b__2 : Nat → Int) (xv : Int) (xv_1 : Int) : Option (Rs ((Nat → Int))) :=
  cond (!(shift_in xv_1 s_.Lo s_.Hi))
  (Option.bind (inR xv 601) fun un =>
  some (.go (setF b__2 xv.toNat 1073741824)))
  (some (.go b__2))
def shift_moved_on_b11 (N : Nat) (m : Nat → Int) (best_1 : Int) (i_1 : Int) (b__1 : Nat → Int) : Option (Step (Int × Int × (Nat → Int)) ((Nat → Int))) :=
  cond (decide (0 ≤ i_1))
  (Option.bind (inR i_1 601) fun un_1 =>
  Option.bind (inR i_1 601) fun un_2 =>
  Option.bind (inR i_1 601) fun un_3 =>
  some (.cont (min (W (best_1 + 1)) (m i_1.toNat), W (i_1 - 1), (setF b__1 i_1.toNat (min (b__1 i_1.toNat) (min (W (best_1 + 1)) (m i_1.toNat)))))))
  (some (.brk (best_1, i_1, b__1)))
def shift_moved_on_b7 (N : Nat) (m : Nat → Int) (best : Int) (x : Int) (b__0 : Nat → Int) : Option (Step (Int × Int × (Nat → Int)) ((Nat → Int))) :=
  cond (decide (x < 601))
  (Option.bind (inR x 601) fun un_4 =>
  Option.bind (inR x 601) fun un_5 =>
  some (.cont (min (W (best + 1)) (m x.toNat), W (x + 1), (setF b__0 x.toNat (min (W (best + 1)) (m x.toNat))))))
  (some (.brk (best, x, b__0)))
def shift_moved_on (N : Nat) (m : Nat → Int) (s_ : api_Span) : Option ((Nat → Int)) :=
  Option.bind (subO (aL 601 m) 0 ((601 : Nat) : Int)) fun sub =>
  Option.bind (loopO (fun s7 => shift_moved_on_b7 N m s7.1 s7.2.1 s7.2.2) N (1073741824, 0, (fun _ => 0))) fun x7 =>
  exK x7 (fun s7 => Option.bind (loopO (fun s11 => shift_moved_on_b11 N m s11.1 s11.2.1 s11.2.2) N (1073741824, 600, s7.2.2)) fun x11 =>
  exK x11 (fun s11 => Option.bind (shift_shifts_1 N (rY (fun (zz : (Nat → Int)) (ix_ : (Int × Int)) => shift_moved_on_r13 N s_ zz ix_.1 ix_.2)) (.go s11.2.2)) fun x13 =>
  rsK x13 (fun zz13 => some zz13) (fun zz13 => none)) some) some
theorem shift_moved_on_ok {N : Nat} {G : Pers} {Lf : List Ent} {w : World} (m : Nat → Int) (s_ : api_Span) {b_ : Nat}  (hc : Ctx G (.box b_ (catc [] 601 encI_i64 m []) 155 :: Lf) w) {res : (Nat → Int)} (hF : shift_moved_on N m s_ = some res) : Calls Try.prog 137 #[.pointer (some ⟨b_, 0, none⟩), .agg #[.int .i64 s_.Lo, .int .i64 s_.Hi]] w (fun e w => e = .returned (.tuple #[]) ∧ Ctx G (.box b_ (catc [] 601 encI_i64 res []) 155 :: Lf) w) := by
  unfold shift_moved_on at hF
  refine fnInM (args := [.pointer (some ⟨b_, 0, none⟩), .agg #[.int .i64 s_.Lo, .int .i64 s_.Hi]]) Try.func137 rfl Try.ntmps137 rfl fun a hf => ?_
  refine wp_seq_k fun K1 h1 => ?_
  refine cReg ?_
  refine stBx (cs := [.pointer (some ⟨b_, 0, none⟩)]) hf hc rfl rfl rfl rfl fun b_1 a w hf hc => ?_
  refine stBx (cs := [.int .i64 s_.Lo, .int .i64 s_.Hi]) hf hc rfl rfl rfl rfl fun b_2 a w hf hc => ?_
  refine cNil ?_
  refine h1 _ _ ?_
  refine wp_seq_k fun K2 h2 => ?_
  refine cReg ?_
  refine stE hf hc rfl rfl rfl (eLd1 sc_211 rfl (cell_box m1 rfl)) fun a w hf hc => ?_
  refine stP hf rfl rfl rfl (pNC rfl) fun a hf => ?_
  refine stE hf hc rfl rfl rfl (eLdN (vs := (catc [] 601 encI_i64 m [])) ag_155 rfl (one_encA_155 _).1 (cells_box (n := 601) m2 (takeW (one_encA_155 _).1))) fun a w hf hc => ?_
  refine stAl (cs := (catc [] 601 encI_i64 (fun _ => 0) [])) hf hc rfl rfl zr_155 rfl fun b_3 a w hf hc => ?_
  refine stStA (enc := encA_155) (f := (fun _ => 0)) (z := m) hf hc rfl rfl rfl one_encA_155 sz_155 u0 fun w hc => ?_
  refine cNil ?_
  refine h2 _ _ ?_
  refine wp_seq_k fun K3 h3 => ?_
  refine cReg ?_
  refine stE hf hc rfl rfl rfl (eLd1 sc_211 rfl (cell_box m2 rfl)) fun a w hf hc => ?_
  refine stP hf rfl rfl rfl (pNC rfl) fun a hf => ?_
  obtain ⟨sub, hsub, hF⟩ := bnd_some hF
  refine stP hf rfl rfl rfl (pSlA (xs := (aL 601 m)) Try.underlying155 sz_3 rfl aL_len rfl rfl hsub) fun a hf => ?_
  refine stClN (n := 601) (f := m) (x0 := 0) (v := .int .i64 0) hf hc rfl Try.underlying61 zr_3 rfl rfl rfl subP0 (subO_all hsub rfl rfl) rfl rfl (fun x => (one_encI_i64 x).1) u3 fun w hc => ?_
  refine cNil ?_
  refine h3 _ _ ?_
  refine wp_seq_k fun K4 h4 => ?_
  refine cReg ?_
  refine stP hf rfl rfl rfl (pA rfl) fun a hf => ?_
  refine cNil ?_
  refine h4 _ _ ?_
  refine wp_seq_k fun K5 h5 => ?_
  refine wp_seq_k fun K6 h6 => ?_
  refine cReg ?_
  refine stP hf rfl rfl rfl (pM rfl) fun a hf => ?_
  refine cNil ?_
  refine h6 _ _ ?_
  refine wp_block ?_
  obtain ⟨x7, hx7, hF⟩ := bnd_some hF
  let S7 : (Int × Int × (Nat → Int)) → Act → World → Prop := (fun (zz : Int × Int × (Nat → Int)) a w => Has 66 a [(2, .pointer (some ⟨b_1, 0, none⟩)), (3, .pointer (some ⟨b_2, 0, none⟩)), (4, .pointer (some ⟨b_3, 0, none⟩)), (5, .int .i64 zz.1), (16, .int .i64 zz.2.1)] ∧ Ctx G (.box b_3 (catc [] 601 encI_i64 m []) 155 :: .box b_2 [.int .i64 s_.Lo, .int .i64 s_.Hi] 50 :: .box b_1 [.pointer (some ⟨b_, 0, none⟩)] 211 :: .box b_ (catc [] 601 encI_i64 zz.2.2 []) 155 :: Lf) w)
  have hr7 : ∀ (zz : Int × Int × (Nat → Int)) a w, x7 = .go zz → S7 zz a w → K5 a w := by
    rintro ⟨best, x, b__0⟩ a w rfl ⟨hf, hc⟩
    replace hF := exK_go hF
    refine h5 _ _ ?_
    refine wp_seq_k fun K8 h8 => ?_
    refine cReg ?_
    refine stP hf rfl rfl rfl (pA rfl) fun a hf => ?_
    refine cNil ?_
    refine h8 _ _ ?_
    refine wp_seq_k fun K9 h9 => ?_
    refine wp_seq_k fun K10 h10 => ?_
    refine cReg ?_
    refine stP hf rfl rfl rfl (pA rfl) fun a hf => ?_
    refine cNil ?_
    refine h10 _ _ ?_
    refine wp_block ?_
    obtain ⟨x11, hx11, hF⟩ := bnd_some hF
    let S11 : (Int × Int × (Nat → Int)) → Act → World → Prop := (fun (zz : Int × Int × (Nat → Int)) a w => Has 66 a [(2, .pointer (some ⟨b_1, 0, none⟩)), (3, .pointer (some ⟨b_2, 0, none⟩)), (4, .pointer (some ⟨b_3, 0, none⟩)), (5, .int .i64 zz.1), (7, .int .i64 zz.2.1)] ∧ Ctx G (.box b_3 (catc [] 601 encI_i64 m []) 155 :: .box b_2 [.int .i64 s_.Lo, .int .i64 s_.Hi] 50 :: .box b_1 [.pointer (some ⟨b_, 0, none⟩)] 211 :: .box b_ (catc [] 601 encI_i64 zz.2.2 []) 155 :: Lf) w)
    have hr11 : ∀ (zz : Int × Int × (Nat → Int)) a w, x11 = .go zz → S11 zz a w → K9 a w := by
      rintro ⟨best_1, i_1, b__1⟩ a w rfl ⟨hf, hc⟩
      replace hF := exK_go hF
      refine h9 _ _ ?_
      refine wp_seq_k fun K12 h12 => ?_
      refine cReg ?_
      refine stE hf hc rfl rfl rfl (eC (v := .func (.func 113) #[] #[]) (vs := []) (caps := []) en_82 rfl rfl rfl rfl (fun w hc => shift_shifts_ok hc rfl)) fun a w hf hc => ?_
      refine cNil ?_
      refine h12 _ _ ?_
      obtain ⟨x13, hx13, hF⟩ := bnd_some hF
      replace hc := hc.drop k0
      refine cRange (C := []) (C2 := []) (L0 := [.box b_2 [.int .i64 s_.Lo, .int .i64 s_.Hi] 50, .box b_1 [.pointer (some ⟨b_, 0, none⟩)] 211, .box b_ (catc [] 601 encI_i64 b__1 []) 155]) (Lf := Lf) (encs := fun x : (Int × Int) => [.int .i64 x.1, .int .i64 x.2]) (fun (zz : (Nat → Int)) L => L = [.box b_2 [.int .i64 s_.Lo, .int .i64 s_.Hi] 50, .box b_1 [.pointer (some ⟨b_, 0, none⟩)] 211, .box b_ (catc [] 601 encI_i64 zz []) 155]) (fun (zz : (Nat → Int)) (ix_ : (Int × Int)) => shift_moved_on_r13 N s_ zz ix_.1 ix_.2) b__1 x13 hf hc rfl en_113 (fun _ => rfl) rfl rfl ?_ ?_ ?_ ?_
      · intro lq mq J L Lx w hy hJ hc
        exact shift_shifts_1_ok  J _ hy _ hJ hc hx13
      · clear hF hf hc
        rintro lq mq b__2 ⟨xv, xv_1⟩ oq _ Lr Lb a w hK0 rfl hF hf hc hK
        replace hf : Has 66 a [(2, .pointer (some ⟨b_1, 0, none⟩)), (3, .pointer (some ⟨b_2, 0, none⟩)), (53, .int .i64 xv), (54, .int .i64 xv_1)] := hf.keep ⟨rfl, rfl, rfl, rfl, trivial⟩
        replace hc : Ctx G (.box b_2 [.int .i64 s_.Lo, .int .i64 s_.Hi] 50 :: .box b_1 [.pointer (some ⟨b_, 0, none⟩)] 211 :: .box b_ (catc [] 601 encI_i64 b__2 []) 155 :: Lr) w := hc
        replace hF : shift_moved_on_r13 N s_ b__2 xv xv_1 = some oq := hF
        unfold shift_moved_on_r13 at hF
        refine rSeq fun K14 h14 => ?_
        refine rReg (fun _ _ h => h) rfl ?_
        refine stP hf rfl rfl rfl (pA rfl) fun a hf => ?_
        refine cNil ?_
        refine h14 _ _ ?_
        refine rReg (fun _ _ h => h) rfl ?_
        refine stP hf rfl rfl rfl (pA rfl) fun a hf => ?_
        refine cNil ?_
        refine hK _ _ [.box b_2 [.int .i64 s_.Lo, .int .i64 s_.Hi] 50, .box b_1 [.pointer (some ⟨b_, 0, none⟩)] 211, .box b_ (catc [] 601 encI_i64 b__2 []) 155] hc fun w hc => ?_
        replace hc : Ctx G (.box b_2 [.int .i64 s_.Lo, .int .i64 s_.Hi] 50 :: .box b_1 [.pointer (some ⟨b_, 0, none⟩)] 211 :: .box b_ (catc [] 601 encI_i64 b__2 []) 155 :: Lb) w := hc
        refine rThenK fun K15 h15 => ?_
        refine rBlock ?_
        refine rSeq fun K16 h16 => ?_
        refine rReg (fun _ _ h => h) rfl ?_
        refine stP hf rfl rfl rfl (pM rfl) fun a hf => ?_
        refine stP hf rfl rfl rfl (pFA fa_50_0 rfl) fun a hf => ?_
        refine stE hf hc rfl rfl rfl (eLd1 sc_3 rfl (cell_box m0 rfl)) fun a w hf hc => ?_
        refine stP hf rfl rfl rfl (pFA fa_50_1 rfl) fun a hf => ?_
        refine stE hf hc rfl rfl rfl (eLd1 sc_3 rfl (cell_box m0 rfl)) fun a w hf hc => ?_
        refine stE hf hc rfl rfl rfl (eC (v := .bool (shift_in xv_1 s_.Lo s_.Hi)) (vs := [.int .i64 xv_1, .int .i64 s_.Lo, .int .i64 s_.Hi]) (caps := []) en_59 rfl rfl rfl rfl (fun w hc => shift_in_ok xv_1 s_.Lo s_.Hi hc rfl)) fun a w hf hc => ?_
        refine stP hf rfl rfl rfl (pNot rfl) fun a hf => ?_
        refine cNil ?_
        refine h16 _ _ ?_
        refine rCond (b := (!(shift_in xv_1 s_.Lo s_.Hi))) hf rfl (fun hb => ?_) (fun hb => ?_)
        · replace hF := condT hb hF
          clear hb
          refine rReg (fun _ _ h => h) rfl ?_
          refine stE hf hc rfl rfl rfl (eLd1 sc_211 rfl (cell_box m1 rfl)) fun a w hf hc => ?_
          refine stP hf rfl rfl rfl (pM rfl) fun a hf => ?_
          refine stP hf rfl rfl rfl (pNC rfl) fun a hf => ?_
          obtain ⟨un, hun, hF⟩ := bnd_some hF
          refine stP hf rfl rfl rfl (pIAA Try.underlying155 sz_3 rfl rfl (inR_spec hun).1 (inR_spec hun).2) fun a hf => ?_
          refine stAr (vs := [.int .i64 1073741824]) (o' := 0) (z := 1073741824) hf hc rfl rfl rfl rfl sz_3 rfl (fun x => (one_encI_i64 x).1) rfl hun rfl rfl u2 fun w hc => ?_
          refine cNil ?_
          refine h15 _ _ ?_
          exact ⟨(setF b__2 xv.toNat 1073741824), _, (Option.some.inj hF).symm, rfl, hc⟩
        · replace hF := condF hb hF
          clear hb
          refine rSkip ?_
          refine h15 _ _ ?_
          exact ⟨b__2, _, (Option.some.inj hF).symm, rfl, hc⟩
      · rintro D_1 b__2 _ a w hsF rfl hf hc
        replace hf : Has ⟨66, markL (D_1 :: [])⟩ a [(2, .pointer (some ⟨b_1, 0, none⟩)), (3, .pointer (some ⟨b_2, 0, none⟩))] := hf.keep ⟨rfl, rfl, trivial⟩
        replace hc : Ctx G (.box b_2 [.int .i64 s_.Lo, .int .i64 s_.Hi] 50 :: .box b_1 [.pointer (some ⟨b_, 0, none⟩)] 211 :: .box b_ (catc [] 601 encI_i64 b__2 []) 155 :: (raws (D_1 :: []) ++ Lf)) w := rawsIn (C := []) (L := [.box b_2 [.int .i64 s_.Lo, .int .i64 s_.Hi] 50, .box b_1 [.pointer (some ⟨b_, 0, none⟩)] 211, .box b_ (catc [] 601 encI_i64 b__2 []) 155]) hc
        replace hF : (some b__2) = some res := by rcases hsF with rfl | rfl <;> exact hF
        obtain rfl := Option.some.inj hF
        replace hc := hc.drop k1
        replace hc := hc.drop k0
        refine outM hf ?_
        refine outML [.box b_ (catc [] 601 encI_i64 b__2 []) 155] (D_1 :: []) hc fun w hc => ?_
        replace hc : Ctx G (.box b_ (catc [] 601 encI_i64 b__2 []) 155 :: Lf) w := hc
        exact outM0 Try.results137 ⟨rfl, hc⟩
      · rintro D_1 b__2 _ a w hsF rfl hf hc
        replace hf : Has ⟨66, markL (D_1 :: [])⟩ a [(2, .pointer (some ⟨b_1, 0, none⟩)), (3, .pointer (some ⟨b_2, 0, none⟩))] := hf.keep ⟨rfl, rfl, trivial⟩
        replace hc : Ctx G (.box b_2 [.int .i64 s_.Lo, .int .i64 s_.Hi] 50 :: .box b_1 [.pointer (some ⟨b_, 0, none⟩)] 211 :: .box b_ (catc [] 601 encI_i64 b__2 []) 155 :: (raws (D_1 :: []) ++ Lf)) w := rawsIn (C := []) (L := [.box b_2 [.int .i64 s_.Lo, .int .i64 s_.Hi] 50, .box b_1 [.pointer (some ⟨b_, 0, none⟩)] 211, .box b_ (catc [] 601 encI_i64 b__2 []) 155]) hc
        replace hF : (none) = some res := by subst hsF; exact hF
        cases hF
    have ho11 : ∀ r, x11 = .out r → r = res := by
      rintro r rfl
      exact Option.some.inj hF
    refine cLoop N (loopW (S := S11) (x := x11) ?_ N (1073741824, 600, b__0) _ _ ⟨hf.keep ⟨rfl, rfl, rfl, rfl, rfl, trivial⟩, hc⟩ hx11)
    clear hF hf hc
    rintro ⟨best_1, i_1, b__1⟩ st11 a w KB11 ⟨hf, hc⟩ hF hfin11 hK11
    unfold shift_moved_on_b11 at hF
    refine wp_seq_k fun K17 h17 => ?_
    refine wp_seq_k fun K18 h18 => ?_
    refine cReg ?_
    refine stP hf rfl rfl rfl (pM rfl) fun a hf => ?_
    refine stP hf rfl rfl rfl (pGe rfl rfl) fun a hf => ?_
    refine cNil ?_
    refine h18 _ _ ?_
    refine cCond (b := (decide (0 ≤ i_1))) hf rfl (fun hb => ?_) (fun hb => ?_)
    · replace hF := condT hb hF
      clear hb
      refine wp_skip ?_
      refine h17 _ _ ?_
      refine wp_seq_k fun K19 h19 => ?_
      refine wp_block ?_
      refine wp_seq_k fun K20 h20 => ?_
      refine cReg ?_
      refine stP hf rfl rfl rfl (pM rfl) fun a hf => ?_
      refine stP hf rfl rfl rfl (pAdd rfl rfl) fun a hf => ?_
      refine stP hf rfl rfl rfl (pM rfl) fun a hf => ?_
      obtain ⟨un_1, hun_1, hF⟩ := bnd_some hF
      refine stP hf rfl rfl rfl (pIAA Try.underlying155 sz_3 rfl rfl (inR_spec hun_1).1 (inR_spec hun_1).2) fun a hf => ?_
      refine stE hf hc rfl rfl rfl (eLd1 sc_3 rfl (cell_arr (j := 0) m0 (fun x => (one_encI_i64 x).1) rfl hun_1 rfl)) fun a w hf hc => ?_
      refine stP hf rfl rfl rfl (pMin2 rfl rfl) fun a hf => ?_
      refine stP hf rfl rfl rfl (pA rfl) fun a hf => ?_
      refine cNil ?_
      refine h20 _ _ ?_
      obtain ⟨un_2, hun_2, hF⟩ := bnd_some hF
      obtain ⟨un_3, hun_3, hF⟩ := bnd_some hF
      refine regionE (fun θ => [⟨none, none, 2, .pointer (some ⟨b_1, 0, none⟩)⟩, ⟨none, none, 3, .pointer (some ⟨b_2, 0, none⟩)⟩, ⟨none, none, 4, .pointer (some ⟨b_3, 0, none⟩)⟩, ⟨none, none, 5, .int .i64 (min (W (best_1 + 1)) (m i_1.toNat))⟩, ⟨none, none, 7, .int .i64 i_1⟩, ⟨some 0, none, 41, .pointer (some ⟨b_, 0, none⟩)⟩, ⟨some 1, none, 42, .int .i64 i_1⟩, ⟨some 2, none, 43, .pointer (some ⟨b_, 0, none⟩)⟩, ⟨some 3, none, 44, .int .i64 i_1⟩, ⟨some 4, none, 45, .pointer (some ⟨b_, 0, none⟩)⟩, ⟨some 5, none, 46, .pointer (some ⟨b_, 0 + i_1.toNat * 1, none⟩)⟩, ⟨some 6, none, 47, .int .i64 (b__1 i_1.toNat)⟩, ⟨some 7, none, 48, .int .i64 (min (W (best_1 + 1)) (m i_1.toNat))⟩, ⟨some 8, none, 49, .int .i64 (min (b__1 i_1.toNat) (min (W (best_1 + 1)) (m i_1.toNat)))⟩, ⟨some 9, none, 50, .pointer (some ⟨b_, 0, none⟩)⟩, ⟨some 10, none, 51, .pointer (some ⟨b_, 0 + i_1.toNat * 1, none⟩)⟩]) (fun E θ => .box b_3 (catc [] 601 encI_i64 m []) 155 :: .box b_2 [.int .i64 s_.Lo, .int .i64 s_.Hi] 50 :: .box b_1 [.pointer (some ⟨b_, 0, none⟩)] 211 :: (bif E 11 then .box b_ (catc [] 601 encI_i64 (setF b__1 i_1.toNat (min (b__1 i_1.toNat) (min (W (best_1 + 1)) (m i_1.toNat)))) []) 155 else .box b_ (catc [] 601 encI_i64 b__1 []) 155) :: Lf) [(11, 6)] (fun a w => Has 66 a [(2, .pointer (some ⟨b_1, 0, none⟩)), (3, .pointer (some ⟨b_2, 0, none⟩)), (4, .pointer (some ⟨b_3, 0, none⟩)), (5, .int .i64 (min (W (best_1 + 1)) (m i_1.toNat))), (7, .int .i64 i_1)] ∧ Ctx G (.box b_3 (catc [] 601 encI_i64 m []) 155 :: .box b_2 [.int .i64 s_.Lo, .int .i64 s_.Hi] 50 :: .box b_1 [.pointer (some ⟨b_, 0, none⟩)] 211 :: .box b_ (catc [] 601 encI_i64 (setF b__1 i_1.toNat (min (b__1 i_1.toNat) (min (W (best_1 + 1)) (m i_1.toNat)))) []) 155 :: Lf) w) follows_mx (by kernel_rfl) (by kernel_rfl) (HasE.of hf ⟨rfl, rfl, rfl, rfl, rfl, trivial, trivial, trivial, trivial, trivial, trivial, trivial, trivial, trivial, trivial, trivial, trivial⟩) hc ⟨?_, ?_, ?_, ?_, ?_, ?_, ?_, ?_, ?_, ?_, ?_, ?_, trivial⟩ ?_ ?_
      · intro E θ a w hD hi hp he hc
        have hf := he.h0
        replace hf := hf.more he 0 rfl onT
        refine stE hf hc rfl rfl rfl (eLd1 sc_211 rfl (cell_box m2 rfl)) fun a w hf hc => ?_
        refine cNil ?_
        refine xThenN ?_
        intro ds u hau
        refine ⟨θ, he.put0 hi hau hf rfl 5 rfl rfl, ?_⟩
        exact hc
      · intro E θ a w hD hi hp he hc
        have hf := he.h0
        replace hf := hf.more he 4 rfl onT
        refine stP hf rfl rfl rfl (pM rfl) fun a hf => ?_
        refine cNil ?_
        refine xThenN ?_
        intro ds u hau
        refine ⟨θ, he.put0 hi hau hf rfl 6 rfl rfl, ?_⟩
        exact hc
      · intro E θ a w hD hi hp he hc
        have hf := he.h0
        replace hf := hf.more he 0 rfl onT
        refine stE hf hc rfl rfl rfl (eLd1 sc_211 rfl (cell_box m2 rfl)) fun a w hf hc => ?_
        refine cNil ?_
        refine xThenN ?_
        intro ds u hau
        refine ⟨θ, he.put0 hi hau hf rfl 7 rfl rfl, ?_⟩
        exact hc
      · intro E θ a w hD hi hp he hc
        have hf := he.h0
        replace hf := hf.more he 4 rfl onT
        refine stP hf rfl rfl rfl (pM rfl) fun a hf => ?_
        refine cNil ?_
        refine xThenN ?_
        intro ds u hau
        refine ⟨θ, he.put0 hi hau hf rfl 8 rfl rfl, ?_⟩
        exact hc
      · intro E θ a w hD hi hp he hc
        have e2 := hp.of (k := 2) rfl
        have hf := he.h0
        replace hf := hf.more he 7 rfl (onP e2)
        refine stP hf rfl rfl rfl (pNC rfl) fun a hf => ?_
        refine cNil ?_
        refine xThenN ?_
        intro ds u hau
        refine ⟨θ, he.put0 hi hau hf rfl 9 rfl rfl, ?_⟩
        exact hc
      · intro E θ a w hD hi hp he hc
        have e3 := hp.of (k := 3) rfl
        have e4 := hp.of (k := 4) rfl
        have hf := he.h0
        replace hf := hf.more he 8 rfl (onP e3)
        replace hf := hf.more he 9 rfl (onP e4)
        refine stP hf rfl rfl rfl (pIAA Try.underlying155 sz_3 rfl rfl (inR_spec hun_2).1 (inR_spec hun_2).2) fun a hf => ?_
        refine cNil ?_
        refine xThenN ?_
        intro ds u hau
        refine ⟨θ, he.put0 hi hau hf rfl 10 rfl rfl, ?_⟩
        exact hc
      · intro E θ a w hD hi hp he hc
        have e5 := hp.of (k := 5) rfl
        have e11 := hD.f 0 rfl hi
        try dsimp only at hc
        rw [e11] at hc
        have hf := he.h0
        replace hf := hf.more he 10 rfl (onP e5)
        refine stE hf hc rfl rfl rfl (eLd1 sc_3 rfl (cell_arr (j := 0) m3 (fun x => (one_encI_i64 x).1) rfl hun_2 rfl)) fun a w hf hc => ?_
        refine cNil ?_
        refine xThenN ?_
        intro ds u hau
        refine ⟨θ, he.put0 hi hau hf rfl 11 rfl rfl, ?_⟩
        try dsimp only
        rw [updE_fls 6 e11 rfl]
        exact hc
      · intro E θ a w hD hi hp he hc
        have hf := he.h0
        replace hf := hf.more he 3 rfl onT
        refine stP hf rfl rfl rfl (pM rfl) fun a hf => ?_
        refine cNil ?_
        refine xThenN ?_
        intro ds u hau
        refine ⟨θ, he.put0 hi hau hf rfl 12 rfl rfl, ?_⟩
        exact hc
      · intro E θ a w hD hi hp he hc
        have e6 := hp.of (k := 6) rfl
        have e7 := hp.of (k := 7) rfl
        have hf := he.h0
        replace hf := hf.more he 11 rfl (onP e6)
        replace hf := hf.more he 12 rfl (onP e7)
        refine stP hf rfl rfl rfl (pMin2 rfl rfl) fun a hf => ?_
        refine cNil ?_
        refine xThenN ?_
        intro ds u hau
        refine ⟨θ, he.put0 hi hau hf rfl 13 rfl rfl, ?_⟩
        exact hc
      · intro E θ a w hD hi hp he hc
        have e0 := hp.of (k := 0) rfl
        have hf := he.h0
        replace hf := hf.more he 5 rfl (onP e0)
        refine stP hf rfl rfl rfl (pNC rfl) fun a hf => ?_
        refine cNil ?_
        refine xThenN ?_
        intro ds u hau
        refine ⟨θ, he.put0 hi hau hf rfl 14 rfl rfl, ?_⟩
        exact hc
      · intro E θ a w hD hi hp he hc
        have e1 := hp.of (k := 1) rfl
        have e9 := hp.of (k := 9) rfl
        have hf := he.h0
        replace hf := hf.more he 6 rfl (onP e1)
        replace hf := hf.more he 14 rfl (onP e9)
        refine stP hf rfl rfl rfl (pIAA Try.underlying155 sz_3 rfl rfl (inR_spec hun_3).1 (inR_spec hun_3).2) fun a hf => ?_
        refine cNil ?_
        refine xThenN ?_
        intro ds u hau
        refine ⟨θ, he.put0 hi hau hf rfl 15 rfl rfl, ?_⟩
        exact hc
      · intro E θ a w hD hi hp he hc
        have e8 := hp.of (k := 8) rfl
        have e10 := hp.of (k := 10) rfl
        try dsimp only at hc
        rw [hi] at hc
        have hf := he.h0
        replace hf := hf.more he 13 rfl (onP e8)
        replace hf := hf.more he 15 rfl (onP e10)
        refine stAr (vs := [.int .i64 (min (b__1 i_1.toNat) (min (W (best_1 + 1)) (m i_1.toNat)))]) (o' := 0) (z := min (b__1 i_1.toNat) (min (W (best_1 + 1)) (m i_1.toNat))) hf hc rfl rfl rfl rfl sz_3 rfl (fun x => (one_encI_i64 x).1) rfl hun_3 rfl rfl u3 fun w hc => ?_
        refine cNil ?_
        refine xThenN ?_
        intro ds u hau
        refine ⟨θ, he.stay0 hi hau hf rfl, ?_⟩
        try dsimp only
        rw [updE_self E 11]
        exact hc
      · intro E θ a w hall he hc
        have hf := he.h0
        have e11 := hall 11 rfl
        replace hf := hf.more he 4 rfl (onT)
        replace hf := hf.more he 3 rfl (onT)
        replace hf := hf.more he 2 rfl (onT)
        replace hf := hf.more he 1 rfl (onT)
        replace hf := hf.more he 0 rfl (onT)
        try dsimp only at hc
        rw [e11] at hc
        exact ⟨hf.keep ⟨rfl, rfl, rfl, rfl, rfl, trivial⟩, hc⟩
      rintro a w ⟨hf, hc⟩
      refine h19 _ _ ?_
      refine cReg ?_
      refine stP hf rfl rfl rfl (pM rfl) fun a hf => ?_
      refine stP hf rfl rfl rfl (pSub rfl rfl) fun a hf => ?_
      refine stP hf rfl rfl rfl (pA rfl) fun a hf => ?_
      refine cNil ?_
      exact hK11 (min (W (best_1 + 1)) (m i_1.toNat), W (i_1 - 1), (setF b__1 i_1.toNat (min (b__1 i_1.toNat) (min (W (best_1 + 1)) (m i_1.toNat))))) _ _ (Option.some.inj hF).symm ⟨hf.keep ⟨rfl, rfl, rfl, rfl, rfl, trivial⟩, hc⟩
    · replace hF := condF hb hF
      clear hb
      refine wp_exit ?_
      refine xThen ?_
      refine xThen ?_
      have he := Option.some.inj hF
      rw [← he] at hfin11
      refine cHit ?_
      exact hr11 _ _ _ hfin11 ⟨hf.keep ⟨rfl, rfl, rfl, rfl, rfl, trivial⟩, hc⟩
  have ho7 : ∀ r, x7 = .out r → r = res := by
    rintro r rfl
    exact Option.some.inj hF
  refine cLoop N (loopW (S := S7) (x := x7) ?_ N (1073741824, 0, (fun _ => 0)) _ _ ⟨hf.keep ⟨rfl, rfl, rfl, rfl, rfl, trivial⟩, hc⟩ hx7)
  clear hF hf hc
  rintro ⟨best, x, b__0⟩ st7 a w KB7 ⟨hf, hc⟩ hF hfin7 hK7
  unfold shift_moved_on_b7 at hF
  refine wp_seq_k fun K21 h21 => ?_
  refine cReg ?_
  refine stP hf rfl rfl rfl (pLt rfl rfl) fun a hf => ?_
  refine cNil ?_
  refine h21 _ _ ?_
  refine wp_seq_k fun K22 h22 => ?_
  refine cCond (b := (decide (x < 601))) hf rfl (fun hb => ?_) (fun hb => ?_)
  · replace hF := condT hb hF
    clear hb
    refine wp_skip ?_
    refine h22 _ _ ?_
    refine wp_seq_k fun K23 h23 => ?_
    refine wp_block ?_
    refine wp_seq_k fun K24 h24 => ?_
    refine cReg ?_
    refine stP hf rfl rfl rfl (pM rfl) fun a hf => ?_
    refine stP hf rfl rfl rfl (pA rfl) fun a hf => ?_
    refine cNil ?_
    refine h24 _ _ ?_
    refine wp_seq_k fun K25 h25 => ?_
    refine cReg ?_
    refine stP hf rfl rfl rfl (pM rfl) fun a hf => ?_
    refine stP hf rfl rfl rfl (pAdd rfl rfl) fun a hf => ?_
    refine stP hf rfl rfl rfl (pM rfl) fun a hf => ?_
    obtain ⟨un_4, hun_4, hF⟩ := bnd_some hF
    refine stP hf rfl rfl rfl (pIAA Try.underlying155 sz_3 rfl rfl (inR_spec hun_4).1 (inR_spec hun_4).2) fun a hf => ?_
    refine stE hf hc rfl rfl rfl (eLd1 sc_3 rfl (cell_arr (j := 0) m0 (fun x => (one_encI_i64 x).1) rfl hun_4 rfl)) fun a w hf hc => ?_
    refine stP hf rfl rfl rfl (pMin2 rfl rfl) fun a hf => ?_
    refine stP hf rfl rfl rfl (pA rfl) fun a hf => ?_
    refine cNil ?_
    refine h25 _ _ ?_
    refine cReg ?_
    refine stE hf hc rfl rfl rfl (eLd1 sc_211 rfl (cell_box m2 rfl)) fun a w hf hc => ?_
    refine stP hf rfl rfl rfl (pM rfl) fun a hf => ?_
    refine stP hf rfl rfl rfl (pM rfl) fun a hf => ?_
    refine stP hf rfl rfl rfl (pNC rfl) fun a hf => ?_
    obtain ⟨un_5, hun_5, hF⟩ := bnd_some hF
    refine stP hf rfl rfl rfl (pIAA Try.underlying155 sz_3 rfl rfl (inR_spec hun_5).1 (inR_spec hun_5).2) fun a hf => ?_
    refine stAr (vs := [.int .i64 (min (W (best + 1)) (m x.toNat))]) (o' := 0) (z := min (W (best + 1)) (m x.toNat)) hf hc rfl rfl rfl rfl sz_3 rfl (fun x => (one_encI_i64 x).1) rfl hun_5 rfl rfl u3 fun w hc => ?_
    refine cNil ?_
    refine h23 _ _ ?_
    refine cReg ?_
    refine stP hf rfl rfl rfl (pAdd rfl rfl) fun a hf => ?_
    refine stP hf rfl rfl rfl (pM rfl) fun a hf => ?_
    refine cNil ?_
    exact hK7 (min (W (best + 1)) (m x.toNat), W (x + 1), (setF b__0 x.toNat (min (W (best + 1)) (m x.toNat)))) _ _ (Option.some.inj hF).symm ⟨hf.keep ⟨rfl, rfl, rfl, rfl, rfl, trivial⟩, hc⟩
  · replace hF := condF hb hF
    clear hb
    refine wp_exit ?_
    refine xThen ?_
    refine xThen ?_
    have he := Option.some.inj hF
    rw [← he] at hfin7
    refine cHit ?_
    exact hr7 _ _ _ hfin7 ⟨hf.keep ⟨rfl, rfl, rfl, rfl, rfl, trivial⟩, hc⟩

def shift_reckoned_b6 (N : Nat) (sub : List api_Span) (out : List (Nat → Int)) (x : Int) (x_1 : Nat → Int) : Option (Step ((List (Nat → Int)) × Int × (Nat → Int)) ((List (Nat → Int)))) :=
  cond (decide (x < ((sub.length : Nat) : Int)))
  (Option.bind (getI sub x) fun e_2 =>
  Option.bind (shift_moved_on N x_1 e_2) fun r_1 =>
  Option.bind (room ((out ++ [r_1])).length) fun un =>
  some (.cont ((out ++ [r_1]), W (x + 1), r_1)))
  (some (.brk (out, x, x_1)))
def shift_reckoned (N : Nat) (l : List api_Span) : Option ((List (Nat → Int))) :=
  Option.bind (getI l 0) fun e_1 =>
  Option.bind (shift_start N e_1) fun r =>
  Option.bind (subO l 1 ((l.length : Nat) : Int)) fun sub =>
  Option.bind (loopO (fun s6 => shift_reckoned_b6 N sub s6.1 s6.2.1 s6.2.2) N (([r] : List (Nat → Int)), 0, r)) fun x6 =>
  exK x6 (fun s6 => some s6.1) some
theorem shift_reckoned_ok {N : Nat} {G : Pers} {Lf : List Ent} {w : World} (l : List api_Span) {l_p : Option Addr} {l_c : Nat} (h_l : Rd G 2 l_p l_c (l.map enc_api_Span)) (hc : Ctx G (Lf) w) {res : (List (Nat → Int))} (hF : shift_reckoned N l = some res) : Calls Try.prog 108 #[.slice l_p l.length l_c] w (fun e w => ∃ (p'1 : Option Addr) (c'1 : Nat), e = .returned (.slice p'1 res.length c'1) ∧ Ctx G (.row p'1 c'1 (res.map encA_155) 155 601 :: Lf) w) := by
  unfold shift_reckoned at hF
  refine fnIn (args := [.slice l_p l.length l_c]) Try.func108 rfl Try.ntmps108 rfl fun a hf => ?_
  refine wp_seq_k fun K1 h1 => ?_
  refine cReg ?_
  refine stP hf rfl rfl rfl (pA rfl) fun a hf => ?_
  refine cNil ?_
  refine h1 _ _ ?_
  refine wp_seq_k fun K2 h2 => ?_
  refine cReg ?_
  refine stP hf rfl rfl rfl (pM rfl) fun a hf => ?_
  obtain ⟨e_1, he_1, hF⟩ := bnd_some hF
  obtain ⟨b_1, o, qa, qp⟩ := h_l.atm he_1
  refine stP hf rfl rfl rfl (pIA Try.underlying44 sz_50 rfl rfl qa) fun a hf => ?_
  refine stE hf hc rfl rfl rfl (eLdN (vs := [.int .i64 e_1.Lo, .int .i64 e_1.Hi]) ag_50 rfl rfl (cells_pc qp (n := 2) (o' := 0) rfl)) fun a w hf hc => ?_
  obtain ⟨r, hr, hF⟩ := bnd_some hF
  refine stC (vs := [.agg #[.int .i64 e_1.Lo, .int .i64 e_1.Hi]]) (caps := []) hf rfl rfl rfl en_136 rfl rfl rfl rfl (shift_start_ok e_1 hc hr) ?_
  rintro _ w ⟨b_2, rfl, hc⟩
  refine ⟨_, rfl, fun a hf => ?_⟩
  refine stP hf rfl rfl rfl (pA rfl) fun a hf => ?_
  refine cNil ?_
  refine h2 _ _ ?_
  refine wp_seq_k fun K3 h3 => ?_
  refine cReg ?_
  refine stP hf rfl rfl rfl (pM rfl) fun a hf => ?_
  refine stP hf rfl rfl rfl (pNC rfl) fun a hf => ?_
  refine stE hf hc rfl rfl rfl (eLdN (vs := (catc [] 601 encI_i64 r [])) ag_155 rfl (one_encA_155 _).1 (cells_box (n := 601) m0 (takeW (one_encA_155 _).1))) fun a w hf hc => ?_
  refine stBS (rows := ([r] : List (Nat → Int)).map encA_155) (vs := [(0, .agg (catc [] 601 encI_i64 r []).toArray)]) hf hc rfl rfl sl_152 rfl ⟨rfl, rfl, (one_encA_155 _).1, trivial⟩ rfl rfl fun b_3 a w hf hc => ?_
  refine stP hf rfl rfl rfl (pA rfl) fun a hf => ?_
  refine cNil ?_
  refine h3 _ _ ?_
  refine wp_seq_k fun K4 h4 => ?_
  refine wp_seq_k fun K5 h5 => ?_
  refine cReg ?_
  refine stP hf rfl rfl rfl (pM rfl) fun a hf => ?_
  obtain ⟨sub, hsub, hF⟩ := bnd_some hF
  have qs := Rd.sub h_l hsub
  refine stP hf rfl rfl rfl (pSl Try.underlying44 sz_50 rfl rfl (by simpa using h_l.1) rfl rfl hsub) fun a hf => ?_
  refine stP hf rfl rfl rfl (pLenS Try.underlying44 rfl) fun a hf => ?_
  refine stP hf rfl rfl rfl (pM rfl) fun a hf => ?_
  refine cNil ?_
  refine h5 _ _ ?_
  refine wp_block ?_
  obtain ⟨x6, hx6, hF⟩ := bnd_some hF
  let S6 : ((List (Nat → Int)) × Int × (Nat → Int)) → Act → World → Prop := (fun (zz : (List (Nat → Int)) × Int × (Nat → Int)) a w => ∃ (p_1 : Option Addr) (c_1 : Nat), Has 33 a [(3, .pointer (some ⟨b_2, 0, none⟩)), (4, .slice p_1 zz.1.length c_1), (16, .slice (subP l_p l_c (1 : Int).toNat 2) sub.length (l_c - (1 : Int).toNat)), (17, .int .i64 ((sub.length : Nat) : Int)), (18, .int .i64 zz.2.1)] ∧ Ctx G (.row p_1 c_1 (zz.1.map encA_155) 155 601 :: .box b_2 (catc [] 601 encI_i64 zz.2.2 []) 155 :: Lf) w)
  have hr6 : ∀ (zz : (List (Nat → Int)) × Int × (Nat → Int)) a w, x6 = .go zz → S6 zz a w → K4 a w := by
    rintro ⟨out, x, x_1⟩ a w rfl ⟨p_1, c_1, hf, hc⟩
    replace hF := exK_go hF
    refine h4 _ _ ?_
    refine wp_seq_k fun K7 h7 => ?_
    refine cReg ?_
    refine stP hf rfl rfl rfl (pM rfl) fun a hf => ?_
    refine stP hf rfl rfl rfl (pA rfl) fun a hf => ?_
    refine cNil ?_
    refine h7 _ _ ?_
    refine wp_ret ?_
    obtain rfl := Option.some.inj hF
    replace hc := hc.drop k1
    exact fnOut1 (by simp) rfl Try.results108 hf hc (show look _ 2 = _ from rfl) ⟨p_1, c_1, rfl, hc⟩
  have ho6 : ∀ r, x6 = .out r → r = res := by
    rintro r rfl
    exact Option.some.inj hF
  refine cLoop N (loopW (S := S6) (x := x6) ?_ N (([r] : List (Nat → Int)), 0, r) _ _ ⟨(some ⟨b_3, 0, none⟩), 1, hf.keep ⟨rfl, rfl, rfl, rfl, rfl, trivial⟩, hc⟩ hx6)
  clear hF hf hc
  rintro ⟨out, x, x_1⟩ st6 a w KB6 ⟨p_1, c_1, hf, hc⟩ hF hfin6 hK6
  unfold shift_reckoned_b6 at hF
  refine wp_seq_k fun K8 h8 => ?_
  refine cReg ?_
  refine stP hf rfl rfl rfl (pLt rfl rfl) fun a hf => ?_
  refine cNil ?_
  refine h8 _ _ ?_
  refine wp_seq_k fun K9 h9 => ?_
  refine cCond (b := (decide (x < ((sub.length : Nat) : Int)))) hf rfl (fun hb => ?_) (fun hb => ?_)
  · replace hF := condT hb hF
    clear hb
    refine wp_skip ?_
    refine h9 _ _ ?_
    refine wp_seq_k fun K10 h10 => ?_
    refine wp_block ?_
    refine wp_seq_k fun K11 h11 => ?_
    refine cReg ?_
    obtain ⟨e_2, he_2, hF⟩ := bnd_some hF
    obtain ⟨b_4, o_1, qa_1, qp_1⟩ := qs.atm he_2
    refine stP hf rfl rfl rfl (pIA Try.underlying44 sz_50 rfl rfl qa_1) fun a hf => ?_
    refine stE hf hc rfl rfl rfl (eLdN (vs := [.int .i64 e_2.Lo, .int .i64 e_2.Hi]) ag_50 rfl rfl (cells_pc qp_1 (n := 2) (o' := 0) rfl)) fun a w hf hc => ?_
    refine stAl (cs := [.int .i64 0, .int .i64 0]) hf hc rfl rfl zr_50 rfl fun b_5 a w hf hc => ?_
    refine stSt (vs := [.int .i64 e_2.Lo, .int .i64 e_2.Hi]) hf hc rfl rfl rfl rfl sz_50 rfl rfl u0 fun w hc => ?_
    refine cNil ?_
    refine h11 _ _ ?_
    refine wp_seq_k fun K12 h12 => ?_
    refine cReg ?_
    refine stP hf rfl rfl rfl (pM rfl) fun a hf => ?_
    refine stE hf hc rfl rfl rfl (eLdN (vs := [.int .i64 e_2.Lo, .int .i64 e_2.Hi]) ag_50 rfl rfl (cells_box (n := 2) m0 rfl)) fun a w hf hc => ?_
    obtain ⟨r_1, hr_1, hF⟩ := bnd_some hF
    refine stC (vs := [.pointer (some ⟨b_2, 0, none⟩), .agg #[.int .i64 e_2.Lo, .int .i64 e_2.Hi]]) (caps := []) hf rfl rfl rfl en_137 rfl rfl rfl rfl (shift_moved_on_ok x_1 e_2 (hc.pick k2) hr_1) ?_
    rintro _ w ⟨rfl, hc⟩
    refine ⟨_, rfl, fun a hf => ?_⟩
    refine cNil ?_
    refine h12 _ _ ?_
    refine cReg ?_
    refine stP hf rfl rfl rfl (pM rfl) fun a hf => ?_
    refine stP hf rfl rfl rfl (pM rfl) fun a hf => ?_
    refine stP hf rfl rfl rfl (pNC rfl) fun a hf => ?_
    refine stE hf hc rfl rfl rfl (eLdN (vs := (catc [] 601 encI_i64 r_1 [])) ag_155 rfl (one_encA_155 _).1 (cells_box (n := 601) m0 (takeW (one_encA_155 _).1))) fun a w hf hc => ?_
    refine stBS (rows := ([r_1] : List (Nat → Int)).map encA_155) (vs := [(0, .agg (catc [] 601 encI_i64 r_1 []).toArray)]) hf hc rfl rfl sl_152 rfl ⟨rfl, rfl, (one_encA_155 _).1, trivial⟩ rfl rfl fun b_6 a w hf hc => ?_
    obtain ⟨un, hun, hF⟩ := bnd_some hF
    refine stApm (xs := out) (ys := ([r_1] : List (Nat → Int))) hf hc rfl rfl sl_152 rfl rfl rfl rfl rfl one_encA_155 (src_row hc m0) (fun _ _ => u3) (by simpa using room_spec hun) fun p_2 c_2 a w hf hc => ?_
    refine stP hf rfl rfl rfl (pA rfl) fun a hf => ?_
    refine cNil ?_
    refine h10 _ _ ?_
    refine cReg ?_
    refine stP hf rfl rfl rfl (pAdd rfl rfl) fun a hf => ?_
    refine stP hf rfl rfl rfl (pM rfl) fun a hf => ?_
    refine cNil ?_
    replace hc := hc.drop k2
    replace hc := hc.drop k0
    replace hc := hc.pick k0
    replace hc := hc.pick k1
    exact hK6 ((out ++ [r_1]), W (x + 1), r_1) _ _ (Option.some.inj hF).symm ⟨p_2, c_2, hf.keep ⟨rfl, rfl, rfl, rfl, rfl, trivial⟩, hc⟩
  · replace hF := condF hb hF
    clear hb
    refine wp_exit ?_
    refine xThen ?_
    refine xThen ?_
    have he := Option.some.inj hF
    rw [← he] at hfin6
    refine cHit ?_
    exact hr6 _ _ _ hfin6 ⟨p_1, c_1, hf.keep ⟨rfl, rfl, rfl, rfl, rfl, trivial⟩, hc⟩

def slices_Reverse_Lshift_moved_shift_moved_b3 (N : Nat) (s_1 : List (Nat → Int)) (i_1 : Int) (j_1 : Int) : Option (Step ((List (Nat → Int)) × Int × Int) ((List (Nat → Int)))) :=
  cond (decide (i_1 < j_1))
  (Option.bind (getI s_1 j_1) fun e_1 =>
  Option.bind (getI s_1 i_1) fun e_2 =>
  Option.bind (getI s_1 i_1) fun e_3 =>
  Option.bind (getI s_1 j_1) fun e_4 =>
  some (.cont (((s_1.set i_1.toNat e_1).set j_1.toNat e_2), W (i_1 + 1), W (j_1 - 1))))
  (some (.brk (s_1, i_1, j_1)))
def slices_Reverse_Lshift_moved_shift_moved (N : Nat) (s_ : List (Nat → Int)) : Option ((List (Nat → Int))) :=
  Option.bind (loopO (fun s3 => slices_Reverse_Lshift_moved_shift_moved_b3 N s3.1 s3.2.1 s3.2.2) N (s_, 0, W (((s_.length : Nat) : Int) - 1))) fun x3 =>
  exK x3 (fun s3 => Option.bind (sameL s3.1 s_) fun _ =>
  some s3.1) some
theorem slices_Reverse_Lshift_moved_shift_moved_ok {N : Nat} {G : Pers} {Lf : List Ent} {w : World} (s_ : List (Nat → Int)) {s__p : Option Addr} {s__c : Nat}  (hc : Ctx G (.row s__p s__c (s_.map encA_155) 155 601 :: Lf) w) {res : (List (Nat → Int))} (hF : slices_Reverse_Lshift_moved_shift_moved N s_ = some res) : Calls Try.prog 112 #[.slice s__p s_.length s__c] w (fun e w => e = .returned (.tuple #[]) ∧ res.length = s_.length ∧ Ctx G (.row s__p s__c (res.map encA_155) 155 601 :: Lf) w) := by
  unfold slices_Reverse_Lshift_moved_shift_moved at hF
  refine fnIn (args := [.slice s__p s_.length s__c]) Try.func112 rfl Try.ntmps112 rfl fun a hf => ?_
  refine wp_seq_k fun K1 h1 => ?_
  refine cReg ?_
  refine stP hf rfl rfl rfl (pM rfl) fun a hf => ?_
  refine stP hf rfl rfl rfl (pLenS Try.underlying152 rfl) fun a hf => ?_
  refine stP hf rfl rfl rfl (pSub rfl rfl) fun a hf => ?_
  refine stP hf rfl rfl rfl (pA rfl) fun a hf => ?_
  refine stP hf rfl rfl rfl (pA rfl) fun a hf => ?_
  refine cNil ?_
  refine h1 _ _ ?_
  refine wp_thenK fun K2 h2 => ?_
  refine wp_block ?_
  obtain ⟨x3, hx3, hF⟩ := bnd_some hF
  let S3 : ((List (Nat → Int)) × Int × Int) → Act → World → Prop := (fun (zz : (List (Nat → Int)) × Int × Int) a w => Has 28 a [(0, .slice s__p zz.1.length s__c), (2, .int .i64 zz.2.1), (3, .int .i64 zz.2.2)] ∧ Ctx G (.row s__p s__c (zz.1.map encA_155) 155 601 :: Lf) w)
  have hr3 : ∀ (zz : (List (Nat → Int)) × Int × Int) a w, x3 = .go zz → S3 zz a w → K2 a w := by
    rintro ⟨s_1, i_1, j_1⟩ a w rfl ⟨hf, hc⟩
    replace hF := exK_go hF
    refine h2 _ _ ?_
    obtain ⟨_, hl0, hF⟩ := same_len hF
    obtain rfl := Option.some.inj hF
    exact fnOut0 (by simp) rfl Try.results112 hf ⟨rfl, hl0, hc⟩
  have ho3 : ∀ r, x3 = .out r → r = res := by
    rintro r rfl
    exact Option.some.inj hF
  refine cLoop N (loopW (S := S3) (x := x3) ?_ N (s_, 0, W (((s_.length : Nat) : Int) - 1)) _ _ ⟨hf.keep ⟨rfl, rfl, rfl, trivial⟩, hc⟩ hx3)
  clear hF hf hc
  rintro ⟨s_1, i_1, j_1⟩ st3 a w KB3 ⟨hf, hc⟩ hF hfin3 hK3
  unfold slices_Reverse_Lshift_moved_shift_moved_b3 at hF
  refine wp_seq_k fun K4 h4 => ?_
  refine wp_seq_k fun K5 h5 => ?_
  refine cReg ?_
  refine stP hf rfl rfl rfl (pM rfl) fun a hf => ?_
  refine stP hf rfl rfl rfl (pM rfl) fun a hf => ?_
  refine stP hf rfl rfl rfl (pLt rfl rfl) fun a hf => ?_
  refine cNil ?_
  refine h5 _ _ ?_
  refine cCond (b := (decide (i_1 < j_1))) hf rfl (fun hb => ?_) (fun hb => ?_)
  · replace hF := condT hb hF
    clear hb
    refine wp_skip ?_
    refine h4 _ _ ?_
    refine wp_seq_k fun K6 h6 => ?_
    refine wp_block ?_
    obtain ⟨e_1, he_1, hF⟩ := bnd_some hF
    obtain ⟨g, rfl, qa, qr⟩ := row_atm hc m0 he_1
    obtain ⟨e_2, he_2, hF⟩ := bnd_some hF
    obtain ⟨qa_1, qr_1⟩ := row_atk hc m0 he_2
    obtain ⟨e_3, he_3, hF⟩ := bnd_some hF
    obtain ⟨qa_2, qr_2⟩ := row_atk hc m0 he_3
    obtain ⟨e_4, he_4, hF⟩ := bnd_some hF
    obtain ⟨qa_3, qr_3⟩ := row_atk hc m0 he_4
    refine regionE (fun θ => [⟨none, none, 0, .slice (some ⟨g, 0, none⟩) s_1.length s__c⟩, ⟨none, none, 2, .int .i64 i_1⟩, ⟨none, none, 3, .int .i64 j_1⟩, ⟨some 0, none, 14, .slice (some ⟨g, 0, none⟩) s_1.length s__c⟩, ⟨some 1, none, 15, .int .i64 i_1⟩, ⟨some 2, none, 16, .slice (some ⟨g, 0, none⟩) s_1.length s__c⟩, ⟨some 3, none, 17, .int .i64 j_1⟩, ⟨some 4, none, 18, .slice (some ⟨g, 0, none⟩) s_1.length s__c⟩, ⟨some 5, none, 19, .int .i64 j_1⟩, ⟨some 6, none, 20, .pointer (some ⟨g, j_1.toNat * 601, none⟩)⟩, ⟨some 7, none, 21, .agg (catc [] 601 encI_i64 e_1 []).toArray⟩, ⟨some 8, none, 22, .slice (some ⟨g, 0, none⟩) s_1.length s__c⟩, ⟨some 9, none, 23, .int .i64 i_1⟩, ⟨some 10, none, 24, .pointer (some ⟨g, i_1.toNat * 601, none⟩)⟩, ⟨some 11, none, 25, .agg (catc [] 601 encI_i64 e_2 []).toArray⟩, ⟨some 12, none, 26, .pointer (some ⟨g, i_1.toNat * 601, none⟩)⟩, ⟨some 14, none, 27, .pointer (some ⟨g, j_1.toNat * 601, none⟩)⟩]) (fun E θ => (bif E 15 then .row (some ⟨g, 0, none⟩) s__c (((s_1.set i_1.toNat e_1).set j_1.toNat e_2).map encA_155) 155 601 else bif E 13 then .row (some ⟨g, 0, none⟩) s__c ((s_1.set i_1.toNat e_1).map encA_155) 155 601 else .row (some ⟨g, 0, none⟩) s__c (s_1.map encA_155) 155 601) :: Lf) [(13, 6), (15, 6), (13, 7), (15, 7), (11, 10), (13, 11), (15, 10), (15, 11), (13, 12), (15, 12), (15, 13), (15, 14)] (fun a w => Has 28 a [(0, .slice (some ⟨g, 0, none⟩) s_1.length s__c), (2, .int .i64 i_1), (3, .int .i64 j_1)] ∧ Ctx G (.row (some ⟨g, 0, none⟩) s__c (((s_1.set i_1.toNat e_1).set j_1.toNat e_2).map encA_155) 155 601 :: Lf) w) follows_mx (by kernel_rfl) (by kernel_rfl) (HasE.of hf ⟨rfl, rfl, rfl, trivial, trivial, trivial, trivial, trivial, trivial, trivial, trivial, trivial, trivial, trivial, trivial, trivial, trivial, trivial⟩) hc ⟨?_, ?_, ?_, ?_, ?_, ?_, ?_, ?_, ?_, ?_, ?_, ?_, ?_, ?_, ?_, ?_, trivial⟩ ?_ ?_
    · intro E θ a w hD hi hp he hc
      have hf := he.h0
      replace hf := hf.more he 0 rfl onT
      refine stP hf rfl rfl rfl (pM rfl) fun a hf => ?_
      refine cNil ?_
      refine xThenN ?_
      intro ds u hau
      refine ⟨θ, he.put0 hi hau hf rfl 3 rfl rfl, ?_⟩
      exact hc
    · intro E θ a w hD hi hp he hc
      have hf := he.h0
      replace hf := hf.more he 1 rfl onT
      refine stP hf rfl rfl rfl (pM rfl) fun a hf => ?_
      refine cNil ?_
      refine xThenN ?_
      intro ds u hau
      refine ⟨θ, he.put0 hi hau hf rfl 4 rfl rfl, ?_⟩
      exact hc
    · intro E θ a w hD hi hp he hc
      have hf := he.h0
      replace hf := hf.more he 0 rfl onT
      refine stP hf rfl rfl rfl (pM rfl) fun a hf => ?_
      refine cNil ?_
      refine xThenN ?_
      intro ds u hau
      refine ⟨θ, he.put0 hi hau hf rfl 5 rfl rfl, ?_⟩
      exact hc
    · intro E θ a w hD hi hp he hc
      have hf := he.h0
      replace hf := hf.more he 2 rfl onT
      refine stP hf rfl rfl rfl (pM rfl) fun a hf => ?_
      refine cNil ?_
      refine xThenN ?_
      intro ds u hau
      refine ⟨θ, he.put0 hi hau hf rfl 6 rfl rfl, ?_⟩
      exact hc
    · intro E θ a w hD hi hp he hc
      have hf := he.h0
      replace hf := hf.more he 0 rfl onT
      refine stP hf rfl rfl rfl (pM rfl) fun a hf => ?_
      refine cNil ?_
      refine xThenN ?_
      intro ds u hau
      refine ⟨θ, he.put0 hi hau hf rfl 7 rfl rfl, ?_⟩
      exact hc
    · intro E θ a w hD hi hp he hc
      have hf := he.h0
      replace hf := hf.more he 2 rfl onT
      refine stP hf rfl rfl rfl (pM rfl) fun a hf => ?_
      refine cNil ?_
      refine xThenN ?_
      intro ds u hau
      refine ⟨θ, he.put0 hi hau hf rfl 8 rfl rfl, ?_⟩
      exact hc
    · intro E θ a w hD hi hp he hc
      have e4 := hp.of (k := 4) rfl
      have e5 := hp.of (k := 5) rfl
      have e13 := hD.f 0 rfl hi
      have e15 := hD.f 1 rfl hi
      try dsimp only at hc
      rw [e13, e15] at hc
      have hf := he.h0
      replace hf := hf.more he 7 rfl (onP e4)
      replace hf := hf.more he 8 rfl (onP e5)
      refine stP hf rfl rfl rfl (pIA Try.underlying152 sz_155 rfl rfl qa) fun a hf => ?_
      refine cNil ?_
      refine xThenN ?_
      intro ds u hau
      refine ⟨θ, he.put0 hi hau hf rfl 9 rfl rfl, ?_⟩
      try dsimp only
      rw [updE_fls 6 e13 rfl, updE_fls 6 e15 rfl]
      exact hc
    · intro E θ a w hD hi hp he hc
      have e6 := hp.of (k := 6) rfl
      have e13 := hD.f 2 rfl hi
      have e15 := hD.f 3 rfl hi
      try dsimp only at hc
      rw [e13, e15] at hc
      have hf := he.h0
      replace hf := hf.more he 9 rfl (onP e6)
      refine stE hf hc rfl rfl rfl (eLdN (vs := (catc [] 601 encI_i64 e_1 [])) ag_155 rfl (one_encA_155 _).1 (cells_rw (sz := 601) (i := j_1.toNat) m0 qr (n := 601) (o' := 0) (takeW (one_encA_155 _).1))) fun a w hf hc => ?_
      refine cNil ?_
      refine xThenN ?_
      intro ds u hau
      refine ⟨θ, he.put0 hi hau hf rfl 10 rfl rfl, ?_⟩
      try dsimp only
      rw [updE_fls 7 e13 rfl, updE_fls 7 e15 rfl]
      exact hc
    · intro E θ a w hD hi hp he hc
      have hf := he.h0
      replace hf := hf.more he 0 rfl onT
      refine stP hf rfl rfl rfl (pM rfl) fun a hf => ?_
      refine cNil ?_
      refine xThenN ?_
      intro ds u hau
      refine ⟨θ, he.put0 hi hau hf rfl 11 rfl rfl, ?_⟩
      exact hc
    · intro E θ a w hD hi hp he hc
      have hf := he.h0
      replace hf := hf.more he 1 rfl onT
      refine stP hf rfl rfl rfl (pM rfl) fun a hf => ?_
      refine cNil ?_
      refine xThenN ?_
      intro ds u hau
      refine ⟨θ, he.put0 hi hau hf rfl 12 rfl rfl, ?_⟩
      exact hc
    · intro E θ a w hD hi hp he hc
      have e8 := hp.of (k := 8) rfl
      have e9 := hp.of (k := 9) rfl
      have e11 := hD.f 4 rfl hi
      have e13 := hD.f 5 rfl e11
      have e15 := hD.f 6 rfl hi
      try dsimp only at hc
      rw [e13, e15] at hc
      have hf := he.h0
      replace hf := hf.more he 11 rfl (onP e8)
      replace hf := hf.more he 12 rfl (onP e9)
      refine stP hf rfl rfl rfl (pIA Try.underlying152 sz_155 rfl rfl qa_1) fun a hf => ?_
      refine cNil ?_
      refine xThenN ?_
      intro ds u hau
      refine ⟨θ, he.put0 hi hau hf rfl 13 rfl rfl, ?_⟩
      try dsimp only
      rw [updE_fls 10 e13 rfl, updE_fls 10 e15 rfl]
      exact hc
    · intro E θ a w hD hi hp he hc
      have e10 := hp.of (k := 10) rfl
      have e13 := hD.f 5 rfl hi
      have e15 := hD.f 7 rfl hi
      try dsimp only at hc
      rw [e13, e15] at hc
      have hf := he.h0
      replace hf := hf.more he 13 rfl (onP e10)
      refine stE hf hc rfl rfl rfl (eLdN (vs := (catc [] 601 encI_i64 e_2 [])) ag_155 rfl (one_encA_155 _).1 (cells_rw (sz := 601) (i := i_1.toNat) m0 qr_1 (n := 601) (o' := 0) (takeW (one_encA_155 _).1))) fun a w hf hc => ?_
      refine cNil ?_
      refine xThenN ?_
      intro ds u hau
      refine ⟨θ, he.put0 hi hau hf rfl 14 rfl rfl, ?_⟩
      try dsimp only
      rw [updE_fls 11 e13 rfl, updE_fls 11 e15 rfl]
      exact hc
    · intro E θ a w hD hi hp he hc
      have e0 := hp.of (k := 0) rfl
      have e1 := hp.of (k := 1) rfl
      have e13 := hD.f 8 rfl hi
      have e15 := hD.f 9 rfl hi
      try dsimp only at hc
      rw [e13, e15] at hc
      have hf := he.h0
      replace hf := hf.more he 3 rfl (onP e0)
      replace hf := hf.more he 4 rfl (onP e1)
      refine stP hf rfl rfl rfl (pIA Try.underlying152 sz_155 rfl rfl qa_2) fun a hf => ?_
      refine cNil ?_
      refine xThenN ?_
      intro ds u hau
      refine ⟨θ, he.put0 hi hau hf rfl 15 rfl rfl, ?_⟩
      try dsimp only
      rw [updE_fls 12 e13 rfl, updE_fls 12 e15 rfl]
      exact hc
    · intro E θ a w hD hi hp he hc
      have e7 := hp.of (k := 7) rfl
      have e12 := hp.of (k := 12) rfl
      have e15 := hD.f 10 rfl hi
      try dsimp only at hc
      rw [hi, e15] at hc
      have hf := he.h0
      replace hf := hf.more he 10 rfl (onP e7)
      replace hf := hf.more he 15 rfl (onP e12)
      refine stRwA (enc := encA_155) (z := e_1) (xs := s_1) hf hc rfl rfl rfl one_encA_155 sz_155 (getI_lt he_3) u0 fun w hc => ?_
      refine cNil ?_
      refine xThenN ?_
      intro ds u hau
      refine ⟨θ, he.stay0 hi hau hf rfl, ?_⟩
      try dsimp only
      rw [updE_self E 13, updE_fls 13 e15 rfl]
      exact hc
    · intro E θ a w hD hi hp he hc
      have e2 := hp.of (k := 2) rfl
      have e3 := hp.of (k := 3) rfl
      have e13 := hp.of (k := 13) rfl
      have e15 := hD.f 11 rfl hi
      try dsimp only at hc
      rw [e13, e15] at hc
      have hf := he.h0
      replace hf := hf.more he 5 rfl (onP e2)
      replace hf := hf.more he 6 rfl (onP e3)
      refine stP hf rfl rfl rfl (pIA Try.underlying152 sz_155 rfl rfl qa_3) fun a hf => ?_
      refine cNil ?_
      refine xThenN ?_
      intro ds u hau
      refine ⟨θ, he.put0 hi hau hf rfl 16 rfl rfl, ?_⟩
      try dsimp only
      rw [updE_tru 14 e13, updE_fls 14 e15 rfl]
      exact hc
    · intro E θ a w hD hi hp he hc
      have e11 := hp.of (k := 11) rfl
      have e14 := hp.of (k := 14) rfl
      have e13 := hp.of (k := 13) rfl
      try dsimp only at hc
      rw [e13, hi] at hc
      have hf := he.h0
      replace hf := hf.more he 14 rfl (onP e11)
      replace hf := hf.more he 16 rfl (onP e14)
      refine stRwA (enc := encA_155) (z := e_2) (xs := (s_1.set i_1.toNat e_1)) hf hc rfl rfl rfl one_encA_155 sz_155 (by simpa using getI_lt he_4) u0 fun w hc => ?_
      refine cNil ?_
      refine xThenN ?_
      intro ds u hau
      refine ⟨θ, he.stay0 hi hau hf rfl, ?_⟩
      try dsimp only
      rw [updE_tru 15 e13, updE_self E 15]
      exact hc
    · intro E θ a w hall he hc
      have hf := he.h0
      have e13 := hall 13 rfl
      have e15 := hall 15 rfl
      replace hf := hf.more he 2 rfl (onT)
      replace hf := hf.more he 1 rfl (onT)
      replace hf := hf.more he 0 rfl (onT)
      try dsimp only at hc
      rw [e13, e15] at hc
      exact ⟨hf.keep ⟨rfl, rfl, rfl, trivial⟩, hc⟩
    rintro a w ⟨hf, hc⟩
    refine h6 _ _ ?_
    refine cReg ?_
    refine stP hf rfl rfl rfl (pM rfl) fun a hf => ?_
    refine stP hf rfl rfl rfl (pAdd rfl rfl) fun a hf => ?_
    refine stP hf rfl rfl rfl (pM rfl) fun a hf => ?_
    refine stP hf rfl rfl rfl (pSub rfl rfl) fun a hf => ?_
    refine stP hf rfl rfl rfl (pA rfl) fun a hf => ?_
    refine stP hf rfl rfl rfl (pA rfl) fun a hf => ?_
    refine cNil ?_
    rw [(by simp : s_1.length = ((s_1.set i_1.toNat e_1).set j_1.toNat e_2).length)] at hf
    exact hK3 (((s_1.set i_1.toNat e_1).set j_1.toNat e_2), W (i_1 + 1), W (j_1 - 1)) _ _ (Option.some.inj hF).symm ⟨hf.keep ⟨rfl, rfl, rfl, trivial⟩, hc⟩
  · replace hF := condF hb hF
    clear hb
    refine wp_exit ?_
    refine xThen ?_
    refine xThen ?_
    have he := Option.some.inj hF
    rw [← he] at hfin3
    refine cHit ?_
    exact hr3 _ _ _ hfin3 ⟨hf.keep ⟨rfl, rfl, rfl, trivial⟩, hc⟩

def shift_behind (N : Nat) (l : List api_Span) : Option ((List (Nat → Int))) :=
  Option.bind (slices_Clone_Lapi_Span_api_Span N l) fun r =>
  Option.bind (slices_Reverse_Lapi_Span_api_Span N r) fun r_1 =>
  Option.bind (shift_reckoned N r_1) fun r_2 =>
  Option.bind (slices_Reverse_Lshift_moved_shift_moved N r_2) fun r_3 =>
  some r_3
theorem shift_behind_ok {N : Nat} {G : Pers} {Lf : List Ent} {w : World} (l : List api_Span) {l_p : Option Addr} {l_c : Nat} (h_l : Rd G 2 l_p l_c (l.map enc_api_Span)) (hc : Ctx G (Lf) w) {res : (List (Nat → Int))} (hF : shift_behind N l = some res) : Calls Try.prog 80 #[.slice l_p l.length l_c] w (fun e w => ∃ (p'1 : Option Addr) (c'1 : Nat), e = .returned (.slice p'1 res.length c'1) ∧ Ctx G (.row p'1 c'1 (res.map encA_155) 155 601 :: Lf) w) := by
  unfold shift_behind at hF
  refine fnIn (args := [.slice l_p l.length l_c]) Try.func80 rfl Try.ntmps80 rfl fun a hf => ?_
  refine wp_seq_k fun K1 h1 => ?_
  refine cReg ?_
  refine stP hf rfl rfl rfl (pA rfl) fun a hf => ?_
  refine cNil ?_
  refine h1 _ _ ?_
  refine wp_seq_k fun K2 h2 => ?_
  refine cReg ?_
  refine stP hf rfl rfl rfl (pM rfl) fun a hf => ?_
  obtain ⟨r, hr, hF⟩ := bnd_some hF
  refine stC (vs := [.slice l_p l.length l_c]) (caps := []) hf rfl rfl rfl en_79 rfl rfl rfl rfl (slices_Clone_Lapi_Span_api_Span_ok l h_l hc hr) ?_
  rintro _ w ⟨p_1, c_1, rfl, hc⟩
  refine ⟨_, rfl, fun a hf => ?_⟩
  refine stP hf rfl rfl rfl (pA rfl) fun a hf => ?_
  refine cNil ?_
  refine h2 _ _ ?_
  refine wp_seq_k fun K3 h3 => ?_
  refine cReg ?_
  refine stP hf rfl rfl rfl (pM rfl) fun a hf => ?_
  obtain ⟨r_1, hr_1, hF⟩ := bnd_some hF
  refine stC (vs := [.slice p_1 r.length c_1]) (caps := []) hf rfl rfl rfl en_43 rfl rfl rfl rfl (slices_Reverse_Lapi_Span_api_Span_ok r (hc.pick k0) hr_1) ?_
  rintro _ w ⟨rfl, hl, hc⟩
  refine ⟨_, rfl, fun a hf => ?_⟩
  try rw [← hl] at hf
  try rw [← hl] at hc
  refine cNil ?_
  refine h3 _ _ ?_
  refine wp_seq_k fun K4 h4 => ?_
  refine cReg ?_
  refine stP hf rfl rfl rfl (pM rfl) fun a hf => ?_
  obtain ⟨r_2, hr_2, hF⟩ := bnd_some hF
  obtain ⟨G1, hle1, hrd1, hc, hth1⟩ := lend hc k0
  refine stC (vs := [.slice p_1 r_1.length c_1]) (caps := []) hf rfl rfl rfl en_108 rfl rfl rfl rfl (shift_reckoned_ok r_1 hrd1 hc hr_2) ?_
  rintro _ w ⟨p_2, c_2, rfl, hc⟩
  refine ⟨_, rfl, fun a hf => ?_⟩
  replace hc := hth1 _ _ hc
  refine stP hf rfl rfl rfl (pA rfl) fun a hf => ?_
  refine cNil ?_
  refine h4 _ _ ?_
  refine wp_seq_k fun K5 h5 => ?_
  refine cReg ?_
  refine stP hf rfl rfl rfl (pM rfl) fun a hf => ?_
  obtain ⟨r_3, hr_3, hF⟩ := bnd_some hF
  refine stC (vs := [.slice p_2 r_2.length c_2]) (caps := []) hf rfl rfl rfl en_112 rfl rfl rfl rfl (slices_Reverse_Lshift_moved_shift_moved_ok r_2 (hc.pick k1) hr_3) ?_
  rintro _ w ⟨rfl, hl_1, hc⟩
  refine ⟨_, rfl, fun a hf => ?_⟩
  try rw [← hl_1] at hf
  try rw [← hl_1] at hc
  refine cNil ?_
  refine h5 _ _ ?_
  refine wp_seq_k fun K6 h6 => ?_
  refine cReg ?_
  refine stP hf rfl rfl rfl (pM rfl) fun a hf => ?_
  refine stP hf rfl rfl rfl (pA rfl) fun a hf => ?_
  refine cNil ?_
  refine h6 _ _ ?_
  refine wp_ret ?_
  obtain rfl := Option.some.inj hF
  replace hc := hc.drop k1
  exact fnOut1 (by simp) rfl Try.results80 hf hc (show look _ 2 = _ from rfl) ⟨p_2, c_2, rfl, hc⟩

def slices_Min_Lint_int_b7 (N : Nat) (x : List Int) (m : Int) (i_1 : Int) : Option (Step (Int × Int) (Int)) :=
  cond (decide (i_1 < ((x.length : Nat) : Int)))
  (Option.bind (getI x i_1) fun e_2 =>
  some (.cont (min m e_2, W (i_1 + 1))))
  (some (.brk (m, i_1)))
def slices_Min_Lint_int (N : Nat) (x : List Int) : Option (Int) :=
  cond (decide (((x.length : Nat) : Int) < 1))
  (none)
  (Option.bind (getI x 0) fun e_1 =>
  Option.bind (loopO (fun s7 => slices_Min_Lint_int_b7 N x s7.1 s7.2) N (e_1, 1)) fun x7 =>
  exK x7 (fun s7 => some s7.1) some)
theorem slices_Min_Lint_int_ok {N : Nat} {G : Pers} {Lf : List Ent} {w : World} (x : List Int) {x_p : Option Addr} {x_c : Nat} (h_x : Rd G 1 x_p x_c (x.map encI_i64)) (hc : Ctx G (Lf) w) {res : Int} (hF : slices_Min_Lint_int N x = some res) : Calls Try.prog 81 #[.slice x_p x.length x_c] w (fun e w => e = .returned (.int .i64 res) ∧ Ctx G (Lf) w) := by
  unfold slices_Min_Lint_int at hF
  refine fnIn (args := [.slice x_p x.length x_c]) Try.func81 rfl Try.ntmps81 rfl fun a hf => ?_
  refine wp_seq_k fun K1 h1 => ?_
  refine cReg ?_
  refine stP hf rfl rfl rfl (pA rfl) fun a hf => ?_
  refine cNil ?_
  refine h1 _ _ ?_
  refine wp_seq_k fun K2 h2 => ?_
  refine wp_seq_k fun K3 h3 => ?_
  refine cReg ?_
  refine stP hf rfl rfl rfl (pM rfl) fun a hf => ?_
  refine stP hf rfl rfl rfl (pLenS Try.underlying61 rfl) fun a hf => ?_
  refine stP hf rfl rfl rfl (pLt rfl rfl) fun a hf => ?_
  refine cNil ?_
  refine h3 _ _ ?_
  refine cCond (b := (decide (((x.length : Nat) : Int) < 1))) hf rfl (fun hb => ?_) (fun hb => ?_)
  · replace hF := condT hb hF
    clear hb
    exact noneO hF
  · replace hF := condF hb hF
    clear hb
    refine wp_skip ?_
    refine h2 _ _ ?_
    refine wp_seq_k fun K4 h4 => ?_
    refine cReg ?_
    refine stP hf rfl rfl rfl (pM rfl) fun a hf => ?_
    obtain ⟨e_1, he_1, hF⟩ := bnd_some hF
    obtain ⟨b_1, o, qa, qp⟩ := h_x.atm he_1
    refine stP hf rfl rfl rfl (pIA Try.underlying61 sz_3 rfl rfl qa) fun a hf => ?_
    refine stE hf hc rfl rfl rfl (eLd1 sc_3 rfl (cell_pc (j := 0) qp rfl)) fun a w hf hc => ?_
    refine stP hf rfl rfl rfl (pA rfl) fun a hf => ?_
    refine cNil ?_
    refine h4 _ _ ?_
    refine wp_seq_k fun K5 h5 => ?_
    refine wp_seq_k fun K6 h6 => ?_
    refine cReg ?_
    refine stP hf rfl rfl rfl (pA rfl) fun a hf => ?_
    refine cNil ?_
    refine h6 _ _ ?_
    refine wp_block ?_
    obtain ⟨x7, hx7, hF⟩ := bnd_some hF
    let S7 : (Int × Int) → Act → World → Prop := (fun (zz : Int × Int) a w => Has 25 a [(0, .slice x_p x.length x_c), (3, .int .i64 zz.1), (4, .int .i64 zz.2)] ∧ Ctx G (Lf) w)
    have hr7 : ∀ (zz : Int × Int) a w, x7 = .go zz → S7 zz a w → K5 a w := by
      rintro ⟨m, i_1⟩ a w rfl ⟨hf, hc⟩
      replace hF := exK_go hF
      refine h5 _ _ ?_
      refine wp_seq_k fun K8 h8 => ?_
      refine cReg ?_
      refine stP hf rfl rfl rfl (pM rfl) fun a hf => ?_
      refine stP hf rfl rfl rfl (pA rfl) fun a hf => ?_
      refine cNil ?_
      refine h8 _ _ ?_
      refine wp_ret ?_
      obtain rfl := Option.some.inj hF
      exact fnOut1 (by simp) rfl Try.results81 hf hc (show look _ 2 = _ from rfl) ⟨rfl, hc⟩
    have ho7 : ∀ r, x7 = .out r → r = res := by
      rintro r rfl
      exact Option.some.inj hF
    refine cLoop N (loopW (S := S7) (x := x7) ?_ N (e_1, 1) _ _ ⟨hf.keep ⟨rfl, rfl, rfl, trivial⟩, hc⟩ hx7)
    clear hF hf hc
    rintro ⟨m, i_1⟩ st7 a w KB7 ⟨hf, hc⟩ hF hfin7 hK7
    unfold slices_Min_Lint_int_b7 at hF
    refine wp_seq_k fun K9 h9 => ?_
    refine wp_seq_k fun K10 h10 => ?_
    refine cReg ?_
    refine stP hf rfl rfl rfl (pM rfl) fun a hf => ?_
    refine stP hf rfl rfl rfl (pM rfl) fun a hf => ?_
    refine stP hf rfl rfl rfl (pLenS Try.underlying61 rfl) fun a hf => ?_
    refine stP hf rfl rfl rfl (pLt rfl rfl) fun a hf => ?_
    refine cNil ?_
    refine h10 _ _ ?_
    refine cCond (b := (decide (i_1 < ((x.length : Nat) : Int)))) hf rfl (fun hb => ?_) (fun hb => ?_)
    · replace hF := condT hb hF
      clear hb
      refine wp_skip ?_
      refine h9 _ _ ?_
      refine wp_seq_k fun K11 h11 => ?_
      refine wp_block ?_
      refine cReg ?_
      refine stP hf rfl rfl rfl (pM rfl) fun a hf => ?_
      refine stP hf rfl rfl rfl (pM rfl) fun a hf => ?_
      refine stP hf rfl rfl rfl (pM rfl) fun a hf => ?_
      obtain ⟨e_2, he_2, hF⟩ := bnd_some hF
      obtain ⟨b_2, o_1, qa_1, qp_1⟩ := h_x.atm he_2
      refine stP hf rfl rfl rfl (pIA Try.underlying61 sz_3 rfl rfl qa_1) fun a hf => ?_
      refine stE hf hc rfl rfl rfl (eLd1 sc_3 rfl (cell_pc (j := 0) qp_1 rfl)) fun a w hf hc => ?_
      refine stP hf rfl rfl rfl (pMin2 rfl rfl) fun a hf => ?_
      refine stP hf rfl rfl rfl (pA rfl) fun a hf => ?_
      refine cNil ?_
      refine h11 _ _ ?_
      refine cReg ?_
      refine stP hf rfl rfl rfl (pM rfl) fun a hf => ?_
      refine stP hf rfl rfl rfl (pAdd rfl rfl) fun a hf => ?_
      refine stP hf rfl rfl rfl (pA rfl) fun a hf => ?_
      refine cNil ?_
      exact hK7 (min m e_2, W (i_1 + 1)) _ _ (Option.some.inj hF).symm ⟨hf.keep ⟨rfl, rfl, rfl, trivial⟩, hc⟩
    · replace hF := condF hb hF
      clear hb
      refine wp_exit ?_
      refine xThen ?_
      refine xThen ?_
      have he := Option.some.inj hF
      rw [← he] at hfin7
      refine cHit ?_
      exact hr7 _ _ _ hfin7 ⟨hf.keep ⟨rfl, rfl, rfl, trivial⟩, hc⟩

def shift_greatest_b4 (N : Nat) (l : List Int) (first_0 : Int) (x : Int) : Option (Step (Int × Int) (Int)) :=
  cond (decide (x < ((l.length : Nat) : Int)))
  (Option.bind (getI l x) fun e_1 =>
  some (.cont (max first_0 e_1, W (x + 1))))
  (some (.brk (first_0, x)))
def shift_greatest (N : Nat) (first : Int) (l : List Int) : Option (Int) :=
  Option.bind (loopO (fun s4 => shift_greatest_b4 N l s4.1 s4.2) N (first, 0)) fun x4 =>
  exK x4 (fun s4 => some s4.1) some
theorem shift_greatest_ok {N : Nat} {G : Pers} {Lf : List Ent} {w : World} (first : Int) (l : List Int) {l_p : Option Addr} {l_c : Nat} (h_l : Rd G 1 l_p l_c (l.map encI_i64)) (hc : Ctx G (Lf) w) {res : Int} (hF : shift_greatest N first l = some res) : Calls Try.prog 114 #[.int .i64 first, .slice l_p l.length l_c] w (fun e w => e = .returned (.int .i64 res) ∧ Ctx G (Lf) w) := by
  unfold shift_greatest at hF
  refine fnIn (args := [.int .i64 first, .slice l_p l.length l_c]) Try.func114 rfl Try.ntmps114 rfl fun a hf => ?_
  refine wp_seq_k fun K1 h1 => ?_
  refine cReg ?_
  refine stP hf rfl rfl rfl (pA rfl) fun a hf => ?_
  refine cNil ?_
  refine h1 _ _ ?_
  refine wp_seq_k fun K2 h2 => ?_
  refine wp_seq_k fun K3 h3 => ?_
  refine cReg ?_
  refine stP hf rfl rfl rfl (pM rfl) fun a hf => ?_
  refine stP hf rfl rfl rfl (pLenS Try.underlying61 rfl) fun a hf => ?_
  refine stP hf rfl rfl rfl (pM rfl) fun a hf => ?_
  refine cNil ?_
  refine h3 _ _ ?_
  refine wp_block ?_
  obtain ⟨x4, hx4, hF⟩ := bnd_some hF
  let S4 : (Int × Int) → Act → World → Prop := (fun (zz : Int × Int) a w => Has 18 a [(0, .int .i64 zz.1), (7, .slice l_p l.length l_c), (8, .int .i64 ((l.length : Nat) : Int)), (9, .int .i64 zz.2)] ∧ Ctx G (Lf) w)
  have hr4 : ∀ (zz : Int × Int) a w, x4 = .go zz → S4 zz a w → K2 a w := by
    rintro ⟨first_0, x⟩ a w rfl ⟨hf, hc⟩
    replace hF := exK_go hF
    refine h2 _ _ ?_
    refine wp_seq_k fun K5 h5 => ?_
    refine cReg ?_
    refine stP hf rfl rfl rfl (pM rfl) fun a hf => ?_
    refine stP hf rfl rfl rfl (pA rfl) fun a hf => ?_
    refine cNil ?_
    refine h5 _ _ ?_
    refine wp_ret ?_
    obtain rfl := Option.some.inj hF
    exact fnOut1 (by simp) rfl Try.results114 hf hc (show look _ 4 = _ from rfl) ⟨rfl, hc⟩
  have ho4 : ∀ r, x4 = .out r → r = res := by
    rintro r rfl
    exact Option.some.inj hF
  refine cLoop N (loopW (S := S4) (x := x4) ?_ N (first, 0) _ _ ⟨hf.keep ⟨rfl, rfl, rfl, rfl, trivial⟩, hc⟩ hx4)
  clear hF hf hc
  rintro ⟨first_0, x⟩ st4 a w KB4 ⟨hf, hc⟩ hF hfin4 hK4
  unfold shift_greatest_b4 at hF
  refine wp_seq_k fun K6 h6 => ?_
  refine cReg ?_
  refine stP hf rfl rfl rfl (pLt rfl rfl) fun a hf => ?_
  refine cNil ?_
  refine h6 _ _ ?_
  refine wp_seq_k fun K7 h7 => ?_
  refine cCond (b := (decide (x < ((l.length : Nat) : Int)))) hf rfl (fun hb => ?_) (fun hb => ?_)
  · replace hF := condT hb hF
    clear hb
    refine wp_skip ?_
    refine h7 _ _ ?_
    refine wp_seq_k fun K8 h8 => ?_
    refine wp_block ?_
    refine wp_seq_k fun K9 h9 => ?_
    refine cReg ?_
    obtain ⟨e_1, he_1, hF⟩ := bnd_some hF
    obtain ⟨b_1, o, qa, qp⟩ := h_l.atm he_1
    refine stP hf rfl rfl rfl (pIA Try.underlying61 sz_3 rfl rfl qa) fun a hf => ?_
    refine stE hf hc rfl rfl rfl (eLd1 sc_3 rfl (cell_pc (j := 0) qp rfl)) fun a w hf hc => ?_
    refine stP hf rfl rfl rfl (pA rfl) fun a hf => ?_
    refine cNil ?_
    refine h9 _ _ ?_
    refine cReg ?_
    refine stP hf rfl rfl rfl (pM rfl) fun a hf => ?_
    refine stP hf rfl rfl rfl (pM rfl) fun a hf => ?_
    refine stP hf rfl rfl rfl (pMax2 rfl rfl) fun a hf => ?_
    refine stP hf rfl rfl rfl (pA rfl) fun a hf => ?_
    refine cNil ?_
    refine h8 _ _ ?_
    refine cReg ?_
    refine stP hf rfl rfl rfl (pAdd rfl rfl) fun a hf => ?_
    refine stP hf rfl rfl rfl (pM rfl) fun a hf => ?_
    refine cNil ?_
    exact hK4 (max first_0 e_1, W (x + 1)) _ _ (Option.some.inj hF).symm ⟨hf.keep ⟨rfl, rfl, rfl, rfl, trivial⟩, hc⟩
  · replace hF := condF hb hF
    clear hb
    refine wp_exit ?_
    refine xThen ?_
    refine xThen ?_
    have he := Option.some.inj hF
    rw [← he] at hfin4
    refine cHit ?_
    exact hr4 _ _ _ hfin4 ⟨hf.keep ⟨rfl, rfl, rfl, rfl, trivial⟩, hc⟩

def shift_apart (N : Nat) (a_ : Int) (b_ : Int) : Option (Int) :=
  Option.bind (shift_greatest N (W (a_ - b_)) ([W (b_ - a_)] : List Int)) fun r =>
  some r
theorem shift_apart_ok {N : Nat} {G : Pers} {Lf : List Ent} {w : World} (a_ : Int) (b_ : Int)   (hc : Ctx G (Lf) w) {res : Int} (hF : shift_apart N a_ b_ = some res) : Calls Try.prog 83 #[.int .i64 a_, .int .i64 b_] w (fun e w => e = .returned (.int .i64 res) ∧ Ctx G (Lf) w) := by
  unfold shift_apart at hF
  refine fnIn (args := [.int .i64 a_, .int .i64 b_]) Try.func83 rfl Try.ntmps83 rfl fun a hf => ?_
  refine wp_seq_k fun K1 h1 => ?_
  refine cReg ?_
  refine stP hf rfl rfl rfl (pA rfl) fun a hf => ?_
  refine cNil ?_
  refine h1 _ _ ?_
  refine wp_seq_k fun K2 h2 => ?_
  refine cReg ?_
  refine stP hf rfl rfl rfl (pM rfl) fun a hf => ?_
  refine stP hf rfl rfl rfl (pM rfl) fun a hf => ?_
  refine stP hf rfl rfl rfl (pSub rfl rfl) fun a hf => ?_
  refine stP hf rfl rfl rfl (pM rfl) fun a hf => ?_
  refine stP hf rfl rfl rfl (pM rfl) fun a hf => ?_
  refine stP hf rfl rfl rfl (pSub rfl rfl) fun a hf => ?_
  refine stBS (rows := ([W (b_ - a_)] : List Int).map encI_i64) (vs := [(0, .int .i64 (W (b_ - a_)))]) hf hc rfl rfl sl_61 rfl ⟨rfl, rfl, rfl, trivial⟩ rfl rfl fun b_1 a w hf hc => ?_
  obtain ⟨r, hr, hF⟩ := bnd_some hF
  refine stE hf hc rfl rfl rfl (eC (v := .int .i64 r) (vs := [.int .i64 (W (a_ - b_)), .slice (some ⟨b_1, 0, none⟩) 1 1]) (caps := []) en_114 rfl rfl rfl rfl (fun w hc => by obtain ⟨G1, hle1, hrd1, hc, hth1⟩ := lend hc k0; exact (shift_greatest_ok (W (a_ - b_)) ([W (b_ - a_)] : List Int) hrd1 hc hr).mono fun e w h => ⟨h.1, ((hth1 _ _ h.2).unpick k0)⟩)) fun a w hf hc => ?_
  refine stP hf rfl rfl rfl (pA rfl) fun a hf => ?_
  refine cNil ?_
  refine h2 _ _ ?_
  refine wp_ret ?_
  obtain rfl := Option.some.inj hF
  replace hc := hc.drop k0
  exact fnOut1 (by simp) rfl Try.results83 hf hc (show look _ 4 = _ from rfl) ⟨rfl, hc⟩

def shift_Least_j27 (N : Nat) (e_2 : Nat → Int) (x_3 : Int) (x_4 : List Int) (xv : Int) (xv_1 : Int) (step : Int) : Option (Rs (Int × (List Int))) :=
  Option.bind (Option.bind (inR xv 601) fun un =>
  cond ((e_2 xv.toNat) != 1073741824)
  (some ((W (step + (e_2 xv.toNat))) == x_3))
  (some false)) fun rg =>
  cond rg
  (Option.bind (room ((x_4 ++ [xv_1])).length) fun un_1 =>
  Option.bind (inR xv 601) fun un_2 =>
  some (.brk ((e_2 xv.toNat), (x_4 ++ [xv_1]))))
  (some (.go (x_3, x_4)))
def shift_Least_r23 (N : Nat) (x : Int) (e_2 : Nat → Int) (x_3 : Int) (x_4 : List Int) (xv : Int) (xv_1 : Int) : Option (Rs (Int × (List Int))) :=
  cond (decide (0 < x))
  (Option.bind (getI x_4 (W (x - 1))) fun e_3 =>
  Option.bind (shift_apart N xv_1 e_3) fun r_4 =>
  shift_Least_j27 N e_2 x_3 x_4 xv xv_1 r_4)
  (shift_Least_j27 N e_2 x_3 x_4 xv xv_1 0)
def shift_Least_b16 (N : Nat) (r_2 : (List (Nat → Int))) (x : Int) (x_1 : Int) (x_2 : List Int) : Option (Step (Int × Int × (List Int)) ((List Int) × Int × Int)) :=
  cond (decide (x < ((r_2.length : Nat) : Int)))
  (Option.bind (getI r_2 x) fun e_2 =>
  Option.bind (shift_shifts_1 N (rY (fun (zz : Int × (List Int)) (ix_ : (Int × Int)) => shift_Least_r23 N x e_2 zz.1 zz.2 ix_.1 ix_.2)) (.go (x_1, x_2))) fun x23 =>
  rsK x23 (fun zz23 => some (.cont (W (x + 1), zz23.1, zz23.2))) (fun zz23 => none))
  (some (.brk (x, x_1, x_2)))
def shift_Least (N : Nat) (r : shift_Record) : Option ((List Int) × Int × Int) :=
  Option.bind (shift_opened N r) (sumK (fun r_0 => cond (r_0 != 0)
  (some (([] : List Int), 0, r_0))
  (none))
  (fun r_1 => cond (r_1.2 != 0)
  (some (([] : List Int), 0, r_1.2))
  (Option.bind (shift_behind N r_1.1) fun r_2 =>
  Option.bind (getI r_2 0) fun e_1 =>
  Option.bind (subO (aL 601 e_1) 0 ((601 : Nat) : Int)) fun sub =>
  Option.bind (slices_Min_Lint_int N sub) fun r_3 =>
  Option.bind (loopO (fun s16 => shift_Least_b16 N r_2 s16.1 s16.2.1 s16.2.2) N (0, r_3, ([] : List Int))) fun x16 =>
  exK x16 (fun s16 => some (s16.2.2, r_3, 0)) some)))
theorem shift_Least_ok {N : Nat} {G : Pers} {Lf : List Ent} {w : World} (r : shift_Record) {r_Rating_p : Option Addr} {r_Rating_c : Nat} {r_Gaugings_p : Option Addr} {r_Gaugings_c : Nat} (h_r_Rating : Rd G 2 r_Rating_p r_Rating_c (r.Rating.map enc_shift_Mark)) (h_r_Gaugings : Rd G 4 r_Gaugings_p r_Gaugings_c (r.Gaugings.map enc_shift_Gauging)) (hc : Ctx G (Lf) w) {res : (List Int) × Int × Int} (hF : shift_Least N r = some res) : Calls Try.prog 33 #[.agg #[.slice r_Rating_p r.Rating.length r_Rating_c, .slice r_Gaugings_p r.Gaugings.length r_Gaugings_c]] w (fun e w => ∃ (p'1 : Option Addr) (c'1 : Nat), e = .returned (.tuple #[.slice p'1 res.1.length c'1, .int .i64 res.2.1, .int .i64 res.2.2]) ∧ Ctx G (.row p'1 c'1 (res.1.map encI_i64) 3 1 :: Lf) w) := by
  unfold shift_Least at hF
  refine fnInM (args := [.agg #[.slice r_Rating_p r.Rating.length r_Rating_c, .slice r_Gaugings_p r.Gaugings.length r_Gaugings_c]]) Try.func33 rfl Try.ntmps33 rfl fun a hf => ?_
  refine wp_seq_k fun K1 h1 => ?_
  refine cReg ?_
  refine stBx (cs := [.slice r_Rating_p r.Rating.length r_Rating_c, .slice r_Gaugings_p r.Gaugings.length r_Gaugings_c]) hf hc rfl rfl rfl rfl fun b_1 a w hf hc => ?_
  refine stP hf rfl rfl rfl (pA rfl) fun a hf => ?_
  refine stP hf rfl rfl rfl (pA rfl) fun a hf => ?_
  refine stP hf rfl rfl rfl (pA rfl) fun a hf => ?_
  refine cNil ?_
  refine h1 _ _ ?_
  refine wp_seq_k fun K2 h2 => ?_
  refine cReg ?_
  refine stE hf hc rfl rfl rfl (eLdN (vs := [.slice r_Rating_p r.Rating.length r_Rating_c, .slice r_Gaugings_p r.Gaugings.length r_Gaugings_c]) ag_25 rfl rfl (cells_box (n := 2) m0 rfl)) fun a w hf hc => ?_
  obtain ⟨r_0, hr_0, hF⟩ := bnd_some hF
  cases r_0 with
  | inl r_0 =>
    replace hF := sumKl hF
    refine stC (vs := [.agg #[.slice r_Rating_p r.Rating.length r_Rating_c, .slice r_Gaugings_p r.Gaugings.length r_Gaugings_c]]) (caps := []) hf rfl rfl rfl en_73 rfl rfl rfl rfl (shift_opened_ok r h_r_Rating h_r_Gaugings hc hr_0) ?_
    rintro _ w ⟨rfl, hc⟩
    refine ⟨_, rfl, fun a hf => ?_⟩
    refine stP hf rfl rfl rfl (pM rfl) fun a hf => ?_
    refine stP hf rfl rfl rfl (pX rfl rfl) fun a hf => ?_
    refine stP hf rfl rfl rfl (pX rfl rfl) fun a hf => ?_
    refine stP hf rfl rfl rfl (pA rfl) fun a hf => ?_
    refine stP hf rfl rfl rfl (pA rfl) fun a hf => ?_
    refine cNil ?_
    refine h2 _ _ ?_
    refine wp_seq_k fun K3 h3 => ?_
    refine wp_seq_k fun K4 h4 => ?_
    refine cReg ?_
    refine stP hf rfl rfl rfl (pM rfl) fun a hf => ?_
    refine stP hf rfl rfl rfl (pNe rfl rfl) fun a hf => ?_
    refine cNil ?_
    refine h4 _ _ ?_
    refine cCond (b := (r_0 != 0)) hf rfl (fun hb => ?_) (fun hb => ?_)
    · replace hF := condT hb hF
      clear hb
      refine wp_seq_k fun K5 h5 => ?_
      refine cReg ?_
      refine stP hf rfl rfl rfl (pM rfl) fun a hf => ?_
      refine stP hf rfl rfl rfl (pA rfl) fun a hf => ?_
      refine stP hf rfl rfl rfl (pA rfl) fun a hf => ?_
      refine stP hf rfl rfl rfl (pA rfl) fun a hf => ?_
      refine cNil ?_
      refine h5 _ _ ?_
      refine wp_ret ?_
      refine xThenR ?_
      obtain rfl := Option.some.inj hF
      replace hc := hc.nilRow 3 1
      replace hc := hc.drop k1
      refine outM hf ?_
      exact outM3 Try.results33 hf hc (show look _ 2 = _ from rfl) (show look _ 3 = _ from rfl) (show look _ 4 = _ from rfl) ⟨none, 0, rfl, hc⟩
    · replace hF := condF hb hF
      clear hb
      refine wp_skip ?_
      refine h3 _ _ ?_
      refine wp_seq_k fun K6 h6 => ?_
      exact noneO hF
  | inr r_1 =>
    replace hF := sumKr hF
    have hr_1 := hr_0
    refine stC (vs := [.agg #[.slice r_Rating_p r.Rating.length r_Rating_c, .slice r_Gaugings_p r.Gaugings.length r_Gaugings_c]]) (caps := []) hf rfl rfl rfl en_73 rfl rfl rfl rfl (shift_opened_ok r h_r_Rating h_r_Gaugings hc hr_1) ?_
    rintro _ w ⟨b_2, p_1, c_1, rfl, hc⟩
    refine ⟨_, rfl, fun a hf => ?_⟩
    refine stP hf rfl rfl rfl (pM rfl) fun a hf => ?_
    refine stP hf rfl rfl rfl (pX rfl rfl) fun a hf => ?_
    refine stP hf rfl rfl rfl (pX rfl rfl) fun a hf => ?_
    refine stP hf rfl rfl rfl (pA rfl) fun a hf => ?_
    refine stP hf rfl rfl rfl (pA rfl) fun a hf => ?_
    refine cNil ?_
    refine h2 _ _ ?_
    refine wp_seq_k fun K7 h7 => ?_
    refine wp_seq_k fun K8 h8 => ?_
    refine cReg ?_
    refine stP hf rfl rfl rfl (pM rfl) fun a hf => ?_
    refine stP hf rfl rfl rfl (pNe rfl rfl) fun a hf => ?_
    refine cNil ?_
    refine h8 _ _ ?_
    refine cCond (b := (r_1.2 != 0)) hf rfl (fun hb => ?_) (fun hb => ?_)
    · replace hF := condT hb hF
      clear hb
      refine wp_seq_k fun K9 h9 => ?_
      refine cReg ?_
      refine stP hf rfl rfl rfl (pM rfl) fun a hf => ?_
      refine stP hf rfl rfl rfl (pA rfl) fun a hf => ?_
      refine stP hf rfl rfl rfl (pA rfl) fun a hf => ?_
      refine stP hf rfl rfl rfl (pA rfl) fun a hf => ?_
      refine cNil ?_
      refine h9 _ _ ?_
      refine wp_ret ?_
      refine xThenR ?_
      obtain rfl := Option.some.inj hF
      replace hc := hc.nilRow 3 1
      replace hc := hc.drop k3
      replace hc := hc.drop k2
      replace hc := hc.drop k1
      refine outM hf ?_
      exact outM3 Try.results33 hf hc (show look _ 2 = _ from rfl) (show look _ 3 = _ from rfl) (show look _ 4 = _ from rfl) ⟨none, 0, rfl, hc⟩
    · replace hF := condF hb hF
      clear hb
      refine wp_skip ?_
      refine h7 _ _ ?_
      refine wp_seq_k fun K10 h10 => ?_
      refine cReg ?_
      refine stP hf rfl rfl rfl (pM rfl) fun a hf => ?_
      refine stP hf rfl rfl rfl (pNC rfl) fun a hf => ?_
      refine stP hf rfl rfl rfl (pFA fa_140_1 rfl) fun a hf => ?_
      refine stE hf hc rfl rfl rfl (eLd1 sc_44 rfl (cell_box m1 rfl)) fun a w hf hc => ?_
      obtain ⟨r_2, hr_2, hF⟩ := bnd_some hF
      obtain ⟨G1, hle1, hrd1, hc, hth1⟩ := lend hc k0
      refine stC (vs := [.slice p_1 r_1.1.length c_1]) (caps := []) hf rfl rfl rfl en_80 rfl rfl rfl rfl (shift_behind_ok r_1.1 hrd1 hc hr_2) ?_
      rintro _ w ⟨p_2, c_2, rfl, hc⟩
      refine ⟨_, rfl, fun a hf => ?_⟩
      replace hc := hth1 _ _ hc
      refine stP hf rfl rfl rfl (pA rfl) fun a hf => ?_
      refine cNil ?_
      refine h10 _ _ ?_
      refine wp_seq_k fun K11 h11 => ?_
      refine cReg ?_
      refine stP hf rfl rfl rfl (pM rfl) fun a hf => ?_
      obtain ⟨e_1, he_1, hF⟩ := bnd_some hF
      obtain ⟨g, rfl, qa, qr⟩ := row_atm hc m1 he_1
      refine stP hf rfl rfl rfl (pIA Try.underlying152 sz_155 rfl rfl qa) fun a hf => ?_
      obtain ⟨sub, hsub, hF⟩ := bnd_some hF
      refine stP hf rfl rfl rfl (pSlA (xs := (aL 601 e_1)) Try.underlying155 sz_3 rfl aL_len rfl rfl hsub) fun a hf => ?_
      obtain ⟨r_3, hr_3, hF⟩ := bnd_some hF
      refine stE hf hc rfl rfl rfl (eC (v := .int .i64 r_3) (vs := [.slice (subP (some ⟨g, (0 : Int).toNat * 601, none⟩) 601 (0 : Int).toNat 1) sub.length (601 - (0 : Int).toNat)]) (caps := []) en_81 rfl rfl rfl rfl (fun w hc => by obtain ⟨G1, hle1, hrd1, hc, hth1⟩ := lend hc k1; exact (slices_Min_Lint_int_ok sub (Rd.sub (rd_elem hrd1 (by decide) (fun x => (one_encI_i64 x).1) rfl he_1) hsub) hc hr_3).mono fun e w h => ⟨h.1, ((hth1 _ _ h.2).unpick k1)⟩)) fun a w hf hc => ?_
      refine stP hf rfl rfl rfl (pA rfl) fun a hf => ?_
      refine cNil ?_
      refine h11 _ _ ?_
      refine wp_seq_k fun K12 h12 => ?_
      refine cReg ?_
      refine stP hf rfl rfl rfl (pM rfl) fun a hf => ?_
      refine stAl (cs := [.int .i64 0]) hf hc rfl rfl zr_3 rfl fun b_3 a w hf hc => ?_
      refine stSt (vs := [.int .i64 r_3]) hf hc rfl rfl rfl rfl sz_3 rfl rfl u0 fun w hc => ?_
      refine cNil ?_
      refine h12 _ _ ?_
      refine wp_seq_k fun K13 h13 => ?_
      refine cReg ?_
      refine stAl (cs := [.slice none 0 0]) hf hc rfl rfl zr_61 rfl fun b_4 a w hf hc => ?_
      refine cNil ?_
      refine h13 _ _ ?_
      refine wp_seq_k fun K14 h14 => ?_
      refine wp_seq_k fun K15 h15 => ?_
      refine cReg ?_
      refine stP hf rfl rfl rfl (pM rfl) fun a hf => ?_
      refine stP hf rfl rfl rfl (pLenS Try.underlying152 rfl) fun a hf => ?_
      refine stP hf rfl rfl rfl (pM rfl) fun a hf => ?_
      refine cNil ?_
      refine h15 _ _ ?_
      refine wp_block ?_
      obtain ⟨x16, hx16, hF⟩ := bnd_some hF
      let S16 : (Int × Int × (List Int)) → Act → World → Prop := (fun (zz : Int × Int × (List Int)) a w => ∃ (p_3 : Option Addr) (c_3 : Nat) (Ds : List Nat), Has ⟨76, markL Ds⟩ a [(8, .int .i64 r_3), (9, .pointer (some ⟨b_3, 0, none⟩)), (10, .pointer (some ⟨b_4, 0, none⟩)), (34, .slice (some ⟨g, 0, none⟩) r_2.length c_2), (35, .int .i64 ((r_2.length : Nat) : Int)), (36, .int .i64 zz.1)] ∧ Ctx G (.row p_3 c_3 (zz.2.2.map encI_i64) 3 1 :: .box b_4 [.slice p_3 zz.2.2.length c_3] 61 :: .box b_3 [.int .i64 zz.2.1] 3 :: .row (some ⟨g, 0, none⟩) c_2 (r_2.map encA_155) 155 601 :: (raws Ds ++ Lf)) w)
      have hr16 : ∀ (zz : Int × Int × (List Int)) a w, x16 = .go zz → S16 zz a w → K14 a w := by
        rintro ⟨x, x_1, x_2⟩ a w rfl ⟨p_3, c_3, Ds, hf, hc⟩
        replace hF := exK_go hF
        refine h14 _ _ ?_
        refine wp_seq_k fun K17 h17 => ?_
        refine cReg ?_
        refine stE hf hc rfl rfl rfl (eLd1 sc_61 rfl (cell_box m1 rfl)) fun a w hf hc => ?_
        refine stP hf rfl rfl rfl (pM rfl) fun a hf => ?_
        refine stP hf rfl rfl rfl (pA rfl) fun a hf => ?_
        refine stP hf rfl rfl rfl (pA rfl) fun a hf => ?_
        refine stP hf rfl rfl rfl (pA rfl) fun a hf => ?_
        refine cNil ?_
        refine h17 _ _ ?_
        refine wp_ret ?_
        obtain rfl := Option.some.inj hF
        replace hc := hc.drop k3
        replace hc := hc.drop k2
        replace hc := hc.drop k1
        refine outM hf ?_
        refine outML [.row p_3 c_3 (x_2.map encI_i64) 3 1] Ds hc fun w hc => ?_
        replace hc : Ctx G (.row p_3 c_3 (x_2.map encI_i64) 3 1 :: Lf) w := hc
        exact outM3 Try.results33 hf hc (show look _ 2 = _ from rfl) (show look _ 3 = _ from rfl) (show look _ 4 = _ from rfl) ⟨p_3, c_3, rfl, hc⟩
      have ho16 : ∀ r, x16 = .out r → r = res := by
        rintro r rfl
        exact Option.some.inj hF
      replace hf := markZ hf
      replace hc : Ctx G (.box b_4 [.slice none 0 0] 61 :: .box b_3 [.int .i64 r_3] 3 :: .row p_1 c_1 (r_1.1.map enc_api_Span) 50 2 :: .row (some ⟨g, 0, none⟩) c_2 (r_2.map encA_155) 155 601 :: .box b_2 [.slice r_Rating_p r.Rating.length r_Rating_c, .slice r_Gaugings_p r.Gaugings.length r_Gaugings_c, .slice p_1 r_1.1.length c_1] 140 :: .box b_1 [.slice r_Rating_p r.Rating.length r_Rating_c, .slice r_Gaugings_p r.Gaugings.length r_Gaugings_c] 25 :: (raws [] ++ Lf)) w := hc
      replace hc := hc.nilRow 3 1
      replace hc := hc.drop k6
      replace hc := hc.drop k5
      replace hc := hc.drop k3
      refine cLoop N (loopW (S := S16) (x := x16) ?_ N (0, r_3, ([] : List Int)) _ _ ⟨none, 0, [], hf.keep ⟨rfl, rfl, rfl, rfl, rfl, rfl, trivial⟩, hc⟩ hx16)
      clear hF hf hc
      rintro ⟨x, x_1, x_2⟩ st16 a w KB16 ⟨p_3, c_3, Ds, hf, hc⟩ hF hfin16 hK16
      unfold shift_Least_b16 at hF
      refine wp_seq_k fun K18 h18 => ?_
      refine cReg ?_
      refine stP hf rfl rfl rfl (pLt rfl rfl) fun a hf => ?_
      refine cNil ?_
      refine h18 _ _ ?_
      refine wp_seq_k fun K19 h19 => ?_
      refine cCond (b := (decide (x < ((r_2.length : Nat) : Int)))) hf rfl (fun hb => ?_) (fun hb => ?_)
      · replace hF := condT hb hF
        clear hb
        refine wp_skip ?_
        refine h19 _ _ ?_
        refine wp_seq_k fun K20 h20 => ?_
        refine wp_block ?_
        refine wp_seq_k fun K21 h21 => ?_
        refine cReg ?_
        refine stP hf rfl rfl rfl (pM rfl) fun a hf => ?_
        obtain ⟨e_2, he_2, hF⟩ := bnd_some hF
        obtain ⟨qa_1, qr_1⟩ := row_atk hc m3 he_2
        refine stP hf rfl rfl rfl (pIA Try.underlying152 sz_155 rfl rfl qa_1) fun a hf => ?_
        refine stE hf hc rfl rfl rfl (eLdN (vs := (catc [] 601 encI_i64 e_2 [])) ag_155 rfl (one_encA_155 _).1 (cells_rw (sz := 601) (i := x.toNat) m3 qr_1 (n := 601) (o' := 0) (takeW (one_encA_155 _).1))) fun a w hf hc => ?_
        refine stAl (cs := [.int .i64 0]) hf hc rfl rfl zr_3 rfl fun b_5 a w hf hc => ?_
        refine stAl (cs := (catc [] 601 encI_i64 (fun _ => 0) [])) hf hc rfl rfl zr_155 rfl fun b_6 a w hf hc => ?_
        refine stSt (vs := [.int .i64 x]) hf hc rfl rfl rfl rfl sz_3 rfl rfl u1 fun w hc => ?_
        refine stStA (enc := encA_155) (f := (fun _ => 0)) (z := e_2) hf hc rfl rfl rfl one_encA_155 sz_155 u0 fun w hc => ?_
        refine cNil ?_
        refine h21 _ _ ?_
        refine wp_seq_k fun K22 h22 => ?_
        refine cReg ?_
        refine stE hf hc rfl rfl rfl (eC (v := .func (.func 113) #[] #[]) (vs := []) (caps := []) en_82 rfl rfl rfl rfl (fun w hc => shift_shifts_ok hc rfl)) fun a w hf hc => ?_
        refine cNil ?_
        refine h22 _ _ ?_
        obtain ⟨x23, hx23, hF⟩ := bnd_some hF
        refine cRange (C := []) (C2 := []) (L0 := [.box b_6 (catc [] 601 encI_i64 e_2 []) 155, .box b_5 [.int .i64 x] 3, .row p_3 c_3 (x_2.map encI_i64) 3 1, .box b_4 [.slice p_3 x_2.length c_3] 61, .box b_3 [.int .i64 x_1] 3, .row (some ⟨g, 0, none⟩) c_2 (r_2.map encA_155) 155 601]) (Lf := (raws Ds ++ Lf)) (encs := fun x : (Int × Int) => [.int .i64 x.1, .int .i64 x.2]) (fun (zz : Int × (List Int)) L => ∃ (p_4 : Option Addr) (c_4 : Nat), L = [.box b_6 (catc [] 601 encI_i64 e_2 []) 155, .box b_5 [.int .i64 x] 3, .row p_4 c_4 (zz.2.map encI_i64) 3 1, .box b_4 [.slice p_4 zz.2.length c_4] 61, .box b_3 [.int .i64 zz.1] 3, .row (some ⟨g, 0, none⟩) c_2 (r_2.map encA_155) 155 601]) (fun (zz : Int × (List Int)) (ix_ : (Int × Int)) => shift_Least_r23 N x e_2 zz.1 zz.2 ix_.1 ix_.2) (x_1, x_2) x23 hf hc rfl en_113 (fun _ => rfl) rfl ⟨p_3, c_3, rfl⟩ ?_ ?_ ?_ ?_
        · intro lq mq J L Lx w hy hJ hc
          exact shift_shifts_1_ok  J _ hy _ hJ hc hx23
        · clear hF hf hc
          rintro lq mq ⟨x_3, x_4⟩ ⟨xv, xv_1⟩ oq _ Lr Lb a w hK0 ⟨p_4, c_4, rfl⟩ hF hf hc hK
          replace hf : Has 76 a [(8, .int .i64 r_3), (9, .pointer (some ⟨b_3, 0, none⟩)), (10, .pointer (some ⟨b_4, 0, none⟩)), (11, .pointer (some ⟨b_5, 0, none⟩)), (12, .pointer (some ⟨b_6, 0, none⟩)), (34, .slice (some ⟨g, 0, none⟩) r_2.length c_2), (35, .int .i64 ((r_2.length : Nat) : Int)), (36, .int .i64 x), (42, .int .i64 xv), (43, .int .i64 xv_1)] := hf.keep ⟨rfl, rfl, rfl, rfl, rfl, rfl, rfl, rfl, rfl, rfl, trivial⟩
          replace hc : Ctx G (.box b_6 (catc [] 601 encI_i64 e_2 []) 155 :: .box b_5 [.int .i64 x] 3 :: .row p_4 c_4 (x_4.map encI_i64) 3 1 :: .box b_4 [.slice p_4 x_4.length c_4] 61 :: .box b_3 [.int .i64 x_3] 3 :: .row (some ⟨g, 0, none⟩) c_2 (r_2.map encA_155) 155 601 :: Lr) w := hc
          replace hF : shift_Least_r23 N x e_2 x_3 x_4 xv xv_1 = some oq := hF
          unfold shift_Least_r23 at hF
          refine rSeq fun K24 h24 => ?_
          refine rReg (fun _ _ h => h) rfl ?_
          refine stP hf rfl rfl rfl (pA rfl) fun a hf => ?_
          refine cNil ?_
          refine h24 _ _ ?_
          refine rReg (fun _ _ h => h) rfl ?_
          refine stP hf rfl rfl rfl (pA rfl) fun a hf => ?_
          refine cNil ?_
          refine hK _ _ [.box b_6 (catc [] 601 encI_i64 e_2 []) 155, .box b_5 [.int .i64 x] 3, .row p_4 c_4 (x_4.map encI_i64) 3 1, .box b_4 [.slice p_4 x_4.length c_4] 61, .box b_3 [.int .i64 x_3] 3, .row (some ⟨g, 0, none⟩) c_2 (r_2.map encA_155) 155 601] hc fun w hc => ?_
          replace hc : Ctx G (.box b_6 (catc [] 601 encI_i64 e_2 []) 155 :: .box b_5 [.int .i64 x] 3 :: .row p_4 c_4 (x_4.map encI_i64) 3 1 :: .box b_4 [.slice p_4 x_4.length c_4] 61 :: .box b_3 [.int .i64 x_3] 3 :: .row (some ⟨g, 0, none⟩) c_2 (r_2.map encA_155) 155 601 :: Lb) w := hc
          refine rThenK fun K25 h25 => ?_
          refine rBlock ?_
          refine rSeq fun K26 h26 => ?_
          refine rReg (fun _ _ h => h) rfl ?_
          refine stP hf rfl rfl rfl (pA rfl) fun a hf => ?_
          refine cNil ?_
          refine h26 _ _ ?_
          refine rSeq fun K27 h27 => ?_
          have hj27 : ∀ (step : Int) (p_5 : Option Addr) (c_5 : Nat) a w, Has 76 a [(8, .int .i64 r_3), (9, .pointer (some ⟨b_3, 0, none⟩)), (10, .pointer (some ⟨b_4, 0, none⟩)), (11, .pointer (some ⟨b_5, 0, none⟩)), (12, .pointer (some ⟨b_6, 0, none⟩)), (13, .int .i64 xv), (14, .int .i64 xv_1), (15, .int .i64 step), (34, .slice (some ⟨g, 0, none⟩) r_2.length c_2), (35, .int .i64 ((r_2.length : Nat) : Int)), (36, .int .i64 x)] → Ctx G (.box b_6 (catc [] 601 encI_i64 e_2 []) 155 :: .box b_5 [.int .i64 x] 3 :: .row p_5 c_5 (x_4.map encI_i64) 3 1 :: .box b_4 [.slice p_5 x_4.length c_5] 61 :: .box b_3 [.int .i64 x_3] 3 :: .row (some ⟨g, 0, none⟩) c_2 (r_2.map encA_155) 155 601 :: Lb) w → shift_Least_j27 N e_2 x_3 x_4 xv xv_1 step = some oq → K27 a w := by
            repeat (clear hF)
            repeat (clear hc)
            repeat (clear hf)
            intro step p_5 c_5 a w hf hc hF
            unfold shift_Least_j27 at hF
            refine h27 _ _ ?_
            refine rSeq fun K28 h28 => ?_
            obtain ⟨rg, hrg, hF⟩ := bnd_some hF
            refine rCut (fun a w => Has 76 a [(8, .int .i64 r_3), (9, .pointer (some ⟨b_3, 0, none⟩)), (10, .pointer (some ⟨b_4, 0, none⟩)), (11, .pointer (some ⟨b_5, 0, none⟩)), (12, .pointer (some ⟨b_6, 0, none⟩)), (13, .int .i64 xv), (14, .int .i64 xv_1), (34, .slice (some ⟨g, 0, none⟩) r_2.length c_2), (35, .int .i64 ((r_2.length : Nat) : Int)), (36, .int .i64 x), (65, .bool rg)] ∧ Ctx G (.box b_6 (catc [] 601 encI_i64 e_2 []) 155 :: .box b_5 [.int .i64 x] 3 :: .row p_5 c_5 (x_4.map encI_i64) 3 1 :: .box b_4 [.slice p_5 x_4.length c_5] 61 :: .box b_3 [.int .i64 x_3] 3 :: .row (some ⟨g, 0, none⟩) c_2 (r_2.map encA_155) 155 601 :: Lb) w) ?_ ?_
            · clear hF
              have hF := hrg
              clear hrg
              obtain ⟨un, hun, hF⟩ := bnd_some hF
              cases hb : ((e_2 xv.toNat) != 1073741824)
              · replace hF := condF hb hF
                try rw [hb] at hf
                try rw [hb] at hc
                have hb1 := hb
                clear hb
                refine rRegE (fun _ _ h => h) rfl (fun θ => [⟨none, none, 8, .int .i64 r_3⟩, ⟨none, none, 9, .pointer (some ⟨b_3, 0, none⟩)⟩, ⟨none, none, 10, .pointer (some ⟨b_4, 0, none⟩)⟩, ⟨none, none, 11, .pointer (some ⟨b_5, 0, none⟩)⟩, ⟨none, none, 12, .pointer (some ⟨b_6, 0, none⟩)⟩, ⟨none, none, 13, .int .i64 xv⟩, ⟨none, none, 14, .int .i64 xv_1⟩, ⟨none, none, 15, .int .i64 step⟩, ⟨none, none, 34, .slice (some ⟨g, 0, none⟩) r_2.length c_2⟩, ⟨none, none, 35, .int .i64 ((r_2.length : Nat) : Int)⟩, ⟨none, none, 36, .int .i64 x⟩, ⟨some 0, none, 53, .int .i64 xv⟩, ⟨some 1, none, 54, .pointer (some ⟨b_6, 0 + xv.toNat * 1, none⟩)⟩, ⟨some 2, none, 55, .int .i64 (e_2 xv.toNat)⟩, ⟨some 3, none, 56, .bool false⟩, ⟨some 4, none, 57, .bool false⟩, ⟨some 5, none, 58, undef⟩, ⟨some 6, none, 59, undef⟩, ⟨some 7, none, 60, undef⟩, ⟨some 8, none, 61, undef⟩, ⟨some 9, none, 62, undef⟩, ⟨some 10, none, 63, undef⟩, ⟨some 11, none, 64, undef⟩, ⟨some 12, none, 65, .bool false⟩]) (fun E θ => .box b_6 (catc [] 601 encI_i64 e_2 []) 155 :: .box b_5 [.int .i64 x] 3 :: .row p_5 c_5 (x_4.map encI_i64) 3 1 :: .box b_4 [.slice p_5 x_4.length c_5] 61 :: .box b_3 [.int .i64 x_3] 3 :: .row (some ⟨g, 0, none⟩) c_2 (r_2.map encA_155) 155 601 :: Lb) [] (fun a w => Has 76 a [(8, .int .i64 r_3), (9, .pointer (some ⟨b_3, 0, none⟩)), (10, .pointer (some ⟨b_4, 0, none⟩)), (11, .pointer (some ⟨b_5, 0, none⟩)), (12, .pointer (some ⟨b_6, 0, none⟩)), (13, .int .i64 xv), (14, .int .i64 xv_1), (34, .slice (some ⟨g, 0, none⟩) r_2.length c_2), (35, .int .i64 ((r_2.length : Nat) : Int)), (36, .int .i64 x), (58, undef), (59, undef), (60, undef), (61, undef), (62, undef), (63, undef), (64, undef), (65, .bool false)] ∧ Ctx G (.box b_6 (catc [] 601 encI_i64 e_2 []) 155 :: .box b_5 [.int .i64 x] 3 :: .row p_5 c_5 (x_4.map encI_i64) 3 1 :: .box b_4 [.slice p_5 x_4.length c_5] 61 :: .box b_3 [.int .i64 x_3] 3 :: .row (some ⟨g, 0, none⟩) c_2 (r_2.map encA_155) 155 601 :: Lb) w) follows_mx (by kernel_rfl) (by kernel_rfl) (HasE.of hf ⟨rfl, rfl, rfl, rfl, rfl, rfl, rfl, rfl, rfl, rfl, rfl, trivial, trivial, trivial, trivial, trivial, trivial, trivial, trivial, trivial, trivial, trivial, trivial, trivial, trivial⟩) hc ⟨?_, ?_, ?_, ?_, ?_, ?_, ?_, ?_, ?_, ?_, ?_, ?_, ?_, trivial⟩ ?_ ?_
                · intro E θ a w hD hi hp he hc
                  have hf := he.h0
                  replace hf := hf.more he 5 rfl onT
                  refine stP hf rfl rfl rfl (pM rfl) fun a hf => ?_
                  refine cNil ?_
                  refine xThenN ?_
                  intro ds u hau
                  refine ⟨θ, he.put0 hi hau hf rfl 11 rfl rfl, ?_⟩
                  exact hc
                · intro E θ a w hD hi hp he hc
                  have e0 := hp.of (k := 0) rfl
                  have hf := he.h0
                  replace hf := hf.more he 4 rfl onT
                  replace hf := hf.more he 11 rfl (onP e0)
                  refine stP hf rfl rfl rfl (pIAA Try.underlying155 sz_3 rfl rfl (inR_spec hun).1 (inR_spec hun).2) fun a hf => ?_
                  refine cNil ?_
                  refine xThenN ?_
                  intro ds u hau
                  refine ⟨θ, he.put0 hi hau hf rfl 12 rfl rfl, ?_⟩
                  exact hc
                · intro E θ a w hD hi hp he hc
                  have e1 := hp.of (k := 1) rfl
                  have hf := he.h0
                  replace hf := hf.more he 12 rfl (onP e1)
                  refine stE hf hc rfl rfl rfl (eLd1 sc_3 rfl (cell_arr (j := 0) m0 (fun x => (one_encI_i64 x).1) rfl hun rfl)) fun a w hf hc => ?_
                  refine cNil ?_
                  refine xThenN ?_
                  intro ds u hau
                  refine ⟨θ, he.put0 hi hau hf rfl 13 rfl rfl, ?_⟩
                  exact hc
                · intro E θ a w hD hi hp he hc
                  have e2 := hp.of (k := 2) rfl
                  have hf := he.h0
                  replace hf := hf.more he 13 rfl (onP e2)
                  refine stP hf rfl rfl rfl (pNe rfl rfl) fun a hf => ?_
                  rw [hb1] at hf
                  refine cNil ?_
                  refine xThenN ?_
                  intro ds u hau
                  refine ⟨θ, he.put0 hi hau hf rfl 14 rfl rfl, ?_⟩
                  exact hc
                · intro E θ a w hD hi hp he hc
                  have e3 := hp.of (k := 3) rfl
                  have hf := he.h0
                  replace hf := hf.more he 14 rfl (onP e3)
                  refine stP hf rfl rfl rfl (pM rfl) fun a hf => ?_
                  refine cNil ?_
                  refine xThenN ?_
                  intro ds u hau
                  refine ⟨θ, he.put0 hi hau hf rfl 15 rfl rfl, ?_⟩
                  exact hc
                · intro E θ a w hD hi hp he hc
                  have e4 := hp.of (k := 4) rfl
                  have hf := he.h0
                  replace hf := hf.more he 7 rfl onT
                  replace hf := hf.more he 15 rfl (onP e4)
                  refine stS hf rfl rfl rfl fun a hf => ?_
                  refine cNil ?_
                  refine xThenN ?_
                  intro ds u hau
                  refine ⟨θ, he.put0 hi hau hf rfl 16 rfl rfl, ?_⟩
                  exact hc
                · intro E θ a w hD hi hp he hc
                  have e4 := hp.of (k := 4) rfl
                  have hf := he.h0
                  replace hf := hf.more he 5 rfl onT
                  replace hf := hf.more he 15 rfl (onP e4)
                  refine stS hf rfl rfl rfl fun a hf => ?_
                  refine cNil ?_
                  refine xThenN ?_
                  intro ds u hau
                  refine ⟨θ, he.put0 hi hau hf rfl 17 rfl rfl, ?_⟩
                  exact hc
                · intro E θ a w hD hi hp he hc
                  have e4 := hp.of (k := 4) rfl
                  have e6 := hp.of (k := 6) rfl
                  have hf := he.h0
                  replace hf := hf.more he 4 rfl onT
                  replace hf := hf.more he 15 rfl (onP e4)
                  replace hf := hf.more he 17 rfl (onP e6)
                  refine stS hf rfl rfl rfl fun a hf => ?_
                  refine cNil ?_
                  refine xThenN ?_
                  intro ds u hau
                  refine ⟨θ, he.put0 hi hau hf rfl 18 rfl rfl, ?_⟩
                  exact hc
                · intro E θ a w hD hi hp he hc
                  have e4 := hp.of (k := 4) rfl
                  have e7 := hp.of (k := 7) rfl
                  have hf := he.h0
                  replace hf := hf.more he 15 rfl (onP e4)
                  replace hf := hf.more he 18 rfl (onP e7)
                  refine stS hf rfl rfl rfl fun a hf => ?_
                  refine cNil ?_
                  refine xThenN ?_
                  intro ds u hau
                  refine ⟨θ, he.put0 hi hau hf rfl 19 rfl rfl, ?_⟩
                  exact hc
                · intro E θ a w hD hi hp he hc
                  have e4 := hp.of (k := 4) rfl
                  have e5 := hp.of (k := 5) rfl
                  have e8 := hp.of (k := 8) rfl
                  have hf := he.h0
                  replace hf := hf.more he 15 rfl (onP e4)
                  replace hf := hf.more he 16 rfl (onP e5)
                  replace hf := hf.more he 19 rfl (onP e8)
                  refine stS hf rfl rfl rfl fun a hf => ?_
                  refine cNil ?_
                  refine xThenN ?_
                  intro ds u hau
                  refine ⟨θ, he.put0 hi hau hf rfl 20 rfl rfl, ?_⟩
                  exact hc
                · intro E θ a w hD hi hp he hc
                  have e4 := hp.of (k := 4) rfl
                  have hf := he.h0
                  replace hf := hf.more he 1 rfl onT
                  replace hf := hf.more he 15 rfl (onP e4)
                  refine stS hf rfl rfl rfl fun a hf => ?_
                  refine cNil ?_
                  refine xThenN ?_
                  intro ds u hau
                  refine ⟨θ, he.put0 hi hau hf rfl 21 rfl rfl, ?_⟩
                  exact hc
                · intro E θ a w hD hi hp he hc
                  have e4 := hp.of (k := 4) rfl
                  have e9 := hp.of (k := 9) rfl
                  have e10 := hp.of (k := 10) rfl
                  have hf := he.h0
                  replace hf := hf.more he 15 rfl (onP e4)
                  replace hf := hf.more he 20 rfl (onP e9)
                  replace hf := hf.more he 21 rfl (onP e10)
                  refine stS hf rfl rfl rfl fun a hf => ?_
                  refine cNil ?_
                  refine xThenN ?_
                  intro ds u hau
                  refine ⟨θ, he.put0 hi hau hf rfl 22 rfl rfl, ?_⟩
                  exact hc
                · intro E θ a w hD hi hp he hc
                  have e4 := hp.of (k := 4) rfl
                  have e11 := hp.of (k := 11) rfl
                  have hf := he.h0
                  replace hf := hf.more he 15 rfl (onP e4)
                  replace hf := hf.more he 22 rfl (onP e11)
                  refine stP hf rfl rfl rfl (pPf rfl rfl) fun a hf => ?_
                  refine cNil ?_
                  refine xThenN ?_
                  intro ds u hau
                  refine ⟨θ, he.put0 hi hau hf rfl 23 rfl rfl, ?_⟩
                  exact hc
                · intro E θ a w hall he hc
                  have hf := he.h0
                  have e5 := hall 5 rfl
                  have e6 := hall 6 rfl
                  have e7 := hall 7 rfl
                  have e8 := hall 8 rfl
                  have e9 := hall 9 rfl
                  have e10 := hall 10 rfl
                  have e11 := hall 11 rfl
                  have e12 := hall 12 rfl
                  replace hf := hf.more he 23 rfl (onP e12)
                  replace hf := hf.more he 22 rfl (onP e11)
                  replace hf := hf.more he 21 rfl (onP e10)
                  replace hf := hf.more he 20 rfl (onP e9)
                  replace hf := hf.more he 19 rfl (onP e8)
                  replace hf := hf.more he 18 rfl (onP e7)
                  replace hf := hf.more he 17 rfl (onP e6)
                  replace hf := hf.more he 16 rfl (onP e5)
                  replace hf := hf.more he 10 rfl (onT)
                  replace hf := hf.more he 9 rfl (onT)
                  replace hf := hf.more he 8 rfl (onT)
                  replace hf := hf.more he 6 rfl (onT)
                  replace hf := hf.more he 5 rfl (onT)
                  replace hf := hf.more he 4 rfl (onT)
                  replace hf := hf.more he 3 rfl (onT)
                  replace hf := hf.more he 2 rfl (onT)
                  replace hf := hf.more he 1 rfl (onT)
                  replace hf := hf.more he 0 rfl (onT)
                  exact ⟨hf.keep ⟨rfl, rfl, rfl, rfl, rfl, rfl, rfl, rfl, rfl, rfl, rfl, rfl, rfl, rfl, rfl, rfl, rfl, rfl, trivial⟩, hc⟩
                rintro a w ⟨hf, hc⟩
                refine xThenN ?_
                obtain rfl := Option.some.inj hF
                exact ⟨hf.keep ⟨rfl, rfl, rfl, rfl, rfl, rfl, rfl, rfl, rfl, rfl, rfl, trivial⟩, hc⟩
              · replace hF := condT hb hF
                try rw [hb] at hf
                try rw [hb] at hc
                have hb1 := hb
                clear hb
                refine rRegE (fun _ _ h => h) rfl (fun θ => [⟨none, none, 8, .int .i64 r_3⟩, ⟨none, none, 9, .pointer (some ⟨b_3, 0, none⟩)⟩, ⟨none, none, 10, .pointer (some ⟨b_4, 0, none⟩)⟩, ⟨none, none, 11, .pointer (some ⟨b_5, 0, none⟩)⟩, ⟨none, none, 12, .pointer (some ⟨b_6, 0, none⟩)⟩, ⟨none, none, 13, .int .i64 xv⟩, ⟨none, none, 14, .int .i64 xv_1⟩, ⟨none, none, 15, .int .i64 step⟩, ⟨none, none, 34, .slice (some ⟨g, 0, none⟩) r_2.length c_2⟩, ⟨none, none, 35, .int .i64 ((r_2.length : Nat) : Int)⟩, ⟨none, none, 36, .int .i64 x⟩, ⟨some 0, none, 53, .int .i64 xv⟩, ⟨some 1, none, 54, .pointer (some ⟨b_6, 0 + xv.toNat * 1, none⟩)⟩, ⟨some 2, none, 55, .int .i64 (e_2 xv.toNat)⟩, ⟨some 3, none, 56, .bool true⟩, ⟨some 4, none, 57, .bool true⟩, ⟨some 5, none, 58, .int .i64 step⟩, ⟨some 6, none, 59, .int .i64 xv⟩, ⟨some 7, none, 60, .pointer (some ⟨b_6, 0 + xv.toNat * 1, none⟩)⟩, ⟨some 8, none, 61, .int .i64 (e_2 xv.toNat)⟩, ⟨some 9, none, 62, .int .i64 (W (step + (e_2 xv.toNat)))⟩, ⟨some 10, none, 63, .int .i64 x_3⟩, ⟨some 11, none, 64, .bool ((W (step + (e_2 xv.toNat))) == x_3)⟩, ⟨some 12, none, 65, .bool ((W (step + (e_2 xv.toNat))) == x_3)⟩]) (fun E θ => .box b_6 (catc [] 601 encI_i64 e_2 []) 155 :: .box b_5 [.int .i64 x] 3 :: .row p_5 c_5 (x_4.map encI_i64) 3 1 :: .box b_4 [.slice p_5 x_4.length c_5] 61 :: .box b_3 [.int .i64 x_3] 3 :: .row (some ⟨g, 0, none⟩) c_2 (r_2.map encA_155) 155 601 :: Lb) [] (fun a w => Has 76 a [(8, .int .i64 r_3), (9, .pointer (some ⟨b_3, 0, none⟩)), (10, .pointer (some ⟨b_4, 0, none⟩)), (11, .pointer (some ⟨b_5, 0, none⟩)), (12, .pointer (some ⟨b_6, 0, none⟩)), (13, .int .i64 xv), (14, .int .i64 xv_1), (34, .slice (some ⟨g, 0, none⟩) r_2.length c_2), (35, .int .i64 ((r_2.length : Nat) : Int)), (36, .int .i64 x), (58, .int .i64 step), (59, .int .i64 xv), (60, .pointer (some ⟨b_6, 0 + xv.toNat * 1, none⟩)), (61, .int .i64 (e_2 xv.toNat)), (62, .int .i64 (W (step + (e_2 xv.toNat)))), (63, .int .i64 x_3), (64, .bool ((W (step + (e_2 xv.toNat))) == x_3)), (65, .bool ((W (step + (e_2 xv.toNat))) == x_3))] ∧ Ctx G (.box b_6 (catc [] 601 encI_i64 e_2 []) 155 :: .box b_5 [.int .i64 x] 3 :: .row p_5 c_5 (x_4.map encI_i64) 3 1 :: .box b_4 [.slice p_5 x_4.length c_5] 61 :: .box b_3 [.int .i64 x_3] 3 :: .row (some ⟨g, 0, none⟩) c_2 (r_2.map encA_155) 155 601 :: Lb) w) follows_mx (by kernel_rfl) (by kernel_rfl) (HasE.of hf ⟨rfl, rfl, rfl, rfl, rfl, rfl, rfl, rfl, rfl, rfl, rfl, trivial, trivial, trivial, trivial, trivial, trivial, trivial, trivial, trivial, trivial, trivial, trivial, trivial, trivial⟩) hc ⟨?_, ?_, ?_, ?_, ?_, ?_, ?_, ?_, ?_, ?_, ?_, ?_, ?_, trivial⟩ ?_ ?_
                · intro E θ a w hD hi hp he hc
                  have hf := he.h0
                  replace hf := hf.more he 5 rfl onT
                  refine stP hf rfl rfl rfl (pM rfl) fun a hf => ?_
                  refine cNil ?_
                  refine xThenN ?_
                  intro ds u hau
                  refine ⟨θ, he.put0 hi hau hf rfl 11 rfl rfl, ?_⟩
                  exact hc
                · intro E θ a w hD hi hp he hc
                  have e0 := hp.of (k := 0) rfl
                  have hf := he.h0
                  replace hf := hf.more he 4 rfl onT
                  replace hf := hf.more he 11 rfl (onP e0)
                  refine stP hf rfl rfl rfl (pIAA Try.underlying155 sz_3 rfl rfl (inR_spec hun).1 (inR_spec hun).2) fun a hf => ?_
                  refine cNil ?_
                  refine xThenN ?_
                  intro ds u hau
                  refine ⟨θ, he.put0 hi hau hf rfl 12 rfl rfl, ?_⟩
                  exact hc
                · intro E θ a w hD hi hp he hc
                  have e1 := hp.of (k := 1) rfl
                  have hf := he.h0
                  replace hf := hf.more he 12 rfl (onP e1)
                  refine stE hf hc rfl rfl rfl (eLd1 sc_3 rfl (cell_arr (j := 0) m0 (fun x => (one_encI_i64 x).1) rfl hun rfl)) fun a w hf hc => ?_
                  refine cNil ?_
                  refine xThenN ?_
                  intro ds u hau
                  refine ⟨θ, he.put0 hi hau hf rfl 13 rfl rfl, ?_⟩
                  exact hc
                · intro E θ a w hD hi hp he hc
                  have e2 := hp.of (k := 2) rfl
                  have hf := he.h0
                  replace hf := hf.more he 13 rfl (onP e2)
                  refine stP hf rfl rfl rfl (pNe rfl rfl) fun a hf => ?_
                  rw [hb1] at hf
                  refine cNil ?_
                  refine xThenN ?_
                  intro ds u hau
                  refine ⟨θ, he.put0 hi hau hf rfl 14 rfl rfl, ?_⟩
                  exact hc
                · intro E θ a w hD hi hp he hc
                  have e3 := hp.of (k := 3) rfl
                  have hf := he.h0
                  replace hf := hf.more he 14 rfl (onP e3)
                  refine stP hf rfl rfl rfl (pM rfl) fun a hf => ?_
                  refine cNil ?_
                  refine xThenN ?_
                  intro ds u hau
                  refine ⟨θ, he.put0 hi hau hf rfl 15 rfl rfl, ?_⟩
                  exact hc
                · intro E θ a w hD hi hp he hc
                  have e4 := hp.of (k := 4) rfl
                  have hf := he.h0
                  replace hf := hf.more he 7 rfl onT
                  replace hf := hf.more he 15 rfl (onP e4)
                  refine stP hf rfl rfl rfl (pM rfl) fun a hf => ?_
                  refine cNil ?_
                  refine xThenN ?_
                  intro ds u hau
                  refine ⟨θ, he.put0 hi hau hf rfl 16 rfl rfl, ?_⟩
                  exact hc
                · intro E θ a w hD hi hp he hc
                  have e4 := hp.of (k := 4) rfl
                  have hf := he.h0
                  replace hf := hf.more he 5 rfl onT
                  replace hf := hf.more he 15 rfl (onP e4)
                  refine stP hf rfl rfl rfl (pM rfl) fun a hf => ?_
                  refine cNil ?_
                  refine xThenN ?_
                  intro ds u hau
                  refine ⟨θ, he.put0 hi hau hf rfl 17 rfl rfl, ?_⟩
                  exact hc
                · intro E θ a w hD hi hp he hc
                  have e4 := hp.of (k := 4) rfl
                  have e6 := hp.of (k := 6) rfl
                  have hf := he.h0
                  replace hf := hf.more he 4 rfl onT
                  replace hf := hf.more he 15 rfl (onP e4)
                  replace hf := hf.more he 17 rfl (onP e6)
                  refine stP hf rfl rfl rfl (pIAA Try.underlying155 sz_3 rfl rfl (inR_spec hun).1 (inR_spec hun).2) fun a hf => ?_
                  refine cNil ?_
                  refine xThenN ?_
                  intro ds u hau
                  refine ⟨θ, he.put0 hi hau hf rfl 18 rfl rfl, ?_⟩
                  exact hc
                · intro E θ a w hD hi hp he hc
                  have e4 := hp.of (k := 4) rfl
                  have e7 := hp.of (k := 7) rfl
                  have hf := he.h0
                  replace hf := hf.more he 15 rfl (onP e4)
                  replace hf := hf.more he 18 rfl (onP e7)
                  refine stE hf hc rfl rfl rfl (eLd1 sc_3 rfl (cell_arr (j := 0) m0 (fun x => (one_encI_i64 x).1) rfl hun rfl)) fun a w hf hc => ?_
                  refine cNil ?_
                  refine xThenN ?_
                  intro ds u hau
                  refine ⟨θ, he.put0 hi hau hf rfl 19 rfl rfl, ?_⟩
                  exact hc
                · intro E θ a w hD hi hp he hc
                  have e4 := hp.of (k := 4) rfl
                  have e5 := hp.of (k := 5) rfl
                  have e8 := hp.of (k := 8) rfl
                  have hf := he.h0
                  replace hf := hf.more he 15 rfl (onP e4)
                  replace hf := hf.more he 16 rfl (onP e5)
                  replace hf := hf.more he 19 rfl (onP e8)
                  refine stP hf rfl rfl rfl (pAdd rfl rfl) fun a hf => ?_
                  refine cNil ?_
                  refine xThenN ?_
                  intro ds u hau
                  refine ⟨θ, he.put0 hi hau hf rfl 20 rfl rfl, ?_⟩
                  exact hc
                · intro E θ a w hD hi hp he hc
                  have e4 := hp.of (k := 4) rfl
                  have hf := he.h0
                  replace hf := hf.more he 1 rfl onT
                  replace hf := hf.more he 15 rfl (onP e4)
                  refine stE hf hc rfl rfl rfl (eLd1 sc_3 rfl (cell_box m4 rfl)) fun a w hf hc => ?_
                  refine cNil ?_
                  refine xThenN ?_
                  intro ds u hau
                  refine ⟨θ, he.put0 hi hau hf rfl 21 rfl rfl, ?_⟩
                  exact hc
                · intro E θ a w hD hi hp he hc
                  have e4 := hp.of (k := 4) rfl
                  have e9 := hp.of (k := 9) rfl
                  have e10 := hp.of (k := 10) rfl
                  have hf := he.h0
                  replace hf := hf.more he 15 rfl (onP e4)
                  replace hf := hf.more he 20 rfl (onP e9)
                  replace hf := hf.more he 21 rfl (onP e10)
                  refine stP hf rfl rfl rfl (pEq rfl rfl) fun a hf => ?_
                  refine cNil ?_
                  refine xThenN ?_
                  intro ds u hau
                  refine ⟨θ, he.put0 hi hau hf rfl 22 rfl rfl, ?_⟩
                  exact hc
                · intro E θ a w hD hi hp he hc
                  have e4 := hp.of (k := 4) rfl
                  have e11 := hp.of (k := 11) rfl
                  have hf := he.h0
                  replace hf := hf.more he 15 rfl (onP e4)
                  replace hf := hf.more he 22 rfl (onP e11)
                  refine stP hf rfl rfl rfl (pPt rfl rfl) fun a hf => ?_
                  refine cNil ?_
                  refine xThenN ?_
                  intro ds u hau
                  refine ⟨θ, he.put0 hi hau hf rfl 23 rfl rfl, ?_⟩
                  exact hc
                · intro E θ a w hall he hc
                  have hf := he.h0
                  have e5 := hall 5 rfl
                  have e6 := hall 6 rfl
                  have e7 := hall 7 rfl
                  have e8 := hall 8 rfl
                  have e9 := hall 9 rfl
                  have e10 := hall 10 rfl
                  have e11 := hall 11 rfl
                  have e12 := hall 12 rfl
                  replace hf := hf.more he 23 rfl (onP e12)
                  replace hf := hf.more he 22 rfl (onP e11)
                  replace hf := hf.more he 21 rfl (onP e10)
                  replace hf := hf.more he 20 rfl (onP e9)
                  replace hf := hf.more he 19 rfl (onP e8)
                  replace hf := hf.more he 18 rfl (onP e7)
                  replace hf := hf.more he 17 rfl (onP e6)
                  replace hf := hf.more he 16 rfl (onP e5)
                  replace hf := hf.more he 10 rfl (onT)
                  replace hf := hf.more he 9 rfl (onT)
                  replace hf := hf.more he 8 rfl (onT)
                  replace hf := hf.more he 6 rfl (onT)
                  replace hf := hf.more he 5 rfl (onT)
                  replace hf := hf.more he 4 rfl (onT)
                  replace hf := hf.more he 3 rfl (onT)
                  replace hf := hf.more he 2 rfl (onT)
                  replace hf := hf.more he 1 rfl (onT)
                  replace hf := hf.more he 0 rfl (onT)
                  exact ⟨hf.keep ⟨rfl, rfl, rfl, rfl, rfl, rfl, rfl, rfl, rfl, rfl, rfl, rfl, rfl, rfl, rfl, rfl, rfl, rfl, trivial⟩, hc⟩
                rintro a w ⟨hf, hc⟩
                refine xThenN ?_
                obtain rfl := Option.some.inj hF
                exact ⟨hf.keep ⟨rfl, rfl, rfl, rfl, rfl, rfl, rfl, rfl, rfl, rfl, rfl, trivial⟩, hc⟩
            rintro a w ⟨hf, hc⟩
            refine h28 _ _ ?_
            refine rCond (b := rg) hf rfl (fun hb => ?_) (fun hb => ?_)
            · replace hF := condT hb hF
              clear hb
              refine rSeq fun K29 h29 => ?_
              obtain ⟨un_1, hun_1, hF⟩ := bnd_some hF
              obtain ⟨un_2, hun_2, hF⟩ := bnd_some hF
              replace hc := hc.nilRow 0 0
              refine rRegE (fun _ _ h => h) rfl (fun θ => [⟨none, none, 8, .int .i64 r_3⟩, ⟨none, none, 9, .pointer (some ⟨b_3, 0, none⟩)⟩, ⟨none, none, 10, .pointer (some ⟨b_4, 0, none⟩)⟩, ⟨none, none, 12, .pointer (some ⟨b_6, 0, none⟩)⟩, ⟨none, none, 13, .int .i64 xv⟩, ⟨none, none, 14, .int .i64 xv_1⟩, ⟨none, none, 34, .slice (some ⟨g, 0, none⟩) r_2.length c_2⟩, ⟨none, none, 35, .int .i64 ((r_2.length : Nat) : Int)⟩, ⟨none, none, 36, .int .i64 x⟩, ⟨some 0, none, 66, .slice p_5 x_4.length c_5⟩, ⟨some 1, none, 67, .int .i64 xv_1⟩, ⟨some 2, none, 68, .slice (some ⟨(θ 16).b, 0, none⟩) 1 1⟩, ⟨some 3, none, 69, .slice ((θ 24).p) ((x_4 ++ [xv_1]).length) ((θ 24).c)⟩, ⟨some 4, none, 70, .int .i64 xv⟩, ⟨some 5, none, 71, .pointer (some ⟨b_6, 0 + xv.toNat * 1, none⟩)⟩, ⟨some 6, none, 72, .int .i64 (e_2 xv.toNat)⟩]) (fun E θ => (bif E 2 then .row (some ⟨(θ 16).b, 0, none⟩) 1 (([xv_1] : List Int).map encI_i64) 3 1 else .row none 0 [] 0 0) :: .box b_6 (catc [] 601 encI_i64 e_2 []) 155 :: .box b_5 [.int .i64 x] 3 :: (bif E 3 then .row ((θ 24).p) ((θ 24).c) ((x_4 ++ [xv_1]).map encI_i64) 3 1 else .row p_5 c_5 (x_4.map encI_i64) 3 1) :: (bif E 7 then .box b_4 [.slice ((θ 24).p) ((x_4 ++ [xv_1]).length) ((θ 24).c)] 61 else .box b_4 [.slice p_5 x_4.length c_5] 61) :: (bif E 8 then .box b_3 [.int .i64 (e_2 xv.toNat)] 3 else .box b_3 [.int .i64 x_3] 3) :: .row (some ⟨g, 0, none⟩) c_2 (r_2.map encA_155) 155 601 :: Lb) [(7, 0), (7, 3)] (fun a w => ∃ (b_8 : Nat) (p_7 : Option Addr) (c_7 : Nat), Has 76 a [(8, .int .i64 r_3), (9, .pointer (some ⟨b_3, 0, none⟩)), (10, .pointer (some ⟨b_4, 0, none⟩)), (34, .slice (some ⟨g, 0, none⟩) r_2.length c_2), (35, .int .i64 ((r_2.length : Nat) : Int)), (36, .int .i64 x)] ∧ Ctx G (.row (some ⟨b_8, 0, none⟩) 1 (([xv_1] : List Int).map encI_i64) 3 1 :: .box b_6 (catc [] 601 encI_i64 e_2 []) 155 :: .box b_5 [.int .i64 x] 3 :: .row p_7 c_7 ((x_4 ++ [xv_1]).map encI_i64) 3 1 :: .box b_4 [.slice p_7 ((x_4 ++ [xv_1]).length) c_7] 61 :: .box b_3 [.int .i64 (e_2 xv.toNat)] 3 :: .row (some ⟨g, 0, none⟩) c_2 (r_2.map encA_155) 155 601 :: Lb) w) follows_mx (by kernel_rfl) (by kernel_rfl) (HasE.of hf ⟨rfl, rfl, rfl, rfl, rfl, rfl, rfl, rfl, rfl, trivial, trivial, trivial, trivial, trivial, trivial, trivial, trivial⟩) hc ⟨?_, ?_, ?_, ?_, ?_, ?_, ?_, ?_, ?_, trivial⟩ ?_ ?_
              · intro E θ a w hD hi hp he hc
                have e7 := hD.f 0 rfl hi
                try dsimp only at hc
                rw [e7] at hc
                have hf := he.h0
                replace hf := hf.more he 2 rfl onT
                refine stE hf hc rfl rfl rfl (eLd1 sc_61 rfl (cell_box m4 rfl)) fun a w hf hc => ?_
                refine cNil ?_
                refine xThenN ?_
                intro ds u hau
                refine ⟨θ, he.put0 hi hau hf rfl 9 rfl rfl, ?_⟩
                try dsimp only
                rw [updE_fls 0 e7 rfl]
                exact hc
              · intro E θ a w hD hi hp he hc
                have hf := he.h0
                replace hf := hf.more he 5 rfl onT
                refine stP hf rfl rfl rfl (pM rfl) fun a hf => ?_
                refine cNil ?_
                refine xThenN ?_
                intro ds u hau
                refine ⟨θ, he.put0 hi hau hf rfl 10 rfl rfl, ?_⟩
                exact hc
              · intro E θ a w hD hi hp he hc
                have e1 := hp.of (k := 1) rfl
                try dsimp only at hc
                rw [hi] at hc
                have hf := he.h0
                replace hf := hf.more he 10 rfl (onP e1)
                refine stBS (rows := ([xv_1] : List Int).map encI_i64) (vs := [(0, .int .i64 xv_1)]) hf hc rfl rfl sl_61 rfl ⟨rfl, rfl, rfl, trivial⟩ rfl rfl fun b_7 a w hf hc => ?_
                refine cNil ?_
                refine xThenN ?_
                intro ds u hau
                replace hc := hc.drop k1
                refine ⟨(setT θ 16 ⟨b_7, none, 0⟩), he.put hi hau hf rfl [] trivial ⟨qq, qq, qq, qq, qq, qq, qq, qq, qq, qq, qq, qq, qq, qq, qq, qq, trivial⟩, ?_⟩
                try dsimp only
                rw [updE_self E 2]
                exact hc
              · intro E θ a w hD hi hp he hc
                have e0 := hp.of (k := 0) rfl
                have e2 := hp.of (k := 2) rfl
                have e7 := hD.f 1 rfl hi
                try dsimp only at hc
                rw [e2, hi, e7] at hc
                have hf := he.h0
                replace hf := hf.more he 9 rfl (onP e0)
                replace hf := hf.more he 11 rfl (onP e2)
                refine stApm (xs := x_4) (ys := ([xv_1] : List Int)) hf hc rfl rfl sl_61 rfl rfl rfl rfl rfl one_encI_i64 (src_row hc m0) (fun _ _ => u3) (by simpa using room_spec hun_1) fun p_6 c_6 a w hf hc => ?_
                refine cNil ?_
                refine xThenN ?_
                intro ds u hau
                refine ⟨(setT θ 24 ⟨0, p_6, c_6⟩), he.put hi hau hf rfl [] trivial ⟨qq, qq, qq, qq, qq, qq, qq, qq, qq, qq, qq, qq, qq, qq, qq, qq, trivial⟩, ?_⟩
                try dsimp only
                rw [updE_tru 3 e2, updE_self E 3, updE_fls 3 e7 rfl]
                exact hc
              · intro E θ a w hD hi hp he hc
                have hf := he.h0
                replace hf := hf.more he 4 rfl onT
                refine stP hf rfl rfl rfl (pM rfl) fun a hf => ?_
                refine cNil ?_
                refine xThenN ?_
                intro ds u hau
                refine ⟨θ, he.put0 hi hau hf rfl 13 rfl rfl, ?_⟩
                exact hc
              · intro E θ a w hD hi hp he hc
                have e4 := hp.of (k := 4) rfl
                have hf := he.h0
                replace hf := hf.more he 3 rfl onT
                replace hf := hf.more he 13 rfl (onP e4)
                refine stP hf rfl rfl rfl (pIAA Try.underlying155 sz_3 rfl rfl (inR_spec hun_2).1 (inR_spec hun_2).2) fun a hf => ?_
                refine cNil ?_
                refine xThenN ?_
                intro ds u hau
                refine ⟨θ, he.put0 hi hau hf rfl 14 rfl rfl, ?_⟩
                exact hc
              · intro E θ a w hD hi hp he hc
                have e5 := hp.of (k := 5) rfl
                have hf := he.h0
                replace hf := hf.more he 14 rfl (onP e5)
                refine stE hf hc rfl rfl rfl (eLd1 sc_3 rfl (cell_arr (j := 0) m1 (fun x => (one_encI_i64 x).1) rfl hun_2 rfl)) fun a w hf hc => ?_
                refine cNil ?_
                refine xThenN ?_
                intro ds u hau
                refine ⟨θ, he.put0 hi hau hf rfl 15 rfl rfl, ?_⟩
                exact hc
              · intro E θ a w hD hi hp he hc
                have e3 := hp.of (k := 3) rfl
                try dsimp only at hc
                rw [hi] at hc
                have hf := he.h0
                replace hf := hf.more he 2 rfl onT
                replace hf := hf.more he 12 rfl (onP e3)
                refine stSt (vs := [.slice ((θ 24).p) ((x_4 ++ [xv_1]).length) ((θ 24).c)]) hf hc rfl rfl rfl rfl sz_61 rfl rfl u4 fun w hc => ?_
                refine cNil ?_
                refine xThenN ?_
                intro ds u hau
                refine ⟨θ, he.stay0 hi hau hf rfl, ?_⟩
                try dsimp only
                rw [updE_self E 7]
                exact hc
              · intro E θ a w hD hi hp he hc
                have e6 := hp.of (k := 6) rfl
                try dsimp only at hc
                rw [hi] at hc
                have hf := he.h0
                replace hf := hf.more he 1 rfl onT
                replace hf := hf.more he 15 rfl (onP e6)
                refine stSt (vs := [.int .i64 (e_2 xv.toNat)]) hf hc rfl rfl rfl rfl sz_3 rfl rfl u5 fun w hc => ?_
                refine cNil ?_
                refine xThenN ?_
                intro ds u hau
                refine ⟨θ, he.stay0 hi hau hf rfl, ?_⟩
                try dsimp only
                rw [updE_self E 8]
                exact hc
              · intro E θ a w hall he hc
                have hf := he.h0
                have e2 := hall 2 rfl
                have e3 := hall 3 rfl
                have e7 := hall 7 rfl
                have e8 := hall 8 rfl
                replace hf := hf.more he 8 rfl (onT)
                replace hf := hf.more he 7 rfl (onT)
                replace hf := hf.more he 6 rfl (onT)
                replace hf := hf.more he 2 rfl (onT)
                replace hf := hf.more he 1 rfl (onT)
                replace hf := hf.more he 0 rfl (onT)
                try dsimp only at hc
                rw [e2, e3, e7, e8] at hc
                exact ⟨(θ 16).b, (θ 24).p, (θ 24).c, hf.keep ⟨rfl, rfl, rfl, rfl, rfl, rfl, trivial⟩, hc⟩
              rintro a w ⟨b_8, p_7, c_7, hf, hc⟩
              refine h29 _ _ ?_
              refine rExit ?_
              refine cMiss rfl ?_
              refine xThen ?_
              replace hc := hc.drop k0
              exact ⟨rfl, ((e_2 xv.toNat), (x_4 ++ [xv_1])), _, (Option.some.inj hF).symm, ⟨p_7, c_7, rfl⟩, hc⟩
            · replace hF := condF hb hF
              clear hb
              refine rSkip ?_
              refine h25 _ _ ?_
              exact ⟨(x_3, x_4), _, (Option.some.inj hF).symm, ⟨p_5, c_5, rfl⟩, hc⟩
          refine rSeq fun K30 h30 => ?_
          refine rReg (fun _ _ h => h) rfl ?_
          refine stE hf hc rfl rfl rfl (eLd1 sc_3 rfl (cell_box m1 rfl)) fun a w hf hc => ?_
          refine stP hf rfl rfl rfl (pGt rfl rfl) fun a hf => ?_
          refine cNil ?_
          refine h30 _ _ ?_
          refine rCond (b := (decide (0 < x))) hf rfl (fun hb => ?_) (fun hb => ?_)
          · replace hF := condT hb hF
            clear hb
            refine rReg (fun _ _ h => h) rfl ?_
            refine stP hf rfl rfl rfl (pM rfl) fun a hf => ?_
            refine stE hf hc rfl rfl rfl (eLd1 sc_61 rfl (cell_box m3 rfl)) fun a w hf hc => ?_
            refine stE hf hc rfl rfl rfl (eLd1 sc_3 rfl (cell_box m1 rfl)) fun a w hf hc => ?_
            refine stP hf rfl rfl rfl (pSub rfl rfl) fun a hf => ?_
            obtain ⟨e_3, he_3, hF⟩ := bnd_some hF
            obtain ⟨g_1, rfl, qa_2, qr_2⟩ := row_atm hc m2 he_3
            refine stP hf rfl rfl rfl (pIA Try.underlying61 sz_3 rfl rfl qa_2) fun a hf => ?_
            refine stE hf hc rfl rfl rfl (eLd1 sc_3 rfl (cell_row (sz := 1) (i := (W (x - 1)).toNat) (j := 0) m2 qr_2 rfl)) fun a w hf hc => ?_
            obtain ⟨r_4, hr_4, hF⟩ := bnd_some hF
            refine stE hf hc rfl rfl rfl (eC (v := .int .i64 r_4) (vs := [.int .i64 xv_1, .int .i64 e_3]) (caps := []) en_83 rfl rfl rfl rfl (fun w hc => shift_apart_ok xv_1 e_3 hc hr_4)) fun a w hf hc => ?_
            refine stP hf rfl rfl rfl (pA rfl) fun a hf => ?_
            refine cNil ?_
            exact hj27 r_4 (some ⟨g_1, 0, none⟩) c_4 _ _  (hf.keep ⟨rfl, rfl, rfl, rfl, rfl, rfl, rfl, rfl, rfl, rfl, rfl, trivial⟩) hc hF
          · replace hF := condF hb hF
            clear hb
            refine rSkip ?_
            exact hj27 0 p_4 c_4 _ _  (hf.keep ⟨rfl, rfl, rfl, rfl, rfl, rfl, rfl, rfl, rfl, rfl, rfl, trivial⟩) hc hF
        · rintro D_1 ⟨x_3, x_4⟩ _ a w hsF ⟨p_4, c_4, rfl⟩ hf hc
          replace hf : Has ⟨76, markL (D_1 :: Ds)⟩ a [(8, .int .i64 r_3), (9, .pointer (some ⟨b_3, 0, none⟩)), (10, .pointer (some ⟨b_4, 0, none⟩)), (11, .pointer (some ⟨b_5, 0, none⟩)), (12, .pointer (some ⟨b_6, 0, none⟩)), (34, .slice (some ⟨g, 0, none⟩) r_2.length c_2), (35, .int .i64 ((r_2.length : Nat) : Int)), (36, .int .i64 x)] := hf.keep ⟨rfl, rfl, rfl, rfl, rfl, rfl, rfl, rfl, trivial⟩
          replace hc : Ctx G (.box b_6 (catc [] 601 encI_i64 e_2 []) 155 :: .box b_5 [.int .i64 x] 3 :: .row p_4 c_4 (x_4.map encI_i64) 3 1 :: .box b_4 [.slice p_4 x_4.length c_4] 61 :: .box b_3 [.int .i64 x_3] 3 :: .row (some ⟨g, 0, none⟩) c_2 (r_2.map encA_155) 155 601 :: (raws (D_1 :: Ds) ++ Lf)) w := rawsIn (C := []) (L := [.box b_6 (catc [] 601 encI_i64 e_2 []) 155, .box b_5 [.int .i64 x] 3, .row p_4 c_4 (x_4.map encI_i64) 3 1, .box b_4 [.slice p_4 x_4.length c_4] 61, .box b_3 [.int .i64 x_3] 3, .row (some ⟨g, 0, none⟩) c_2 (r_2.map encA_155) 155 601]) hc
          replace hF : (some (.cont (W (x + 1), x_3, x_4))) = some st16 := by rcases hsF with rfl | rfl <;> exact hF
          refine h20 _ _ ?_
          refine cReg ?_
          refine stP hf rfl rfl rfl (pAdd rfl rfl) fun a hf => ?_
          refine stP hf rfl rfl rfl (pM rfl) fun a hf => ?_
          refine cNil ?_
          replace hc := hc.drop k1
          replace hc := hc.drop k0
          exact hK16 (W (x + 1), x_3, x_4) _ _ (Option.some.inj hF).symm ⟨p_4, c_4, (D_1 :: Ds), hf.keep ⟨rfl, rfl, rfl, rfl, rfl, rfl, trivial⟩, hc⟩
        · rintro D_1 ⟨x_3, x_4⟩ _ a w hsF ⟨p_4, c_4, rfl⟩ hf hc
          replace hf : Has ⟨76, markL (D_1 :: Ds)⟩ a [(8, .int .i64 r_3), (9, .pointer (some ⟨b_3, 0, none⟩)), (10, .pointer (some ⟨b_4, 0, none⟩)), (11, .pointer (some ⟨b_5, 0, none⟩)), (12, .pointer (some ⟨b_6, 0, none⟩)), (34, .slice (some ⟨g, 0, none⟩) r_2.length c_2), (35, .int .i64 ((r_2.length : Nat) : Int)), (36, .int .i64 x)] := hf.keep ⟨rfl, rfl, rfl, rfl, rfl, rfl, rfl, rfl, trivial⟩
          replace hc : Ctx G (.box b_6 (catc [] 601 encI_i64 e_2 []) 155 :: .box b_5 [.int .i64 x] 3 :: .row p_4 c_4 (x_4.map encI_i64) 3 1 :: .box b_4 [.slice p_4 x_4.length c_4] 61 :: .box b_3 [.int .i64 x_3] 3 :: .row (some ⟨g, 0, none⟩) c_2 (r_2.map encA_155) 155 601 :: (raws (D_1 :: Ds) ++ Lf)) w := rawsIn (C := []) (L := [.box b_6 (catc [] 601 encI_i64 e_2 []) 155, .box b_5 [.int .i64 x] 3, .row p_4 c_4 (x_4.map encI_i64) 3 1, .box b_4 [.slice p_4 x_4.length c_4] 61, .box b_3 [.int .i64 x_3] 3, .row (some ⟨g, 0, none⟩) c_2 (r_2.map encA_155) 155 601]) hc
          replace hF : (none) = some st16 := by subst hsF; exact hF
          cases hF
      · replace hF := condF hb hF
        clear hb
        refine wp_exit ?_
        refine xThen ?_
        refine xThen ?_
        have he := Option.some.inj hF
        rw [← he] at hfin16
        refine cHit ?_
        exact hr16 _ _ _ hfin16 ⟨p_3, c_3, Ds, hf.keep ⟨rfl, rfl, rfl, rfl, rfl, rfl, trivial⟩, hc⟩

def shift_turned (N : Nat) (l : List shift_Turn) (from_ : shift_Turn) (to_ : shift_Turn) : Option ((List shift_Turn)) :=
  cond (((l.length : Nat) : Int) == 0)
  (Option.bind (room ((l ++ [from_, to_])).length) fun un =>
  some (l ++ [from_, to_]))
  (Option.bind (getI l (W (((l.length : Nat) : Int) - 1))) fun e_1 =>
  Option.bind (getI l (W (((l.length : Nat) : Int) - 1))) fun e_2 =>
  cond (e_1.Gauging == e_2.Gauging && e_1.Up == to_.Up)
  (Option.bind (getI l (W (((l.length : Nat) : Int) - 1))) fun e_3 =>
  some (l.set (W (((l.length : Nat) : Int) - 1)).toNat to_))
  (Option.bind (room ((l ++ [to_])).length) fun un_1 =>
  some (l ++ [to_])))
theorem shift_turned_ok {N : Nat} {G : Pers} {Lf : List Ent} {w : World} (l : List shift_Turn) (from_ : shift_Turn) (to_ : shift_Turn) {l_p : Option Addr} {l_c : Nat}  (hc : Ctx G (.row l_p l_c (l.map enc_shift_Turn) 91 2 :: Lf) w) {res : (List shift_Turn)} (hF : shift_turned N l from_ to_ = some res) : Calls Try.prog 88 #[.slice l_p l.length l_c, .agg #[.int .i64 from_.Gauging, .bool from_.Up], .agg #[.int .i64 to_.Gauging, .bool to_.Up]] w (fun e w => ∃ (p'1 : Option Addr) (c'1 : Nat), e = .returned (.slice p'1 res.length c'1) ∧ Ctx G (.row p'1 c'1 (res.map enc_shift_Turn) 91 2 :: Lf) w) := by
  unfold shift_turned at hF
  refine fnIn (args := [.slice l_p l.length l_c, .agg #[.int .i64 from_.Gauging, .bool from_.Up], .agg #[.int .i64 to_.Gauging, .bool to_.Up]]) Try.func88 rfl Try.ntmps88 rfl fun a hf => ?_
  refine wp_seq_k fun K1 h1 => ?_
  refine cReg ?_
  refine stBx (cs := [.int .i64 from_.Gauging, .bool from_.Up]) hf hc rfl rfl rfl rfl fun b_1 a w hf hc => ?_
  refine stBx (cs := [.int .i64 to_.Gauging, .bool to_.Up]) hf hc rfl rfl rfl rfl fun b_2 a w hf hc => ?_
  refine stP hf rfl rfl rfl (pA rfl) fun a hf => ?_
  refine cNil ?_
  refine h1 _ _ ?_
  refine wp_seq_k fun K2 h2 => ?_
  refine wp_block ?_
  refine wp_seq_k fun K3 h3 => ?_
  refine cReg ?_
  refine stP hf rfl rfl rfl (pM rfl) fun a hf => ?_
  refine stP hf rfl rfl rfl (pLenS Try.underlying87 rfl) fun a hf => ?_
  refine stP hf rfl rfl rfl (pEq rfl rfl) fun a hf => ?_
  refine stP hf rfl rfl rfl (pA rfl) fun a hf => ?_
  refine cNil ?_
  refine h3 _ _ ?_
  refine cCond (b := (((l.length : Nat) : Int) == 0)) hf rfl (fun hb => ?_) (fun hb => ?_)
  · replace hF := condT hb hF
    clear hb
    refine wp_seq_k fun K4 h4 => ?_
    refine cReg ?_
    refine stP hf rfl rfl rfl (pM rfl) fun a hf => ?_
    refine stE hf hc rfl rfl rfl (eLdN (vs := [.int .i64 from_.Gauging, .bool from_.Up]) ag_91 rfl rfl (cells_box (n := 2) m1 rfl)) fun a w hf hc => ?_
    refine stE hf hc rfl rfl rfl (eLdN (vs := [.int .i64 to_.Gauging, .bool to_.Up]) ag_91 rfl rfl (cells_box (n := 2) m0 rfl)) fun a w hf hc => ?_
    refine stBS (rows := ([from_, to_] : List shift_Turn).map enc_shift_Turn) (vs := [(0, .agg #[.int .i64 from_.Gauging, .bool from_.Up]), (1, .agg #[.int .i64 to_.Gauging, .bool to_.Up])]) hf hc rfl rfl sl_87 rfl ⟨rfl, rfl, rfl, rfl, rfl, rfl, trivial⟩ rfl rfl fun b_3 a w hf hc => ?_
    obtain ⟨un, hun, hF⟩ := bnd_some hF
    refine stApm (xs := l) (ys := ([from_, to_] : List shift_Turn)) hf hc rfl rfl sl_87 rfl rfl rfl rfl rfl one_enc_shift_Turn (src_row hc m0) (fun _ _ => u3) (by simpa using room_spec hun) fun p_1 c_1 a w hf hc => ?_
    refine stP hf rfl rfl rfl (pA rfl) fun a hf => ?_
    refine cNil ?_
    refine h4 _ _ ?_
    refine wp_ret ?_
    refine xBlkR ?_
    refine xThenR ?_
    obtain rfl := Option.some.inj hF
    replace hc := hc.drop k2
    replace hc := hc.drop k1
    replace hc := hc.drop k0
    exact fnOut1 (by simp) rfl Try.results88 hf hc (show look _ 6 = _ from rfl) ⟨p_1, c_1, rfl, hc⟩
  · replace hF := condF hb hF
    clear hb
    refine wp_seq_k fun K5 h5 => ?_
    obtain ⟨e_1, he_1, hF⟩ := bnd_some hF
    obtain ⟨g, rfl, qa, qr⟩ := row_atm hc m2 he_1
    obtain ⟨e_2, he_2, hF⟩ := bnd_some hF
    obtain ⟨qa_1, qr_1⟩ := row_atk hc m2 he_2
    refine cQ hc follows_mx (by kernel_rfl) ?_
    refine qE hf rfl rfl rfl (Pu.ev (pM rfl)) fun a hf => ?_
    refine qE hf rfl rfl rfl (Pu.ev (pM rfl)) fun a hf => ?_
    refine qE hf rfl rfl rfl (Pu.ev (pLenS Try.underlying87 rfl)) fun a hf => ?_
    refine qE hf rfl rfl rfl (Pu.ev (pSub rfl rfl)) fun a hf => ?_
    refine qE hf rfl rfl rfl (Pu.ev (pIA Try.underlying87 sz_91 rfl rfl qa)) fun a hf => ?_
    refine qE hf rfl rfl rfl (eLdN (vs := [.int .i64 e_1.Gauging, .bool e_1.Up]) ag_91 rfl rfl (cells_rw (sz := 2) (i := (W (((l.length : Nat) : Int) - 1)).toNat) m2 qr (n := 2) (o' := 0) rfl)) fun a hf => ?_
    refine qE hf rfl rfl rfl (Pu.ev (pM rfl)) fun a hf => ?_
    refine qE hf rfl rfl rfl (Pu.ev (pM rfl)) fun a hf => ?_
    refine qE hf rfl rfl rfl (Pu.ev (pLenS Try.underlying87 rfl)) fun a hf => ?_
    refine qE hf rfl rfl rfl (Pu.ev (pSub rfl rfl)) fun a hf => ?_
    refine qE hf rfl rfl rfl (Pu.ev (pIA Try.underlying87 sz_91 rfl rfl qa_1)) fun a hf => ?_
    refine qE hf rfl rfl rfl (Pu.ev (pFA fa_91_0 rfl)) fun a hf => ?_
    refine qE hf rfl rfl rfl (eLd1 sc_3 rfl (cell_row (sz := 2) (i := (W (((l.length : Nat) : Int) - 1)).toNat) (j := 0) m2 qr_1 rfl)) fun a hf => ?_
    refine qE hf rfl rfl rfl (Pu.ev (pFA fa_91_1 rfl)) fun a hf => ?_
    refine qE hf rfl rfl rfl (eLd1 sc_4 rfl (cell_box m0 rfl)) fun a hf => ?_
    refine qE hf rfl rfl rfl (Pu.ev (pBuildS (cells := [.int .i64 e_2.Gauging, .bool to_.Up]) bt_91 rfl rfl)) fun a hf => ?_
    refine qE hf rfl rfl rfl (Pu.ev (pEqA ge_91 rfl rfl (eqs_91 _ _ _ _))) fun a hf => ?_
    refine qE hf rfl rfl rfl (Pu.ev (pA rfl)) fun a hf => ?_
    intro w hc
    refine h5 _ _ ?_
    refine cCond (b := (e_1.Gauging == e_2.Gauging && e_1.Up == to_.Up)) hf rfl (fun hb => ?_) (fun hb => ?_)
    · replace hF := condT hb hF
      clear hb
      refine wp_seq_k fun K6 h6 => ?_
      refine cReg ?_
      refine stP hf rfl rfl rfl (pM rfl) fun a hf => ?_
      refine stP hf rfl rfl rfl (pM rfl) fun a hf => ?_
      refine stP hf rfl rfl rfl (pLenS Try.underlying87 rfl) fun a hf => ?_
      refine stP hf rfl rfl rfl (pSub rfl rfl) fun a hf => ?_
      refine stE hf hc rfl rfl rfl (eLdN (vs := [.int .i64 to_.Gauging, .bool to_.Up]) ag_91 rfl rfl (cells_box (n := 2) m0 rfl)) fun a w hf hc => ?_
      obtain ⟨e_3, he_3, hF⟩ := bnd_some hF
      obtain ⟨qa_2, qr_2⟩ := row_atk hc m2 he_3
      refine stP hf rfl rfl rfl (pIA Try.underlying87 sz_91 rfl rfl qa_2) fun a hf => ?_
      refine stRw (vs := [.int .i64 to_.Gauging, .bool to_.Up]) (o' := 0) (z := to_) (xs := l) hf hc rfl rfl rfl rfl sz_91 rfl (fun x => (one_enc_shift_Turn x).1) (getI_lt he_3) (fun _ _ => rfl) rfl u2 fun w hc => ?_
      refine cNil ?_
      refine h6 _ _ ?_
      refine wp_seq_k fun K7 h7 => ?_
      refine cReg ?_
      refine stP hf rfl rfl rfl (pM rfl) fun a hf => ?_
      refine stP hf rfl rfl rfl (pA rfl) fun a hf => ?_
      refine cNil ?_
      refine h7 _ _ ?_
      refine wp_ret ?_
      refine xBlkR ?_
      refine xThenR ?_
      obtain rfl := Option.some.inj hF
      replace hc := hc.drop k1
      replace hc := hc.drop k0
      exact fnOut1 (by simp) rfl Try.results88 hf hc (show look _ 6 = _ from rfl) ⟨(some ⟨g, 0, none⟩), l_c, (by first | rfl | simp only [List.length_set]), hc⟩
    · replace hF := condF hb hF
      clear hb
      refine wp_skip ?_
      refine h2 _ _ ?_
      refine wp_seq_k fun K8 h8 => ?_
      refine cReg ?_
      refine stP hf rfl rfl rfl (pM rfl) fun a hf => ?_
      refine stE hf hc rfl rfl rfl (eLdN (vs := [.int .i64 to_.Gauging, .bool to_.Up]) ag_91 rfl rfl (cells_box (n := 2) m0 rfl)) fun a w hf hc => ?_
      refine stBS (rows := ([to_] : List shift_Turn).map enc_shift_Turn) (vs := [(0, .agg #[.int .i64 to_.Gauging, .bool to_.Up])]) hf hc rfl rfl sl_87 rfl ⟨rfl, rfl, rfl, trivial⟩ rfl rfl fun b_4 a w hf hc => ?_
      obtain ⟨un_1, hun_1, hF⟩ := bnd_some hF
      refine stApm (xs := l) (ys := ([to_] : List shift_Turn)) hf hc rfl rfl sl_87 rfl rfl rfl rfl rfl one_enc_shift_Turn (src_row hc m0) (fun _ _ => u3) (by simpa using room_spec hun_1) fun p_2 c_2 a w hf hc => ?_
      refine stP hf rfl rfl rfl (pA rfl) fun a hf => ?_
      refine cNil ?_
      refine h8 _ _ ?_
      refine wp_ret ?_
      obtain rfl := Option.some.inj hF
      replace hc := hc.drop k2
      replace hc := hc.drop k1
      replace hc := hc.drop k0
      exact fnOut1 (by simp) rfl Try.results88 hf hc (show look _ 6 = _ from rfl) ⟨p_2, c_2, rfl, hc⟩

def shift_Zigzag_j18 (N : Nat) (x : Int) (out_1 : List shift_Turn) (x_5 : Int) (x_6 : Int) (x_7 : Int) (x_8 : Int) : Option (Step ((List shift_Turn) × Int × Int × Int × Int × Int) ((List shift_Turn) × Int)) :=
  some (.cont (out_1, W (x + 1), x_5, x_6, x_7, x_8))
def shift_Zigzag_j27 (N : Nat) (out : List shift_Turn) (x : Int) (x_2 : Int) (x_4 : Int) (e_2 : api_Span) (x_9 : Int) (x_10 : Int) : Option (Step ((List shift_Turn) × Int × Int × Int × Int × Int) ((List shift_Turn) × Int)) :=
  cond (decide (e_2.Hi < x_2))
  (shift_Zigzag_j18 N x out x_9 e_2.Hi x_10 x)
  (shift_Zigzag_j18 N x out x_9 x_2 x_10 x_4)
def shift_Zigzag_b14 (N : Nat) (r_1 : (List api_Span) × Int) (out : List shift_Turn) (x : Int) (x_1 : Int) (x_2 : Int) (x_3 : Int) (x_4 : Int) : Option (Step ((List shift_Turn) × Int × Int × Int × Int × Int) ((List shift_Turn) × Int)) :=
  cond (decide (x < ((r_1.1.length : Nat) : Int)))
  (Option.bind (getI r_1.1 x) fun e_2 =>
  cond (decide (x_2 < e_2.Lo))
  (Option.bind (shift_turned N out (⟨x_4, true⟩ : shift_Turn) (⟨x, false⟩ : shift_Turn)) fun r_2 =>
  shift_Zigzag_j18 N x r_2 e_2.Lo e_2.Lo x x)
  (cond (decide (e_2.Hi < x_1))
  (Option.bind (shift_turned N out (⟨x_3, false⟩ : shift_Turn) (⟨x, true⟩ : shift_Turn)) fun r_3 =>
  shift_Zigzag_j18 N x r_3 e_2.Hi e_2.Hi x x)
  (cond (decide (x_1 < e_2.Lo))
  (shift_Zigzag_j27 N out x x_2 x_4 e_2 e_2.Lo x)
  (shift_Zigzag_j27 N out x x_2 x_4 e_2 x_1 x_3))))
  (some (.brk (out, x, x_1, x_2, x_3, x_4)))
def shift_Zigzag (N : Nat) (r : shift_Record) : Option ((List shift_Turn) × Int) :=
  Option.bind (shift_opened N r) (sumK (fun r_0 => cond (r_0 != 0)
  (some (([] : List shift_Turn), r_0))
  (none))
  (fun r_1 => cond (r_1.2 != 0)
  (some (([] : List shift_Turn), r_1.2))
  (Option.bind (getI r_1.1 0) fun e_1 =>
  Option.bind (loopO (fun s14 => shift_Zigzag_b14 N r_1 s14.1 s14.2.1 s14.2.2.1 s14.2.2.2.1 s14.2.2.2.2.1 s14.2.2.2.2.2) N (([] : List shift_Turn), 0, e_1.Lo, e_1.Hi, 0, 0)) fun x14 =>
  exK x14 (fun s14 => some (s14.1, 0)) some)))
theorem shift_Zigzag_ok {N : Nat} {G : Pers} {Lf : List Ent} {w : World} (r : shift_Record) {r_Rating_p : Option Addr} {r_Rating_c : Nat} {r_Gaugings_p : Option Addr} {r_Gaugings_c : Nat} (h_r_Rating : Rd G 2 r_Rating_p r_Rating_c (r.Rating.map enc_shift_Mark)) (h_r_Gaugings : Rd G 4 r_Gaugings_p r_Gaugings_c (r.Gaugings.map enc_shift_Gauging)) (hc : Ctx G (Lf) w) {res : (List shift_Turn) × Int} (hF : shift_Zigzag N r = some res) : Calls Try.prog 45 #[.agg #[.slice r_Rating_p r.Rating.length r_Rating_c, .slice r_Gaugings_p r.Gaugings.length r_Gaugings_c]] w (fun e w => ∃ (p'1 : Option Addr) (c'1 : Nat), e = .returned (.tuple #[.slice p'1 res.1.length c'1, .int .i64 res.2]) ∧ Ctx G (.row p'1 c'1 (res.1.map enc_shift_Turn) 91 2 :: Lf) w) := by
  unfold shift_Zigzag at hF
  refine fnIn (args := [.agg #[.slice r_Rating_p r.Rating.length r_Rating_c, .slice r_Gaugings_p r.Gaugings.length r_Gaugings_c]]) Try.func45 rfl Try.ntmps45 rfl fun a hf => ?_
  refine wp_seq_k fun K1 h1 => ?_
  refine cReg ?_
  refine stBx (cs := [.slice r_Rating_p r.Rating.length r_Rating_c, .slice r_Gaugings_p r.Gaugings.length r_Gaugings_c]) hf hc rfl rfl rfl rfl fun b_1 a w hf hc => ?_
  refine stP hf rfl rfl rfl (pA rfl) fun a hf => ?_
  refine stP hf rfl rfl rfl (pA rfl) fun a hf => ?_
  refine cNil ?_
  refine h1 _ _ ?_
  refine wp_seq_k fun K2 h2 => ?_
  refine cReg ?_
  refine stE hf hc rfl rfl rfl (eLdN (vs := [.slice r_Rating_p r.Rating.length r_Rating_c, .slice r_Gaugings_p r.Gaugings.length r_Gaugings_c]) ag_25 rfl rfl (cells_box (n := 2) m0 rfl)) fun a w hf hc => ?_
  obtain ⟨r_0, hr_0, hF⟩ := bnd_some hF
  cases r_0 with
  | inl r_0 =>
    replace hF := sumKl hF
    refine stC (vs := [.agg #[.slice r_Rating_p r.Rating.length r_Rating_c, .slice r_Gaugings_p r.Gaugings.length r_Gaugings_c]]) (caps := []) hf rfl rfl rfl en_73 rfl rfl rfl rfl (shift_opened_ok r h_r_Rating h_r_Gaugings hc hr_0) ?_
    rintro _ w ⟨rfl, hc⟩
    refine ⟨_, rfl, fun a hf => ?_⟩
    refine stP hf rfl rfl rfl (pM rfl) fun a hf => ?_
    refine stP hf rfl rfl rfl (pX rfl rfl) fun a hf => ?_
    refine stP hf rfl rfl rfl (pX rfl rfl) fun a hf => ?_
    refine stP hf rfl rfl rfl (pA rfl) fun a hf => ?_
    refine stP hf rfl rfl rfl (pA rfl) fun a hf => ?_
    refine cNil ?_
    refine h2 _ _ ?_
    refine wp_seq_k fun K3 h3 => ?_
    refine wp_seq_k fun K4 h4 => ?_
    refine cReg ?_
    refine stP hf rfl rfl rfl (pM rfl) fun a hf => ?_
    refine stP hf rfl rfl rfl (pNe rfl rfl) fun a hf => ?_
    refine cNil ?_
    refine h4 _ _ ?_
    refine cCond (b := (r_0 != 0)) hf rfl (fun hb => ?_) (fun hb => ?_)
    · replace hF := condT hb hF
      clear hb
      refine wp_seq_k fun K5 h5 => ?_
      refine cReg ?_
      refine stP hf rfl rfl rfl (pM rfl) fun a hf => ?_
      refine stP hf rfl rfl rfl (pA rfl) fun a hf => ?_
      refine stP hf rfl rfl rfl (pA rfl) fun a hf => ?_
      refine cNil ?_
      refine h5 _ _ ?_
      refine wp_ret ?_
      refine xThenR ?_
      obtain rfl := Option.some.inj hF
      replace hc := hc.nilRow 91 2
      replace hc := hc.drop k1
      exact fnOut2 (by simp) rfl Try.results45 hf hc (show look _ 2 = _ from rfl) (show look _ 3 = _ from rfl) ⟨none, 0, rfl, hc⟩
    · replace hF := condF hb hF
      clear hb
      refine wp_skip ?_
      refine h3 _ _ ?_
      refine wp_seq_k fun K6 h6 => ?_
      exact noneO hF
  | inr r_1 =>
    replace hF := sumKr hF
    have hr_1 := hr_0
    refine stC (vs := [.agg #[.slice r_Rating_p r.Rating.length r_Rating_c, .slice r_Gaugings_p r.Gaugings.length r_Gaugings_c]]) (caps := []) hf rfl rfl rfl en_73 rfl rfl rfl rfl (shift_opened_ok r h_r_Rating h_r_Gaugings hc hr_1) ?_
    rintro _ w ⟨b_2, p_1, c_1, rfl, hc⟩
    refine ⟨_, rfl, fun a hf => ?_⟩
    refine stP hf rfl rfl rfl (pM rfl) fun a hf => ?_
    refine stP hf rfl rfl rfl (pX rfl rfl) fun a hf => ?_
    refine stP hf rfl rfl rfl (pX rfl rfl) fun a hf => ?_
    refine stP hf rfl rfl rfl (pA rfl) fun a hf => ?_
    refine stP hf rfl rfl rfl (pA rfl) fun a hf => ?_
    refine cNil ?_
    refine h2 _ _ ?_
    refine wp_seq_k fun K7 h7 => ?_
    refine wp_seq_k fun K8 h8 => ?_
    refine cReg ?_
    refine stP hf rfl rfl rfl (pM rfl) fun a hf => ?_
    refine stP hf rfl rfl rfl (pNe rfl rfl) fun a hf => ?_
    refine cNil ?_
    refine h8 _ _ ?_
    refine cCond (b := (r_1.2 != 0)) hf rfl (fun hb => ?_) (fun hb => ?_)
    · replace hF := condT hb hF
      clear hb
      refine wp_seq_k fun K9 h9 => ?_
      refine cReg ?_
      refine stP hf rfl rfl rfl (pM rfl) fun a hf => ?_
      refine stP hf rfl rfl rfl (pA rfl) fun a hf => ?_
      refine stP hf rfl rfl rfl (pA rfl) fun a hf => ?_
      refine cNil ?_
      refine h9 _ _ ?_
      refine wp_ret ?_
      refine xThenR ?_
      obtain rfl := Option.some.inj hF
      replace hc := hc.nilRow 91 2
      replace hc := hc.drop k3
      replace hc := hc.drop k2
      replace hc := hc.drop k1
      exact fnOut2 (by simp) rfl Try.results45 hf hc (show look _ 2 = _ from rfl) (show look _ 3 = _ from rfl) ⟨none, 0, rfl, hc⟩
    · replace hF := condF hb hF
      clear hb
      refine wp_skip ?_
      refine h7 _ _ ?_
      refine wp_seq_k fun K10 h10 => ?_
      refine cReg ?_
      refine stP hf rfl rfl rfl (pM rfl) fun a hf => ?_
      refine stP hf rfl rfl rfl (pNC rfl) fun a hf => ?_
      refine stP hf rfl rfl rfl (pFA fa_140_1 rfl) fun a hf => ?_
      refine stE hf hc rfl rfl rfl (eLd1 sc_44 rfl (cell_box m1 rfl)) fun a w hf hc => ?_
      obtain ⟨e_1, he_1, hF⟩ := bnd_some hF
      obtain ⟨g, rfl, qa, qr⟩ := row_atm hc m0 he_1
      refine stP hf rfl rfl rfl (pIA Try.underlying44 sz_50 rfl rfl qa) fun a hf => ?_
      refine stE hf hc rfl rfl rfl (eLdN (vs := [.int .i64 e_1.Lo, .int .i64 e_1.Hi]) ag_50 rfl rfl (cells_rw (sz := 2) (i := (0 : Int).toNat) m0 qr (n := 2) (o' := 0) rfl)) fun a w hf hc => ?_
      refine stP hf rfl rfl rfl (pBuildS (cells := [.int .i64 e_1.Lo, .int .i64 e_1.Hi, .int .i64 0, .int .i64 0]) bt_162 rfl rfl) fun a hf => ?_
      refine stAl (cs := [.int .i64 0, .int .i64 0, .int .i64 0, .int .i64 0]) hf hc rfl rfl zr_162 rfl fun b_3 a w hf hc => ?_
      refine stSt (vs := [.int .i64 e_1.Lo, .int .i64 e_1.Hi, .int .i64 0, .int .i64 0]) hf hc rfl rfl rfl rfl sz_162 rfl rfl u0 fun w hc => ?_
      refine cNil ?_
      refine h10 _ _ ?_
      refine wp_seq_k fun K11 h11 => ?_
      refine cReg ?_
      refine stP hf rfl rfl rfl (pA rfl) fun a hf => ?_
      refine cNil ?_
      refine h11 _ _ ?_
      refine wp_seq_k fun K12 h12 => ?_
      refine wp_seq_k fun K13 h13 => ?_
      refine cReg ?_
      refine stP hf rfl rfl rfl (pM rfl) fun a hf => ?_
      refine stP hf rfl rfl rfl (pNC rfl) fun a hf => ?_
      refine stP hf rfl rfl rfl (pFA fa_140_1 rfl) fun a hf => ?_
      refine stE hf hc rfl rfl rfl (eLd1 sc_44 rfl (cell_box m2 rfl)) fun a w hf hc => ?_
      refine stP hf rfl rfl rfl (pLenS Try.underlying44 rfl) fun a hf => ?_
      refine stP hf rfl rfl rfl (pM rfl) fun a hf => ?_
      refine cNil ?_
      refine h13 _ _ ?_
      refine wp_block ?_
      obtain ⟨x14, hx14, hF⟩ := bnd_some hF
      let S14 : ((List shift_Turn) × Int × Int × Int × Int × Int) → Act → World → Prop := (fun (zz : (List shift_Turn) × Int × Int × Int × Int × Int) a w => ∃ (p_2 : Option Addr) (c_2 : Nat), Has 105 a [(6, .pointer (some ⟨b_3, 0, none⟩)), (7, .slice p_2 zz.1.length c_2), (28, .slice (some ⟨g, 0, none⟩) r_1.1.length c_1), (29, .int .i64 ((r_1.1.length : Nat) : Int)), (30, .int .i64 zz.2.1)] ∧ Ctx G (.row p_2 c_2 (zz.1.map enc_shift_Turn) 91 2 :: .box b_3 [.int .i64 zz.2.2.1, .int .i64 zz.2.2.2.1, .int .i64 zz.2.2.2.2.1, .int .i64 zz.2.2.2.2.2] 162 :: .row (some ⟨g, 0, none⟩) c_1 (r_1.1.map enc_api_Span) 50 2 :: Lf) w)
      have hr14 : ∀ (zz : (List shift_Turn) × Int × Int × Int × Int × Int) a w, x14 = .go zz → S14 zz a w → K12 a w := by
        rintro ⟨out, x, x_1, x_2, x_3, x_4⟩ a w rfl ⟨p_2, c_2, hf, hc⟩
        replace hF := exK_go hF
        refine h12 _ _ ?_
        refine wp_seq_k fun K15 h15 => ?_
        refine cReg ?_
        refine stP hf rfl rfl rfl (pM rfl) fun a hf => ?_
        refine stP hf rfl rfl rfl (pA rfl) fun a hf => ?_
        refine stP hf rfl rfl rfl (pA rfl) fun a hf => ?_
        refine cNil ?_
        refine h15 _ _ ?_
        refine wp_ret ?_
        obtain rfl := Option.some.inj hF
        replace hc := hc.drop k2
        replace hc := hc.drop k1
        exact fnOut2 (by simp) rfl Try.results45 hf hc (show look _ 2 = _ from rfl) (show look _ 3 = _ from rfl) ⟨p_2, c_2, rfl, hc⟩
      have ho14 : ∀ r, x14 = .out r → r = res := by
        rintro r rfl
        exact Option.some.inj hF
      replace hc := hc.nilRow 91 2
      replace hc := hc.drop k4
      replace hc := hc.drop k3
      refine cLoop N (loopW (S := S14) (x := x14) ?_ N (([] : List shift_Turn), 0, e_1.Lo, e_1.Hi, 0, 0) _ _ ⟨none, 0, hf.keep ⟨rfl, rfl, rfl, rfl, rfl, trivial⟩, hc⟩ hx14)
      clear hF hf hc
      rintro ⟨out, x, x_1, x_2, x_3, x_4⟩ st14 a w KB14 ⟨p_2, c_2, hf, hc⟩ hF hfin14 hK14
      unfold shift_Zigzag_b14 at hF
      refine wp_seq_k fun K16 h16 => ?_
      refine cReg ?_
      refine stP hf rfl rfl rfl (pLt rfl rfl) fun a hf => ?_
      refine cNil ?_
      refine h16 _ _ ?_
      refine wp_seq_k fun K17 h17 => ?_
      refine cCond (b := (decide (x < ((r_1.1.length : Nat) : Int)))) hf rfl (fun hb => ?_) (fun hb => ?_)
      · replace hF := condT hb hF
        clear hb
        refine wp_skip ?_
        refine h17 _ _ ?_
        refine wp_seq_k fun K18 h18 => ?_
        have hj18 : ∀ (out_1 : List shift_Turn) (x_5 : Int) (x_6 : Int) (x_7 : Int) (x_8 : Int) (p_3 : Option Addr) (c_3 : Nat) a w, Has 105 a [(6, .pointer (some ⟨b_3, 0, none⟩)), (7, .slice p_3 out_1.length c_3), (28, .slice (some ⟨g, 0, none⟩) r_1.1.length c_1), (29, .int .i64 ((r_1.1.length : Nat) : Int)), (30, .int .i64 x)] → Ctx G (.row p_3 c_3 (out_1.map enc_shift_Turn) 91 2 :: .box b_3 [.int .i64 x_5, .int .i64 x_6, .int .i64 x_7, .int .i64 x_8] 162 :: .row (some ⟨g, 0, none⟩) c_1 (r_1.1.map enc_api_Span) 50 2 :: Lf) w → shift_Zigzag_j18 N x out_1 x_5 x_6 x_7 x_8 = some st14 → K18 a w := by
          repeat (clear hF)
          repeat (clear hc)
          repeat (clear hf)
          intro out_1 x_5 x_6 x_7 x_8 p_3 c_3 a w hf hc hF
          unfold shift_Zigzag_j18 at hF
          refine h18 _ _ ?_
          refine cReg ?_
          refine stP hf rfl rfl rfl (pAdd rfl rfl) fun a hf => ?_
          refine stP hf rfl rfl rfl (pM rfl) fun a hf => ?_
          refine cNil ?_
          exact hK14 (out_1, W (x + 1), x_5, x_6, x_7, x_8) _ _ (Option.some.inj hF).symm ⟨p_3, c_3, hf.keep ⟨rfl, rfl, rfl, rfl, rfl, trivial⟩, hc⟩
        refine wp_block ?_
        refine wp_seq_k fun K19 h19 => ?_
        refine cReg ?_
        refine stP hf rfl rfl rfl (pM rfl) fun a hf => ?_
        obtain ⟨e_2, he_2, hF⟩ := bnd_some hF
        obtain ⟨qa_1, qr_1⟩ := row_atk hc m2 he_2
        refine stP hf rfl rfl rfl (pIA Try.underlying44 sz_50 rfl rfl qa_1) fun a hf => ?_
        refine stE hf hc rfl rfl rfl (eLdN (vs := [.int .i64 e_2.Lo, .int .i64 e_2.Hi]) ag_50 rfl rfl (cells_rw (sz := 2) (i := x.toNat) m2 qr_1 (n := 2) (o' := 0) rfl)) fun a w hf hc => ?_
        refine stAl (cs := [.int .i64 0, .int .i64 0]) hf hc rfl rfl zr_50 rfl fun b_4 a w hf hc => ?_
        refine stP hf rfl rfl rfl (pA rfl) fun a hf => ?_
        refine stSt (vs := [.int .i64 e_2.Lo, .int .i64 e_2.Hi]) hf hc rfl rfl rfl rfl sz_50 rfl rfl u0 fun w hc => ?_
        refine cNil ?_
        refine h19 _ _ ?_
        refine wp_seq_k fun K20 h20 => ?_
        refine wp_block ?_
        refine wp_seq_k fun K21 h21 => ?_
        refine cReg ?_
        refine stP hf rfl rfl rfl (pFA fa_50_0 rfl) fun a hf => ?_
        refine stE hf hc rfl rfl rfl (eLd1 sc_3 rfl (cell_box m0 rfl)) fun a w hf hc => ?_
        refine stP hf rfl rfl rfl (pFA fa_162_0 rfl) fun a hf => ?_
        refine stP hf rfl rfl rfl (pFA fa_50_1 rfl) fun a hf => ?_
        refine stE hf hc rfl rfl rfl (eLd1 sc_3 rfl (cell_box m2 rfl)) fun a w hf hc => ?_
        refine stP hf rfl rfl rfl (pGt rfl rfl) fun a hf => ?_
        refine stP hf rfl rfl rfl (pA rfl) fun a hf => ?_
        refine cNil ?_
        refine h21 _ _ ?_
        refine cCond (b := (decide (x_2 < e_2.Lo))) hf rfl (fun hb => ?_) (fun hb => ?_)
        · replace hF := condT hb hF
          clear hb
          refine wp_seq_k fun K22 h22 => ?_
          refine cReg ?_
          refine stP hf rfl rfl rfl (pM rfl) fun a hf => ?_
          refine stP hf rfl rfl rfl (pFA fa_162_2 rfl) fun a hf => ?_
          refine stE hf hc rfl rfl rfl (eLd1 sc_3 rfl (cell_box m2 rfl)) fun a w hf hc => ?_
          refine stP hf rfl rfl rfl (pBuildS (cells := [.int .i64 x_4, .bool true]) bt_91 rfl rfl) fun a hf => ?_
          refine stP hf rfl rfl rfl (pM rfl) fun a hf => ?_
          refine stP hf rfl rfl rfl (pBuildS (cells := [.int .i64 x, .bool false]) bt_91 rfl rfl) fun a hf => ?_
          obtain ⟨r_2, hr_2, hF⟩ := bnd_some hF
          refine stC (vs := [.slice p_2 out.length c_2, .agg #[.int .i64 x_4, .bool true], .agg #[.int .i64 x, .bool false]]) (caps := []) hf rfl rfl rfl en_88 rfl rfl rfl rfl (shift_turned_ok out (⟨x_4, true⟩ : shift_Turn) (⟨x, false⟩ : shift_Turn) (hc.pick k1) hr_2) ?_
          rintro _ w ⟨p_4, c_4, rfl, hc⟩
          refine ⟨_, rfl, fun a hf => ?_⟩
          refine stP hf rfl rfl rfl (pA rfl) fun a hf => ?_
          refine cNil ?_
          refine h22 _ _ ?_
          refine wp_seq_k fun K23 h23 => ?_
          refine cReg ?_
          refine stP hf rfl rfl rfl (pFA fa_50_0 rfl) fun a hf => ?_
          refine stE hf hc rfl rfl rfl (eLd1 sc_3 rfl (cell_box m1 rfl)) fun a w hf hc => ?_
          refine stP hf rfl rfl rfl (pFA fa_50_0 rfl) fun a hf => ?_
          refine stE hf hc rfl rfl rfl (eLd1 sc_3 rfl (cell_box m1 rfl)) fun a w hf hc => ?_
          refine stP hf rfl rfl rfl (pBuildS (cells := [.int .i64 e_2.Lo, .int .i64 e_2.Lo]) bt_50 rfl rfl) fun a hf => ?_
          refine stP hf rfl rfl rfl (pM rfl) fun a hf => ?_
          refine stP hf rfl rfl rfl (pM rfl) fun a hf => ?_
          refine stP hf rfl rfl rfl (pBuildS (cells := [.int .i64 e_2.Lo, .int .i64 e_2.Lo, .int .i64 x, .int .i64 x]) bt_162 rfl rfl) fun a hf => ?_
          refine stSt (vs := [.int .i64 e_2.Lo, .int .i64 e_2.Lo, .int .i64 x, .int .i64 x]) hf hc rfl rfl rfl rfl sz_162 rfl rfl u2 fun w hc => ?_
          refine cNil ?_
          refine h23 _ _ ?_
          refine wp_exit ?_
          refine cMiss rfl ?_
          refine xThen ?_
          refine cHit ?_
          replace hc := hc.drop k1
          exact hj18 r_2 e_2.Lo e_2.Lo x x p_4 c_4 _ _  (hf.keep ⟨rfl, rfl, rfl, rfl, rfl, trivial⟩) hc hF
        · replace hF := condF hb hF
          clear hb
          refine wp_seq_k fun K24 h24 => ?_
          refine cReg ?_
          refine stP hf rfl rfl rfl (pFA fa_50_1 rfl) fun a hf => ?_
          refine stE hf hc rfl rfl rfl (eLd1 sc_3 rfl (cell_box m0 rfl)) fun a w hf hc => ?_
          refine stP hf rfl rfl rfl (pFA fa_162_0 rfl) fun a hf => ?_
          refine stP hf rfl rfl rfl (pFA fa_50_0 rfl) fun a hf => ?_
          refine stE hf hc rfl rfl rfl (eLd1 sc_3 rfl (cell_box m2 rfl)) fun a w hf hc => ?_
          refine stP hf rfl rfl rfl (pLt rfl rfl) fun a hf => ?_
          refine stP hf rfl rfl rfl (pA rfl) fun a hf => ?_
          refine cNil ?_
          refine h24 _ _ ?_
          refine cCond (b := (decide (e_2.Hi < x_1))) hf rfl (fun hb => ?_) (fun hb => ?_)
          · replace hF := condT hb hF
            clear hb
            refine wp_seq_k fun K25 h25 => ?_
            refine cReg ?_
            refine stP hf rfl rfl rfl (pM rfl) fun a hf => ?_
            refine stP hf rfl rfl rfl (pFA fa_162_1 rfl) fun a hf => ?_
            refine stE hf hc rfl rfl rfl (eLd1 sc_3 rfl (cell_box m2 rfl)) fun a w hf hc => ?_
            refine stP hf rfl rfl rfl (pBuildS (cells := [.int .i64 x_3, .bool false]) bt_91 rfl rfl) fun a hf => ?_
            refine stP hf rfl rfl rfl (pM rfl) fun a hf => ?_
            refine stP hf rfl rfl rfl (pBuildS (cells := [.int .i64 x, .bool true]) bt_91 rfl rfl) fun a hf => ?_
            obtain ⟨r_3, hr_3, hF⟩ := bnd_some hF
            refine stC (vs := [.slice p_2 out.length c_2, .agg #[.int .i64 x_3, .bool false], .agg #[.int .i64 x, .bool true]]) (caps := []) hf rfl rfl rfl en_88 rfl rfl rfl rfl (shift_turned_ok out (⟨x_3, false⟩ : shift_Turn) (⟨x, true⟩ : shift_Turn) (hc.pick k1) hr_3) ?_
            rintro _ w ⟨p_5, c_5, rfl, hc⟩
            refine ⟨_, rfl, fun a hf => ?_⟩
            refine stP hf rfl rfl rfl (pA rfl) fun a hf => ?_
            refine cNil ?_
            refine h25 _ _ ?_
            refine wp_seq_k fun K26 h26 => ?_
            refine cReg ?_
            refine stP hf rfl rfl rfl (pFA fa_50_1 rfl) fun a hf => ?_
            refine stE hf hc rfl rfl rfl (eLd1 sc_3 rfl (cell_box m1 rfl)) fun a w hf hc => ?_
            refine stP hf rfl rfl rfl (pFA fa_50_1 rfl) fun a hf => ?_
            refine stE hf hc rfl rfl rfl (eLd1 sc_3 rfl (cell_box m1 rfl)) fun a w hf hc => ?_
            refine stP hf rfl rfl rfl (pBuildS (cells := [.int .i64 e_2.Hi, .int .i64 e_2.Hi]) bt_50 rfl rfl) fun a hf => ?_
            refine stP hf rfl rfl rfl (pM rfl) fun a hf => ?_
            refine stP hf rfl rfl rfl (pM rfl) fun a hf => ?_
            refine stP hf rfl rfl rfl (pBuildS (cells := [.int .i64 e_2.Hi, .int .i64 e_2.Hi, .int .i64 x, .int .i64 x]) bt_162 rfl rfl) fun a hf => ?_
            refine stSt (vs := [.int .i64 e_2.Hi, .int .i64 e_2.Hi, .int .i64 x, .int .i64 x]) hf hc rfl rfl rfl rfl sz_162 rfl rfl u2 fun w hc => ?_
            refine cNil ?_
            refine h26 _ _ ?_
            refine wp_exit ?_
            refine cMiss rfl ?_
            refine xThen ?_
            refine cHit ?_
            replace hc := hc.drop k1
            exact hj18 r_3 e_2.Hi e_2.Hi x x p_5 c_5 _ _  (hf.keep ⟨rfl, rfl, rfl, rfl, rfl, trivial⟩) hc hF
          · replace hF := condF hb hF
            clear hb
            refine wp_skip ?_
            refine h20 _ _ ?_
            refine wp_seq_k fun K27 h27 => ?_
            have hj27 : ∀ (x_9 : Int) (x_10 : Int) a w, Has 105 a [(6, .pointer (some ⟨b_3, 0, none⟩)), (7, .slice p_2 out.length c_2), (8, .int .i64 x), (9, .pointer (some ⟨b_4, 0, none⟩)), (28, .slice (some ⟨g, 0, none⟩) r_1.1.length c_1), (29, .int .i64 ((r_1.1.length : Nat) : Int)), (30, .int .i64 x)] → Ctx G (.box b_4 [.int .i64 e_2.Lo, .int .i64 e_2.Hi] 50 :: .row p_2 c_2 (out.map enc_shift_Turn) 91 2 :: .box b_3 [.int .i64 x_9, .int .i64 x_2, .int .i64 x_10, .int .i64 x_4] 162 :: .row (some ⟨g, 0, none⟩) c_1 (r_1.1.map enc_api_Span) 50 2 :: Lf) w → shift_Zigzag_j27 N out x x_2 x_4 e_2 x_9 x_10 = some st14 → K27 a w := by
              repeat (clear hF)
              repeat (clear hc)
              repeat (clear hf)
              intro x_9 x_10 a w hf hc hF
              unfold shift_Zigzag_j27 at hF
              refine h27 _ _ ?_
              refine wp_seq_k fun K28 h28 => ?_
              refine cReg ?_
              refine stP hf rfl rfl rfl (pFA fa_50_1 rfl) fun a hf => ?_
              refine stE hf hc rfl rfl rfl (eLd1 sc_3 rfl (cell_box m0 rfl)) fun a w hf hc => ?_
              refine stP hf rfl rfl rfl (pFA fa_162_0 rfl) fun a hf => ?_
              refine stP hf rfl rfl rfl (pFA fa_50_1 rfl) fun a hf => ?_
              refine stE hf hc rfl rfl rfl (eLd1 sc_3 rfl (cell_box m2 rfl)) fun a w hf hc => ?_
              refine stP hf rfl rfl rfl (pLt rfl rfl) fun a hf => ?_
              refine cNil ?_
              refine h28 _ _ ?_
              refine cCond (b := (decide (e_2.Hi < x_2))) hf rfl (fun hb => ?_) (fun hb => ?_)
              · replace hF := condT hb hF
                clear hb
                refine cReg ?_
                refine stP hf rfl rfl rfl (pFA fa_50_1 rfl) fun a hf => ?_
                refine stE hf hc rfl rfl rfl (eLd1 sc_3 rfl (cell_box m0 rfl)) fun a w hf hc => ?_
                refine stP hf rfl rfl rfl (pM rfl) fun a hf => ?_
                refine stP hf rfl rfl rfl (pFA fa_162_0 rfl) fun a hf => ?_
                refine stP hf rfl rfl rfl (pFA fa_50_1 rfl) fun a hf => ?_
                refine stSt (vs := [.int .i64 e_2.Hi]) hf hc rfl rfl rfl rfl sz_3 rfl rfl u2 fun w hc => ?_
                refine stP hf rfl rfl rfl (pFA fa_162_2 rfl) fun a hf => ?_
                refine stSt (vs := [.int .i64 x]) hf hc rfl rfl rfl rfl sz_3 rfl rfl u2 fun w hc => ?_
                refine cNil ?_
                replace hc := hc.drop k0
                exact hj18 out x_9 e_2.Hi x_10 x p_2 c_2 _ _  (hf.keep ⟨rfl, rfl, rfl, rfl, rfl, trivial⟩) hc hF
              · replace hF := condF hb hF
                clear hb
                refine wp_skip ?_
                replace hc := hc.drop k0
                exact hj18 out x_9 x_2 x_10 x_4 p_2 c_2 _ _  (hf.keep ⟨rfl, rfl, rfl, rfl, rfl, trivial⟩) hc hF
            refine wp_seq_k fun K29 h29 => ?_
            refine cReg ?_
            refine stP hf rfl rfl rfl (pFA fa_50_0 rfl) fun a hf => ?_
            refine stE hf hc rfl rfl rfl (eLd1 sc_3 rfl (cell_box m0 rfl)) fun a w hf hc => ?_
            refine stP hf rfl rfl rfl (pFA fa_162_0 rfl) fun a hf => ?_
            refine stP hf rfl rfl rfl (pFA fa_50_0 rfl) fun a hf => ?_
            refine stE hf hc rfl rfl rfl (eLd1 sc_3 rfl (cell_box m2 rfl)) fun a w hf hc => ?_
            refine stP hf rfl rfl rfl (pGt rfl rfl) fun a hf => ?_
            refine cNil ?_
            refine h29 _ _ ?_
            refine cCond (b := (decide (x_1 < e_2.Lo))) hf rfl (fun hb => ?_) (fun hb => ?_)
            · replace hF := condT hb hF
              clear hb
              refine cReg ?_
              refine stP hf rfl rfl rfl (pFA fa_50_0 rfl) fun a hf => ?_
              refine stE hf hc rfl rfl rfl (eLd1 sc_3 rfl (cell_box m0 rfl)) fun a w hf hc => ?_
              refine stP hf rfl rfl rfl (pM rfl) fun a hf => ?_
              refine stP hf rfl rfl rfl (pFA fa_162_0 rfl) fun a hf => ?_
              refine stP hf rfl rfl rfl (pFA fa_50_0 rfl) fun a hf => ?_
              refine stSt (vs := [.int .i64 e_2.Lo]) hf hc rfl rfl rfl rfl sz_3 rfl rfl u2 fun w hc => ?_
              refine stP hf rfl rfl rfl (pFA fa_162_1 rfl) fun a hf => ?_
              refine stSt (vs := [.int .i64 x]) hf hc rfl rfl rfl rfl sz_3 rfl rfl u2 fun w hc => ?_
              refine cNil ?_
              exact hj27 e_2.Lo x _ _  (hf.keep ⟨rfl, rfl, rfl, rfl, rfl, rfl, rfl, trivial⟩) hc hF
            · replace hF := condF hb hF
              clear hb
              refine wp_skip ?_
              exact hj27 x_1 x_3 _ _  (hf.keep ⟨rfl, rfl, rfl, rfl, rfl, rfl, rfl, trivial⟩) hc hF
      · replace hF := condF hb hF
        clear hb
        refine wp_exit ?_
        refine xThen ?_
        refine xThen ?_
        have he := Option.some.inj hF
        rw [← he] at hfin14
        refine cHit ?_
        exact hr14 _ _ _ hfin14 ⟨p_2, c_2, hf.keep ⟨rfl, rfl, rfl, rfl, rfl, trivial⟩, hc⟩

def shift_Proves_1 (t_ : shift_Turn) (x : shift_Record) : Bool :=
  (shift_in t_.Gauging 0 (W (((x.Gaugings.length : Nat) : Int) - 1)))
theorem shift_Proves_1_ok {G : Pers} {Lf : List Ent} {w : World} (t_ : shift_Turn) (x : shift_Record) {b_ : Nat} {x_Rating_p : Option Addr} {x_Rating_c : Nat} {x_Gaugings_p : Option Addr} {x_Gaugings_c : Nat} (h_x_Rating : Rd G 2 x_Rating_p x_Rating_c (x.Rating.map enc_shift_Mark)) (h_x_Gaugings : Rd G 4 x_Gaugings_p x_Gaugings_c (x.Gaugings.map enc_shift_Gauging)) (hc : Ctx G (.box b_ [.slice x_Rating_p x.Rating.length x_Rating_c, .slice x_Gaugings_p x.Gaugings.length x_Gaugings_c] 25 :: Lf) w) {res : Bool} (hF : shift_Proves_1 t_ x = res) : Calls Try.prog 90 #[.agg #[.int .i64 t_.Gauging, .bool t_.Up], .pointer (some ⟨b_, 0, none⟩)] w (fun e w => e = .returned (.bool res) ∧ Ctx G (.box b_ [.slice x_Rating_p x.Rating.length x_Rating_c, .slice x_Gaugings_p x.Gaugings.length x_Gaugings_c] 25 :: Lf) w) := by
  unfold shift_Proves_1 at hF
  refine fnIn (args := [.agg #[.int .i64 t_.Gauging, .bool t_.Up], .pointer (some ⟨b_, 0, none⟩)]) Try.func90 rfl Try.ntmps90 rfl fun a hf => ?_
  refine wp_seq_k fun K1 h1 => ?_
  refine cReg ?_
  refine stBx (cs := [.int .i64 t_.Gauging, .bool t_.Up]) hf hc rfl rfl rfl rfl fun b_1 a w hf hc => ?_
  refine stP hf rfl rfl rfl (pA rfl) fun a hf => ?_
  refine cNil ?_
  refine h1 _ _ ?_
  refine wp_seq_k fun K2 h2 => ?_
  refine cReg ?_
  refine stP hf rfl rfl rfl (pFA fa_91_0 rfl) fun a hf => ?_
  refine stE hf hc rfl rfl rfl (eLd1 sc_3 rfl (cell_box m0 rfl)) fun a w hf hc => ?_
  refine stP hf rfl rfl rfl (pFA fa_25_1 rfl) fun a hf => ?_
  refine stE hf hc rfl rfl rfl (eLd1 sc_23 rfl (cell_box m1 rfl)) fun a w hf hc => ?_
  refine stP hf rfl rfl rfl (pLenS Try.underlying23 rfl) fun a hf => ?_
  refine stP hf rfl rfl rfl (pSub rfl rfl) fun a hf => ?_
  refine stE hf hc rfl rfl rfl (eC (v := .bool (shift_in t_.Gauging 0 (W (((x.Gaugings.length : Nat) : Int) - 1)))) (vs := [.int .i64 t_.Gauging, .int .i64 0, .int .i64 (W (((x.Gaugings.length : Nat) : Int) - 1))]) (caps := []) en_59 rfl rfl rfl rfl (fun w hc => shift_in_ok t_.Gauging 0 (W (((x.Gaugings.length : Nat) : Int) - 1)) hc rfl)) fun a w hf hc => ?_
  refine stP hf rfl rfl rfl (pA rfl) fun a hf => ?_
  refine cNil ?_
  refine h2 _ _ ?_
  refine wp_ret ?_
  obtain rfl := hF
  replace hc := hc.drop k0
  exact fnOut1 (by simp) rfl Try.results90 hf hc (show look _ 3 = _ from rfl) ⟨rfl, hc⟩

def shift_every_shift_Turn_1 (x : shift_Turn) (x_1 : shift_Record) : Bool :=
  (!(shift_Proves_1 x x_1))
theorem shift_every_shift_Turn_1_ok {G : Pers} {Lf : List Ent} {w : World} (x : shift_Turn) (x_1 : shift_Record) {b_ : Nat} {b__1 : Nat} {x_1_Rating_p : Option Addr} {x_1_Rating_c : Nat} {x_1_Gaugings_p : Option Addr} {x_1_Gaugings_c : Nat} (h_x_1_Rating : Rd G 2 x_1_Rating_p x_1_Rating_c (x_1.Rating.map enc_shift_Mark)) (h_x_1_Gaugings : Rd G 4 x_1_Gaugings_p x_1_Gaugings_c (x_1.Gaugings.map enc_shift_Gauging)) (hc : Ctx G (.box b_ [.func (.func 90) #[] #[.pointer (some ⟨b__1, 0, none⟩)]] 165 :: .box b__1 [.slice x_1_Rating_p x_1.Rating.length x_1_Rating_c, .slice x_1_Gaugings_p x_1.Gaugings.length x_1_Gaugings_c] 25 :: Lf) w) {res : Bool} (hF : shift_every_shift_Turn_1 x x_1 = res) : Calls Try.prog 118 #[.agg #[.int .i64 x.Gauging, .bool x.Up], .pointer (some ⟨b_, 0, none⟩)] w (fun e w => e = .returned (.bool res) ∧ Ctx G (.box b_ [.func (.func 90) #[] #[.pointer (some ⟨b__1, 0, none⟩)]] 165 :: .box b__1 [.slice x_1_Rating_p x_1.Rating.length x_1_Rating_c, .slice x_1_Gaugings_p x_1.Gaugings.length x_1_Gaugings_c] 25 :: Lf) w) := by
  unfold shift_every_shift_Turn_1 at hF
  refine fnIn (args := [.agg #[.int .i64 x.Gauging, .bool x.Up], .pointer (some ⟨b_, 0, none⟩)]) Try.func118 rfl Try.ntmps118 rfl fun a hf => ?_
  refine wp_seq_k fun K1 h1 => ?_
  refine cReg ?_
  refine stBx (cs := [.int .i64 x.Gauging, .bool x.Up]) hf hc rfl rfl rfl rfl fun b_1 a w hf hc => ?_
  refine stP hf rfl rfl rfl (pA rfl) fun a hf => ?_
  refine cNil ?_
  refine h1 _ _ ?_
  refine wp_seq_k fun K2 h2 => ?_
  refine cReg ?_
  refine stE hf hc rfl rfl rfl (eLd1 sc_165 rfl (cell_box m1 rfl)) fun a w hf hc => ?_
  refine stE hf hc rfl rfl rfl (eLdN (vs := [.int .i64 x.Gauging, .bool x.Up]) ag_91 rfl rfl (cells_box (n := 2) m0 rfl)) fun a w hf hc => ?_
  refine stE hf hc rfl rfl rfl (eC (v := .bool (shift_Proves_1 x x_1)) (vs := [.agg #[.int .i64 x.Gauging, .bool x.Up]]) (caps := [.pointer (some ⟨b__1, 0, none⟩)]) en_90 rfl rfl rfl rfl (fun w hc => (shift_Proves_1_ok x x_1 h_x_1_Rating h_x_1_Gaugings (hc.pick k2) rfl).mono fun e w h => ⟨h.1, (h.2.unpick k2)⟩)) fun a w hf hc => ?_
  refine stP hf rfl rfl rfl (pNot rfl) fun a hf => ?_
  refine stP hf rfl rfl rfl (pA rfl) fun a hf => ?_
  refine cNil ?_
  refine h2 _ _ ?_
  refine wp_ret ?_
  obtain rfl := hF
  replace hc := hc.drop k0
  exact fnOut1 (by simp) rfl Try.results118 hf hc (show look _ 3 = _ from rfl) ⟨rfl, hc⟩

def slices_IndexFunc_Lshift_Turn_shift_Turn_b4 (N : Nat) (s_ : List shift_Turn) (f_ : shift_Record) (x : Int) : Option (Step (Int) (Int)) :=
  cond (decide (x < ((s_.length : Nat) : Int)))
  (Option.bind (getI s_ x) fun e_1 =>
  cond (shift_every_shift_Turn_1 e_1 f_)
  (some (.ret x))
  (some (.cont (W (x + 1)))))
  (some (.brk x))
def slices_IndexFunc_Lshift_Turn_shift_Turn (N : Nat) (s_ : List shift_Turn) (f_ : shift_Record) : Option (Int) :=
  Option.bind (loopO (fun s4 => slices_IndexFunc_Lshift_Turn_shift_Turn_b4 N s_ f_ s4) N 0) fun x4 =>
  exK x4 (fun s4 => some (-1)) some
theorem slices_IndexFunc_Lshift_Turn_shift_Turn_ok {N : Nat} {G : Pers} {Lf : List Ent} {w : World} (s_ : List shift_Turn) (f_ : shift_Record) {s__p : Option Addr} {s__c : Nat} {b_ : Nat} {b__1 : Nat} {f__Rating_p : Option Addr} {f__Rating_c : Nat} {f__Gaugings_p : Option Addr} {f__Gaugings_c : Nat} (h_s_ : Rd G 2 s__p s__c (s_.map enc_shift_Turn)) (h_f__Rating : Rd G 2 f__Rating_p f__Rating_c (f_.Rating.map enc_shift_Mark)) (h_f__Gaugings : Rd G 4 f__Gaugings_p f__Gaugings_c (f_.Gaugings.map enc_shift_Gauging)) (hc : Ctx G (.box b_ [.func (.func 90) #[] #[.pointer (some ⟨b__1, 0, none⟩)]] 165 :: .box b__1 [.slice f__Rating_p f_.Rating.length f__Rating_c, .slice f__Gaugings_p f_.Gaugings.length f__Gaugings_c] 25 :: Lf) w) {res : Int} (hF : slices_IndexFunc_Lshift_Turn_shift_Turn N s_ f_ = some res) : Calls Try.prog 142 #[.slice s__p s_.length s__c, .func (.func 118) #[] #[.pointer (some ⟨b_, 0, none⟩)]] w (fun e w => e = .returned (.int .i64 res) ∧ Ctx G (.box b_ [.func (.func 90) #[] #[.pointer (some ⟨b__1, 0, none⟩)]] 165 :: .box b__1 [.slice f__Rating_p f_.Rating.length f__Rating_c, .slice f__Gaugings_p f_.Gaugings.length f__Gaugings_c] 25 :: Lf) w) := by
  unfold slices_IndexFunc_Lshift_Turn_shift_Turn at hF
  refine fnIn (args := [.slice s__p s_.length s__c, .func (.func 118) #[] #[.pointer (some ⟨b_, 0, none⟩)]]) Try.func142 rfl Try.ntmps142 rfl fun a hf => ?_
  refine wp_seq_k fun K1 h1 => ?_
  refine cReg ?_
  refine stP hf rfl rfl rfl (pA rfl) fun a hf => ?_
  refine cNil ?_
  refine h1 _ _ ?_
  refine wp_seq_k fun K2 h2 => ?_
  refine wp_seq_k fun K3 h3 => ?_
  refine cReg ?_
  refine stP hf rfl rfl rfl (pM rfl) fun a hf => ?_
  refine stP hf rfl rfl rfl (pLenS Try.underlying87 rfl) fun a hf => ?_
  refine stP hf rfl rfl rfl (pM rfl) fun a hf => ?_
  refine cNil ?_
  refine h3 _ _ ?_
  refine wp_block ?_
  obtain ⟨x4, hx4, hF⟩ := bnd_some hF
  let S4 : Int → Act → World → Prop := (fun (zz : Int) a w => Has 19 a [(0, .slice s__p s_.length s__c), (1, .func (.func 118) #[] #[.pointer (some ⟨b_, 0, none⟩)]), (7, .int .i64 ((s_.length : Nat) : Int)), (8, .int .i64 zz)] ∧ Ctx G (.box b_ [.func (.func 90) #[] #[.pointer (some ⟨b__1, 0, none⟩)]] 165 :: .box b__1 [.slice f__Rating_p f_.Rating.length f__Rating_c, .slice f__Gaugings_p f_.Gaugings.length f__Gaugings_c] 25 :: Lf) w)
  have hr4 : ∀ (zz : Int) a w, x4 = .go zz → S4 zz a w → K2 a w := by
    rintro x a w rfl ⟨hf, hc⟩
    replace hF := exK_go hF
    refine h2 _ _ ?_
    refine wp_seq_k fun K5 h5 => ?_
    refine cReg ?_
    refine stP hf rfl rfl rfl (pA rfl) fun a hf => ?_
    refine cNil ?_
    refine h5 _ _ ?_
    refine wp_ret ?_
    obtain rfl := Option.some.inj hF
    exact fnOut1 (by simp) rfl Try.results142 hf hc (show look _ 4 = _ from rfl) ⟨rfl, hc⟩
  have ho4 : ∀ r, x4 = .out r → r = res := by
    rintro r rfl
    exact Option.some.inj hF
  refine cLoop N (loopW (S := S4) (x := x4) ?_ N 0 _ _ ⟨hf.keep ⟨rfl, rfl, rfl, rfl, trivial⟩, hc⟩ hx4)
  clear hF hf hc
  rintro x st4 a w KB4 ⟨hf, hc⟩ hF hfin4 hK4
  unfold slices_IndexFunc_Lshift_Turn_shift_Turn_b4 at hF
  refine wp_seq_k fun K6 h6 => ?_
  refine cReg ?_
  refine stP hf rfl rfl rfl (pLt rfl rfl) fun a hf => ?_
  refine cNil ?_
  refine h6 _ _ ?_
  refine wp_seq_k fun K7 h7 => ?_
  refine cCond (b := (decide (x < ((s_.length : Nat) : Int)))) hf rfl (fun hb => ?_) (fun hb => ?_)
  · replace hF := condT hb hF
    clear hb
    refine wp_skip ?_
    refine h7 _ _ ?_
    refine wp_seq_k fun K8 h8 => ?_
    refine wp_block ?_
    refine wp_seq_k fun K9 h9 => ?_
    refine cReg ?_
    refine stP hf rfl rfl rfl (pM rfl) fun a hf => ?_
    refine stP hf rfl rfl rfl (pA rfl) fun a hf => ?_
    refine cNil ?_
    refine h9 _ _ ?_
    refine wp_seq_k fun K10 h10 => ?_
    refine cReg ?_
    refine stP hf rfl rfl rfl (pM rfl) fun a hf => ?_
    refine stP hf rfl rfl rfl (pM rfl) fun a hf => ?_
    refine stP hf rfl rfl rfl (pM rfl) fun a hf => ?_
    obtain ⟨e_1, he_1, hF⟩ := bnd_some hF
    obtain ⟨b_1, o, qa, qp⟩ := h_s_.atm he_1
    refine stP hf rfl rfl rfl (pIA Try.underlying87 sz_91 rfl rfl qa) fun a hf => ?_
    refine stE hf hc rfl rfl rfl (eLdN (vs := [.int .i64 e_1.Gauging, .bool e_1.Up]) ag_91 rfl rfl (cells_pc qp (n := 2) (o' := 0) rfl)) fun a w hf hc => ?_
    refine stE hf hc rfl rfl rfl (eC (v := .bool (shift_every_shift_Turn_1 e_1 f_)) (vs := [.agg #[.int .i64 e_1.Gauging, .bool e_1.Up]]) (caps := [.pointer (some ⟨b_, 0, none⟩)]) en_118 rfl rfl rfl rfl (fun w hc => (shift_every_shift_Turn_1_ok e_1 f_ h_f__Rating h_f__Gaugings ((hc.pick k1).pick k1) rfl).mono fun e w h => ⟨h.1, ((h.2.unpick k1).unpick k1)⟩)) fun a w hf hc => ?_
    refine cNil ?_
    refine h10 _ _ ?_
    refine cCond (b := (shift_every_shift_Turn_1 e_1 f_)) hf rfl (fun hb => ?_) (fun hb => ?_)
    · replace hF := condT hb hF
      clear hb
      refine wp_seq_k fun K11 h11 => ?_
      refine cReg ?_
      refine stP hf rfl rfl rfl (pM rfl) fun a hf => ?_
      refine stP hf rfl rfl rfl (pA rfl) fun a hf => ?_
      refine cNil ?_
      refine h11 _ _ ?_
      refine wp_ret ?_
      refine xBlkR ?_
      refine xThenR ?_
      refine xThenR ?_
      have he := Option.some.inj hF
      rw [← he] at hfin4
      replace hF := ho4 _ hfin4
      refine xBlkR ?_
      refine xThenR ?_
      obtain rfl := hF
      exact fnOut1 (by simp) rfl Try.results142 hf hc (show look _ 4 = _ from rfl) ⟨rfl, hc⟩
    · replace hF := condF hb hF
      clear hb
      refine wp_skip ?_
      refine h8 _ _ ?_
      refine cReg ?_
      refine stP hf rfl rfl rfl (pAdd rfl rfl) fun a hf => ?_
      refine stP hf rfl rfl rfl (pM rfl) fun a hf => ?_
      refine cNil ?_
      exact hK4 (W (x + 1)) _ _ (Option.some.inj hF).symm ⟨hf.keep ⟨rfl, rfl, rfl, rfl, trivial⟩, hc⟩
  · replace hF := condF hb hF
    clear hb
    refine wp_exit ?_
    refine xThen ?_
    refine xThen ?_
    have he := Option.some.inj hF
    rw [← he] at hfin4
    refine cHit ?_
    exact hr4 _ _ _ hfin4 ⟨hf.keep ⟨rfl, rfl, rfl, rfl, trivial⟩, hc⟩

def slices_ContainsFunc_Lshift_Turn_shift_Turn (N : Nat) (s_ : List shift_Turn) (f_ : shift_Record) : Option (Bool) :=
  Option.bind (slices_IndexFunc_Lshift_Turn_shift_Turn N s_ f_) fun r =>
  some (decide (0 ≤ r))
theorem slices_ContainsFunc_Lshift_Turn_shift_Turn_ok {N : Nat} {G : Pers} {Lf : List Ent} {w : World} (s_ : List shift_Turn) (f_ : shift_Record) {s__p : Option Addr} {s__c : Nat} {b_ : Nat} {b__1 : Nat} {f__Rating_p : Option Addr} {f__Rating_c : Nat} {f__Gaugings_p : Option Addr} {f__Gaugings_c : Nat} (h_s_ : Rd G 2 s__p s__c (s_.map enc_shift_Turn)) (h_f__Rating : Rd G 2 f__Rating_p f__Rating_c (f_.Rating.map enc_shift_Mark)) (h_f__Gaugings : Rd G 4 f__Gaugings_p f__Gaugings_c (f_.Gaugings.map enc_shift_Gauging)) (hc : Ctx G (.box b_ [.func (.func 90) #[] #[.pointer (some ⟨b__1, 0, none⟩)]] 165 :: .box b__1 [.slice f__Rating_p f_.Rating.length f__Rating_c, .slice f__Gaugings_p f_.Gaugings.length f__Gaugings_c] 25 :: Lf) w) {res : Bool} (hF : slices_ContainsFunc_Lshift_Turn_shift_Turn N s_ f_ = some res) : Calls Try.prog 117 #[.slice s__p s_.length s__c, .func (.func 118) #[] #[.pointer (some ⟨b_, 0, none⟩)]] w (fun e w => e = .returned (.bool res) ∧ Ctx G (.box b_ [.func (.func 90) #[] #[.pointer (some ⟨b__1, 0, none⟩)]] 165 :: .box b__1 [.slice f__Rating_p f_.Rating.length f__Rating_c, .slice f__Gaugings_p f_.Gaugings.length f__Gaugings_c] 25 :: Lf) w) := by
  unfold slices_ContainsFunc_Lshift_Turn_shift_Turn at hF
  refine fnIn (args := [.slice s__p s_.length s__c, .func (.func 118) #[] #[.pointer (some ⟨b_, 0, none⟩)]]) Try.func117 rfl Try.ntmps117 rfl fun a hf => ?_
  refine wp_seq_k fun K1 h1 => ?_
  refine cReg ?_
  refine stP hf rfl rfl rfl (pA rfl) fun a hf => ?_
  refine cNil ?_
  refine h1 _ _ ?_
  refine wp_seq_k fun K2 h2 => ?_
  refine cReg ?_
  refine stP hf rfl rfl rfl (pM rfl) fun a hf => ?_
  refine stP hf rfl rfl rfl (pM rfl) fun a hf => ?_
  obtain ⟨r, hr, hF⟩ := bnd_some hF
  refine stE hf hc rfl rfl rfl (eC (v := .int .i64 r) (vs := [.slice s__p s_.length s__c, .func (.func 118) #[] #[.pointer (some ⟨b_, 0, none⟩)]]) (caps := []) en_142 rfl rfl rfl rfl (fun w hc => (slices_IndexFunc_Lshift_Turn_shift_Turn_ok s_ f_ h_s_ h_f__Rating h_f__Gaugings ((hc.pick k1).pick k1) hr).mono fun e w h => ⟨h.1, ((h.2.unpick k1).unpick k1)⟩)) fun a w hf hc => ?_
  refine stP hf rfl rfl rfl (pGe rfl rfl) fun a hf => ?_
  refine stP hf rfl rfl rfl (pA rfl) fun a hf => ?_
  refine cNil ?_
  refine h2 _ _ ?_
  refine wp_ret ?_
  obtain rfl := Option.some.inj hF
  exact fnOut1 (by simp) rfl Try.results117 hf hc (show look _ 4 = _ from rfl) ⟨rfl, hc⟩

def shift_every_shift_Turn (N : Nat) (l : List shift_Turn) (so : shift_Record) : Option (Bool) :=
  Option.bind (slices_ContainsFunc_Lshift_Turn_shift_Turn N l so) fun r =>
  some (!r)
theorem shift_every_shift_Turn_ok {N : Nat} {G : Pers} {Lf : List Ent} {w : World} (l : List shift_Turn) (so : shift_Record) {l_p : Option Addr} {l_c : Nat} {b_ : Nat} {so_Rating_p : Option Addr} {so_Rating_c : Nat} {so_Gaugings_p : Option Addr} {so_Gaugings_c : Nat} (h_l : Rd G 2 l_p l_c (l.map enc_shift_Turn)) (h_so_Rating : Rd G 2 so_Rating_p so_Rating_c (so.Rating.map enc_shift_Mark)) (h_so_Gaugings : Rd G 4 so_Gaugings_p so_Gaugings_c (so.Gaugings.map enc_shift_Gauging)) (hc : Ctx G (.box b_ [.slice so_Rating_p so.Rating.length so_Rating_c, .slice so_Gaugings_p so.Gaugings.length so_Gaugings_c] 25 :: Lf) w) {res : Bool} (hF : shift_every_shift_Turn N l so = some res) : Calls Try.prog 89 #[.slice l_p l.length l_c, .func (.func 90) #[] #[.pointer (some ⟨b_, 0, none⟩)]] w (fun e w => e = .returned (.bool res) ∧ Ctx G (.box b_ [.slice so_Rating_p so.Rating.length so_Rating_c, .slice so_Gaugings_p so.Gaugings.length so_Gaugings_c] 25 :: Lf) w) := by
  unfold shift_every_shift_Turn at hF
  refine fnIn (args := [.slice l_p l.length l_c, .func (.func 90) #[] #[.pointer (some ⟨b_, 0, none⟩)]]) Try.func89 rfl Try.ntmps89 rfl fun a hf => ?_
  refine wp_seq_k fun K1 h1 => ?_
  refine cReg ?_
  refine stBx (cs := [.func (.func 90) #[] #[.pointer (some ⟨b_, 0, none⟩)]]) hf hc rfl rfl rfl rfl fun b_1 a w hf hc => ?_
  refine stP hf rfl rfl rfl (pA rfl) fun a hf => ?_
  refine cNil ?_
  refine h1 _ _ ?_
  refine wp_seq_k fun K2 h2 => ?_
  refine cReg ?_
  refine stP hf rfl rfl rfl (pM rfl) fun a hf => ?_
  refine stP hf rfl rfl rfl (pMF (us := [.pointer (some ⟨b_1, 0, none⟩)]) rfl rfl) fun a hf => ?_
  obtain ⟨r, hr, hF⟩ := bnd_some hF
  refine stE hf hc rfl rfl rfl (eC (v := .bool r) (vs := [.slice l_p l.length l_c, .func (.func 118) #[] #[.pointer (some ⟨b_1, 0, none⟩)]]) (caps := []) en_117 rfl rfl rfl rfl (fun w hc => (slices_ContainsFunc_Lshift_Turn_shift_Turn_ok l so h_l h_so_Rating h_so_Gaugings ((hc.pick k1).pick k1) hr).mono fun e w h => ⟨h.1, ((h.2.unpick k1).unpick k1)⟩)) fun a w hf hc => ?_
  refine stP hf rfl rfl rfl (pNot rfl) fun a hf => ?_
  refine stP hf rfl rfl rfl (pA rfl) fun a hf => ?_
  refine cNil ?_
  refine h2 _ _ ?_
  refine wp_ret ?_
  obtain rfl := Option.some.inj hF
  replace hc := hc.drop k0
  exact fnOut1 (by simp) rfl Try.results89 hf hc (show look _ 4 = _ from rfl) ⟨rfl, hc⟩

def shift_Turn_ends (t_ : shift_Turn) : Bool :=
  cond t_.Up
  (true)
  (false)
theorem shift_Turn_ends_ok {G : Pers} {Lf : List Ent} {w : World} (t_ : shift_Turn)   (hc : Ctx G (Lf) w) {res : Bool} (hF : shift_Turn_ends t_ = res) : Calls Try.prog 91 #[.agg #[.int .i64 t_.Gauging, .bool t_.Up]] w (fun e w => e = .returned (.agg #[(bif res then .func (.func 119) #[] #[] else .func (.func 120) #[] #[])]) ∧ Ctx G (Lf) w) := by
  unfold shift_Turn_ends at hF
  refine fnIn (args := [.agg #[.int .i64 t_.Gauging, .bool t_.Up]]) Try.func91 rfl Try.ntmps91 rfl fun a hf => ?_
  refine wp_seq_k fun K1 h1 => ?_
  refine cReg ?_
  refine stBx (cs := [.int .i64 t_.Gauging, .bool t_.Up]) hf hc rfl rfl rfl rfl fun b_1 a w hf hc => ?_
  refine stAl (cs := [.nilFunc]) hf hc rfl rfl zr_168 rfl fun b_2 a w hf hc => ?_
  refine cNil ?_
  refine h1 _ _ ?_
  refine wp_seq_k fun K2 h2 => ?_
  refine wp_seq_k fun K3 h3 => ?_
  refine cReg ?_
  refine stP hf rfl rfl rfl (pFA fa_91_1 rfl) fun a hf => ?_
  refine stE hf hc rfl rfl rfl (eLd1 sc_4 rfl (cell_box m1 rfl)) fun a w hf hc => ?_
  refine cNil ?_
  refine h3 _ _ ?_
  refine cCond (b := t_.Up) hf rfl (fun hb => ?_) (fun hb => ?_)
  · replace hF := condT hb hF
    clear hb
    refine wp_seq_k fun K4 h4 => ?_
    refine cReg ?_
    refine stP hf rfl rfl rfl (pBuildS (cells := [.func (.func 119) #[] #[]]) bt_168 rfl rfl) fun a hf => ?_
    refine stSt (vs := [.func (.func 119) #[] #[]]) hf hc rfl rfl rfl rfl sz_168 rfl rfl u0 fun w hc => ?_
    refine cNil ?_
    refine h4 _ _ ?_
    refine wp_ret ?_
    refine xThenR ?_
    obtain rfl := hF
    replace hc := hc.drop k1
    exact fnOut1 (by simp) rfl Try.results91 hf hc (rv_cellN (vs := [.func (.func 119) #[] #[]]) ag_168 rfl rfl (cells_box (n := 1) m0 rfl)) ⟨rfl, (hc.drop k0)⟩
  · replace hF := condF hb hF
    clear hb
    refine wp_skip ?_
    refine h2 _ _ ?_
    refine wp_seq_k fun K5 h5 => ?_
    refine cReg ?_
    refine stP hf rfl rfl rfl (pBuildS (cells := [.func (.func 120) #[] #[]]) bt_168 rfl rfl) fun a hf => ?_
    refine stSt (vs := [.func (.func 120) #[] #[]]) hf hc rfl rfl rfl rfl sz_168 rfl rfl u0 fun w hc => ?_
    refine cNil ?_
    refine h5 _ _ ?_
    refine wp_ret ?_
    obtain rfl := hF
    replace hc := hc.drop k1
    exact fnOut1 (by simp) rfl Try.results91 hf hc (rv_cellN (vs := [.func (.func 120) #[] #[]]) ag_168 rfl rfl (cells_box (n := 1) m0 rfl)) ⟨rfl, (hc.drop k0)⟩

def shift_Turn_ends_1 (s_ : api_Span) : Int :=
  s_.Hi
theorem shift_Turn_ends_1_ok {G : Pers} {Lf : List Ent} {w : World} (s_ : api_Span)   (hc : Ctx G (Lf) w) {res : Int} (hF : shift_Turn_ends_1 s_ = res) : Calls Try.prog 119 #[.agg #[.int .i64 s_.Lo, .int .i64 s_.Hi]] w (fun e w => e = .returned (.int .i64 res) ∧ Ctx G (Lf) w) := by
  unfold shift_Turn_ends_1 at hF
  refine fnIn (args := [.agg #[.int .i64 s_.Lo, .int .i64 s_.Hi]]) Try.func119 rfl Try.ntmps119 rfl fun a hf => ?_
  refine wp_seq_k fun K1 h1 => ?_
  refine cReg ?_
  refine stBx (cs := [.int .i64 s_.Lo, .int .i64 s_.Hi]) hf hc rfl rfl rfl rfl fun b_1 a w hf hc => ?_
  refine stP hf rfl rfl rfl (pA rfl) fun a hf => ?_
  refine cNil ?_
  refine h1 _ _ ?_
  refine wp_seq_k fun K2 h2 => ?_
  refine cReg ?_
  refine stP hf rfl rfl rfl (pFA fa_50_1 rfl) fun a hf => ?_
  refine stE hf hc rfl rfl rfl (eLd1 sc_3 rfl (cell_box m0 rfl)) fun a w hf hc => ?_
  refine stP hf rfl rfl rfl (pA rfl) fun a hf => ?_
  refine cNil ?_
  refine h2 _ _ ?_
  refine wp_ret ?_
  obtain rfl := hF
  replace hc := hc.drop k0
  exact fnOut1 (by simp) rfl Try.results119 hf hc (show look _ 2 = _ from rfl) ⟨rfl, hc⟩

def shift_Turn_ends_2 (s_ : api_Span) : Int :=
  s_.Lo
theorem shift_Turn_ends_2_ok {G : Pers} {Lf : List Ent} {w : World} (s_ : api_Span)   (hc : Ctx G (Lf) w) {res : Int} (hF : shift_Turn_ends_2 s_ = res) : Calls Try.prog 120 #[.agg #[.int .i64 s_.Lo, .int .i64 s_.Hi]] w (fun e w => e = .returned (.int .i64 res) ∧ Ctx G (Lf) w) := by
  unfold shift_Turn_ends_2 at hF
  refine fnIn (args := [.agg #[.int .i64 s_.Lo, .int .i64 s_.Hi]]) Try.func120 rfl Try.ntmps120 rfl fun a hf => ?_
  refine wp_seq_k fun K1 h1 => ?_
  refine cReg ?_
  refine stBx (cs := [.int .i64 s_.Lo, .int .i64 s_.Hi]) hf hc rfl rfl rfl rfl fun b_1 a w hf hc => ?_
  refine stP hf rfl rfl rfl (pA rfl) fun a hf => ?_
  refine cNil ?_
  refine h1 _ _ ?_
  refine wp_seq_k fun K2 h2 => ?_
  refine cReg ?_
  refine stP hf rfl rfl rfl (pFA fa_50_0 rfl) fun a hf => ?_
  refine stE hf hc rfl rfl rfl (eLd1 sc_3 rfl (cell_box m0 rfl)) fun a w hf hc => ?_
  refine stP hf rfl rfl rfl (pA rfl) fun a hf => ?_
  refine cNil ?_
  refine h2 _ _ ?_
  refine wp_ret ?_
  obtain rfl := hF
  replace hc := hc.drop k0
  exact fnOut1 (by simp) rfl Try.results120 hf hc (show look _ 2 = _ from rfl) ⟨rfl, hc⟩

def shift_Proves_j15 (N : Nat) (x : Int) : Option (Step (Int) (Int × Int)) :=
  some (.cont (W (x + 1)))
def shift_Proves_b11 (N : Nat) (l : List shift_Turn) (x : Int) : Option (Step (Int) (Int × Int)) :=
  cond (decide (x < ((l.length : Nat) : Int)))
  (Option.bind (getI l x) fun e_1 =>
  cond (x == 0)
  (shift_Proves_j15 N x)
  (Option.bind (getI l (W (x - 1))) fun e_2 =>
  cond ((decide (e_1.Gauging ≤ e_2.Gauging)) || (e_1.Up == e_2.Up))
  (some (.ret (0, 9)))
  (none)))
  (some (.brk x))
def shift_Proves_j36 (N : Nat) (x_1 : Int) (sum_1 : Int) : Option (Step (Int × Int) (Int × Int)) :=
  some (.cont (sum_1, W (x_1 + 1)))
def shift_Proves_b32 (N : Nat) (l : List shift_Turn) (r_2 : (List api_Span) × Int) (sum : Int) (x_1 : Int) : Option (Step (Int × Int) (Int × Int)) :=
  cond (decide (x_1 < ((l.length : Nat) : Int)))
  (Option.bind (getI l x_1) fun e_3 =>
  cond (x_1 == 0)
  (shift_Proves_j36 N x_1 sum)
  (Option.bind (getI l (W (x_1 - 1))) fun e_4 =>
  cond ((decide (e_3.Gauging ≤ e_4.Gauging)) || (e_3.Up == e_4.Up))
  (some (.ret (0, 9)))
  (Option.bind (getI r_2.1 e_4.Gauging) fun e_5 =>
  Option.bind (getI r_2.1 e_3.Gauging) fun e_6 =>
  cond e_3.Up
  (shift_Proves_j36 N x_1 (W (sum + (W ((bif (shift_Turn_ends e_4) then (shift_Turn_ends_1 e_5) else (shift_Turn_ends_2 e_5)) - (bif (shift_Turn_ends e_3) then (shift_Turn_ends_1 e_6) else (shift_Turn_ends_2 e_6)))))))
  (shift_Proves_j36 N x_1 (W (sum + (W ((bif (shift_Turn_ends e_3) then (shift_Turn_ends_1 e_6) else (shift_Turn_ends_2 e_6)) - (bif (shift_Turn_ends e_4) then (shift_Turn_ends_1 e_5) else (shift_Turn_ends_2 e_5))))))))))
  (some (.brk (sum, x_1)))
def shift_Proves (N : Nat) (r : shift_Record) (l : List shift_Turn) : Option (Int × Int) :=
  Option.bind (shift_opened N r) (sumK (fun r_0 => cond (r_0 != 0)
  (some (0, r_0))
  (Option.bind (shift_every_shift_Turn N l r) fun r_1 =>
  cond (!r_1)
  (some (0, 2))
  (Option.bind (loopO (fun s11 => shift_Proves_b11 N l s11) N 0) fun x11 =>
  exK x11 (fun s11 => some (0, 0)) some)))
  (fun r_2 => cond (r_2.2 != 0)
  (some (0, r_2.2))
  (Option.bind (shift_every_shift_Turn N l r) fun r_3 =>
  cond (!r_3)
  (some (0, 2))
  (Option.bind (loopO (fun s32 => shift_Proves_b32 N l r_2 s32.1 s32.2) N (0, 0)) fun x32 =>
  exK x32 (fun s32 => some (s32.1, 0)) some))))
theorem shift_Proves_ok {N : Nat} {G : Pers} {Lf : List Ent} {w : World} (r : shift_Record) (l : List shift_Turn) {r_Rating_p : Option Addr} {r_Rating_c : Nat} {r_Gaugings_p : Option Addr} {r_Gaugings_c : Nat} {l_p : Option Addr} {l_c : Nat} (h_r_Rating : Rd G 2 r_Rating_p r_Rating_c (r.Rating.map enc_shift_Mark)) (h_r_Gaugings : Rd G 4 r_Gaugings_p r_Gaugings_c (r.Gaugings.map enc_shift_Gauging)) (h_l : Rd G 2 l_p l_c (l.map enc_shift_Turn)) (hc : Ctx G (Lf) w) {res : Int × Int} (hF : shift_Proves N r l = some res) : Calls Try.prog 46 #[.agg #[.slice r_Rating_p r.Rating.length r_Rating_c, .slice r_Gaugings_p r.Gaugings.length r_Gaugings_c], .slice l_p l.length l_c] w (fun e w => e = .returned (.tuple #[.int .i64 res.1, .int .i64 res.2]) ∧ Ctx G (Lf) w) := by
  unfold shift_Proves at hF
  refine fnIn (args := [.agg #[.slice r_Rating_p r.Rating.length r_Rating_c, .slice r_Gaugings_p r.Gaugings.length r_Gaugings_c], .slice l_p l.length l_c]) Try.func46 rfl Try.ntmps46 rfl fun a hf => ?_
  refine wp_seq_k fun K1 h1 => ?_
  refine cReg ?_
  refine stBx (cs := [.slice r_Rating_p r.Rating.length r_Rating_c, .slice r_Gaugings_p r.Gaugings.length r_Gaugings_c]) hf hc rfl rfl rfl rfl fun b_1 a w hf hc => ?_
  refine stP hf rfl rfl rfl (pA rfl) fun a hf => ?_
  refine stP hf rfl rfl rfl (pA rfl) fun a hf => ?_
  refine cNil ?_
  refine h1 _ _ ?_
  refine wp_seq_k fun K2 h2 => ?_
  refine cReg ?_
  refine stE hf hc rfl rfl rfl (eLdN (vs := [.slice r_Rating_p r.Rating.length r_Rating_c, .slice r_Gaugings_p r.Gaugings.length r_Gaugings_c]) ag_25 rfl rfl (cells_box (n := 2) m0 rfl)) fun a w hf hc => ?_
  obtain ⟨r_0, hr_0, hF⟩ := bnd_some hF
  cases r_0 with
  | inl r_0 =>
    replace hF := sumKl hF
    refine stC (vs := [.agg #[.slice r_Rating_p r.Rating.length r_Rating_c, .slice r_Gaugings_p r.Gaugings.length r_Gaugings_c]]) (caps := []) hf rfl rfl rfl en_73 rfl rfl rfl rfl (shift_opened_ok r h_r_Rating h_r_Gaugings hc hr_0) ?_
    rintro _ w ⟨rfl, hc⟩
    refine ⟨_, rfl, fun a hf => ?_⟩
    refine stP hf rfl rfl rfl (pM rfl) fun a hf => ?_
    refine stP hf rfl rfl rfl (pX rfl rfl) fun a hf => ?_
    refine stP hf rfl rfl rfl (pX rfl rfl) fun a hf => ?_
    refine stP hf rfl rfl rfl (pA rfl) fun a hf => ?_
    refine stP hf rfl rfl rfl (pA rfl) fun a hf => ?_
    refine cNil ?_
    refine h2 _ _ ?_
    refine wp_seq_k fun K3 h3 => ?_
    refine wp_block ?_
    refine wp_seq_k fun K4 h4 => ?_
    refine cReg ?_
    refine stP hf rfl rfl rfl (pM rfl) fun a hf => ?_
    refine stP hf rfl rfl rfl (pNe rfl rfl) fun a hf => ?_
    refine stP hf rfl rfl rfl (pA rfl) fun a hf => ?_
    refine cNil ?_
    refine h4 _ _ ?_
    refine cCond (b := (r_0 != 0)) hf rfl (fun hb => ?_) (fun hb => ?_)
    · replace hF := condT hb hF
      clear hb
      refine wp_seq_k fun K5 h5 => ?_
      refine cReg ?_
      refine stP hf rfl rfl rfl (pM rfl) fun a hf => ?_
      refine stP hf rfl rfl rfl (pA rfl) fun a hf => ?_
      refine stP hf rfl rfl rfl (pA rfl) fun a hf => ?_
      refine cNil ?_
      refine h5 _ _ ?_
      refine wp_ret ?_
      refine xBlkR ?_
      refine xThenR ?_
      obtain rfl := Option.some.inj hF
      replace hc := hc.drop k0
      exact fnOut2 (by simp) rfl Try.results46 hf hc (show look _ 4 = _ from rfl) (show look _ 5 = _ from rfl) ⟨rfl, hc⟩
    · replace hF := condF hb hF
      clear hb
      refine wp_seq_k fun K6 h6 => ?_
      refine cReg ?_
      refine stP hf rfl rfl rfl (pM rfl) fun a hf => ?_
      refine stP hf rfl rfl rfl (pMF (us := [.pointer (some ⟨b_1, 0, none⟩)]) rfl rfl) fun a hf => ?_
      obtain ⟨r_1, hr_1, hF⟩ := bnd_some hF
      refine stE hf hc rfl rfl rfl (eC (v := .bool r_1) (vs := [.slice l_p l.length l_c, .func (.func 90) #[] #[.pointer (some ⟨b_1, 0, none⟩)]]) (caps := []) en_89 rfl rfl rfl rfl (fun w hc => (shift_every_shift_Turn_ok l r h_l h_r_Rating h_r_Gaugings (hc.pick k0) hr_1).mono fun e w h => ⟨h.1, (h.2.unpick k0)⟩)) fun a w hf hc => ?_
      refine stP hf rfl rfl rfl (pNot rfl) fun a hf => ?_
      refine stP hf rfl rfl rfl (pA rfl) fun a hf => ?_
      refine cNil ?_
      refine h6 _ _ ?_
      refine cCond (b := (!r_1)) hf rfl (fun hb => ?_) (fun hb => ?_)
      · replace hF := condT hb hF
        clear hb
        refine wp_seq_k fun K7 h7 => ?_
        refine cReg ?_
        refine stP hf rfl rfl rfl (pA rfl) fun a hf => ?_
        refine stP hf rfl rfl rfl (pA rfl) fun a hf => ?_
        refine cNil ?_
        refine h7 _ _ ?_
        refine wp_ret ?_
        refine xBlkR ?_
        refine xThenR ?_
        obtain rfl := Option.some.inj hF
        replace hc := hc.drop k0
        exact fnOut2 (by simp) rfl Try.results46 hf hc (show look _ 4 = _ from rfl) (show look _ 5 = _ from rfl) ⟨rfl, hc⟩
      · replace hF := condF hb hF
        clear hb
        refine wp_skip ?_
        refine h3 _ _ ?_
        refine wp_seq_k fun K8 h8 => ?_
        refine cReg ?_
        refine stP hf rfl rfl rfl (pA rfl) fun a hf => ?_
        refine cNil ?_
        refine h8 _ _ ?_
        refine wp_seq_k fun K9 h9 => ?_
        refine wp_seq_k fun K10 h10 => ?_
        refine cReg ?_
        refine stP hf rfl rfl rfl (pM rfl) fun a hf => ?_
        refine stP hf rfl rfl rfl (pLenS Try.underlying87 rfl) fun a hf => ?_
        refine stP hf rfl rfl rfl (pM rfl) fun a hf => ?_
        refine cNil ?_
        refine h10 _ _ ?_
        refine wp_block ?_
        obtain ⟨x11, hx11, hF⟩ := bnd_some hF
        let S11 : Int → Act → World → Prop := (fun (zz : Int) a w => Has 92 a [(1, .slice l_p l.length l_c), (6, .pointer none), (8, .int .i64 0), (28, .slice l_p l.length l_c), (29, .int .i64 ((l.length : Nat) : Int)), (30, .int .i64 zz)] ∧ Ctx G (Lf) w)
        have hr11 : ∀ (zz : Int) a w, x11 = .go zz → S11 zz a w → K9 a w := by
          rintro x a w rfl ⟨hf, hc⟩
          replace hF := exK_go hF
          refine h9 _ _ ?_
          refine wp_seq_k fun K12 h12 => ?_
          refine cReg ?_
          refine stP hf rfl rfl rfl (pM rfl) fun a hf => ?_
          refine stP hf rfl rfl rfl (pA rfl) fun a hf => ?_
          refine stP hf rfl rfl rfl (pA rfl) fun a hf => ?_
          refine cNil ?_
          refine h12 _ _ ?_
          refine wp_ret ?_
          obtain rfl := Option.some.inj hF
          exact fnOut2 (by simp) rfl Try.results46 hf hc (show look _ 4 = _ from rfl) (show look _ 5 = _ from rfl) ⟨rfl, hc⟩
        have ho11 : ∀ r, x11 = .out r → r = res := by
          rintro r rfl
          exact Option.some.inj hF
        replace hc := hc.drop k0
        refine cLoop N (loopW (S := S11) (x := x11) ?_ N 0 _ _ ⟨hf.keep ⟨rfl, rfl, rfl, rfl, rfl, rfl, trivial⟩, hc⟩ hx11)
        clear hF hf hc
        rintro x st11 a w KB11 ⟨hf, hc⟩ hF hfin11 hK11
        unfold shift_Proves_b11 at hF
        refine wp_seq_k fun K13 h13 => ?_
        refine cReg ?_
        refine stP hf rfl rfl rfl (pLt rfl rfl) fun a hf => ?_
        refine cNil ?_
        refine h13 _ _ ?_
        refine wp_seq_k fun K14 h14 => ?_
        refine cCond (b := (decide (x < ((l.length : Nat) : Int)))) hf rfl (fun hb => ?_) (fun hb => ?_)
        · replace hF := condT hb hF
          clear hb
          refine wp_skip ?_
          refine h14 _ _ ?_
          refine wp_seq_k fun K15 h15 => ?_
          have hj15 : ∀ a w, Has 92 a [(1, .slice l_p l.length l_c), (6, .pointer none), (8, .int .i64 0), (28, .slice l_p l.length l_c), (29, .int .i64 ((l.length : Nat) : Int)), (30, .int .i64 x)] → Ctx G (Lf) w → shift_Proves_j15 N x = some st11 → K15 a w := by
            repeat (clear hF)
            repeat (clear hc)
            repeat (clear hf)
            intro a w hf hc hF
            unfold shift_Proves_j15 at hF
            refine h15 _ _ ?_
            refine cReg ?_
            refine stP hf rfl rfl rfl (pAdd rfl rfl) fun a hf => ?_
            refine stP hf rfl rfl rfl (pM rfl) fun a hf => ?_
            refine cNil ?_
            exact hK11 (W (x + 1)) _ _ (Option.some.inj hF).symm ⟨hf.keep ⟨rfl, rfl, rfl, rfl, rfl, rfl, trivial⟩, hc⟩
          refine wp_block ?_
          refine wp_seq_k fun K16 h16 => ?_
          refine cReg ?_
          refine stP hf rfl rfl rfl (pM rfl) fun a hf => ?_
          obtain ⟨e_1, he_1, hF⟩ := bnd_some hF
          obtain ⟨b_2, o, qa, qp⟩ := h_l.atm he_1
          refine stP hf rfl rfl rfl (pIA Try.underlying87 sz_91 rfl rfl qa) fun a hf => ?_
          refine stE hf hc rfl rfl rfl (eLdN (vs := [.int .i64 e_1.Gauging, .bool e_1.Up]) ag_91 rfl rfl (cells_pc qp (n := 2) (o' := 0) rfl)) fun a w hf hc => ?_
          refine stAl (cs := [.int .i64 0, .bool false]) hf hc rfl rfl zr_91 rfl fun b_3 a w hf hc => ?_
          refine stP hf rfl rfl rfl (pA rfl) fun a hf => ?_
          refine stSt (vs := [.int .i64 e_1.Gauging, .bool e_1.Up]) hf hc rfl rfl rfl rfl sz_91 rfl rfl u0 fun w hc => ?_
          refine cNil ?_
          refine h16 _ _ ?_
          refine wp_seq_k fun K17 h17 => ?_
          refine wp_seq_k fun K18 h18 => ?_
          refine cReg ?_
          refine stP hf rfl rfl rfl (pM rfl) fun a hf => ?_
          refine stP hf rfl rfl rfl (pEq rfl rfl) fun a hf => ?_
          refine cNil ?_
          refine h18 _ _ ?_
          refine cCond (b := (x == 0)) hf rfl (fun hb => ?_) (fun hb => ?_)
          · replace hF := condT hb hF
            clear hb
            refine wp_exit ?_
            refine xThen ?_
            refine cHit ?_
            replace hc := hc.drop k0
            exact hj15  _ _  (hf.keep ⟨rfl, rfl, rfl, rfl, rfl, rfl, trivial⟩) hc hF
          · replace hF := condF hb hF
            clear hb
            refine wp_skip ?_
            refine h17 _ _ ?_
            refine wp_seq_k fun K19 h19 => ?_
            refine cReg ?_
            refine stP hf rfl rfl rfl (pM rfl) fun a hf => ?_
            refine stP hf rfl rfl rfl (pM rfl) fun a hf => ?_
            refine stP hf rfl rfl rfl (pSub rfl rfl) fun a hf => ?_
            obtain ⟨e_2, he_2, hF⟩ := bnd_some hF
            obtain ⟨b_4, o_1, qa_1, qp_1⟩ := h_l.atm he_2
            refine stP hf rfl rfl rfl (pIA Try.underlying87 sz_91 rfl rfl qa_1) fun a hf => ?_
            refine stE hf hc rfl rfl rfl (eLdN (vs := [.int .i64 e_2.Gauging, .bool e_2.Up]) ag_91 rfl rfl (cells_pc qp_1 (n := 2) (o' := 0) rfl)) fun a w hf hc => ?_
            refine stAl (cs := [.int .i64 0, .bool false]) hf hc rfl rfl zr_91 rfl fun b_5 a w hf hc => ?_
            refine stSt (vs := [.int .i64 e_2.Gauging, .bool e_2.Up]) hf hc rfl rfl rfl rfl sz_91 rfl rfl u0 fun w hc => ?_
            refine cNil ?_
            refine h19 _ _ ?_
            refine wp_seq_k fun K20 h20 => ?_
            refine wp_seq_k fun K21 h21 => ?_
            refine cReg ?_
            refine stP hf rfl rfl rfl (pFA fa_91_0 rfl) fun a hf => ?_
            refine stE hf hc rfl rfl rfl (eLd1 sc_3 rfl (cell_box m1 rfl)) fun a w hf hc => ?_
            refine stP hf rfl rfl rfl (pFA fa_91_0 rfl) fun a hf => ?_
            refine stE hf hc rfl rfl rfl (eLd1 sc_3 rfl (cell_box m0 rfl)) fun a w hf hc => ?_
            refine stP hf rfl rfl rfl (pLe rfl rfl) fun a hf => ?_
            refine stP hf rfl rfl rfl (pM rfl) fun a hf => ?_
            refine stCut 6 (fun a w => Has 92 a [(1, .slice l_p l.length l_c), (6, .pointer none), (8, .int .i64 0), (28, .slice l_p l.length l_c), (29, .int .i64 ((l.length : Nat) : Int)), (30, .int .i64 x), (10, .pointer (some ⟨b_3, 0, none⟩)), (11, .pointer (some ⟨b_5, 0, none⟩)), (42, .pointer (some ⟨b_3, 0, none⟩)), (43, .int .i64 e_1.Gauging), (44, .pointer (some ⟨b_5, 0, none⟩)), (45, .int .i64 e_2.Gauging), (46, .bool (decide (e_1.Gauging ≤ e_2.Gauging))), (47, .bool (decide (e_1.Gauging ≤ e_2.Gauging))), (53, .bool ((decide (e_1.Gauging ≤ e_2.Gauging)) || (e_1.Up == e_2.Up)))] ∧ Ctx G (.box b_5 [.int .i64 e_2.Gauging, .bool e_2.Up] 91 :: .box b_3 [.int .i64 e_1.Gauging, .bool e_1.Up] 91 :: Lf) w) ?_ ?_
            · cases hb : (decide (e_1.Gauging ≤ e_2.Gauging))
              · rw [hb] at hf
                refine stP hf rfl rfl rfl (pFA fa_91_1 rfl) fun a hf => ?_
                refine stE hf hc rfl rfl rfl (eLd1 sc_4 rfl (cell_box m1 rfl)) fun a w hf hc => ?_
                refine stP hf rfl rfl rfl (pFA fa_91_1 rfl) fun a hf => ?_
                refine stE hf hc rfl rfl rfl (eLd1 sc_4 rfl (cell_box m0 rfl)) fun a w hf hc => ?_
                refine stP hf rfl rfl rfl (pEqB Try.underlying4 rfl rfl) fun a hf => ?_
                refine stP hf rfl rfl rfl (pPf rfl rfl) fun a hf => ?_
                exact cNil ⟨hf.keep ⟨rfl, rfl, rfl, rfl, rfl, rfl, rfl, rfl, rfl, rfl, rfl, rfl, rfl, rfl, rfl, trivial⟩, hc⟩
              · rw [hb] at hf
                refine stS hf rfl rfl rfl fun a hf => ?_
                refine stS hf rfl rfl rfl fun a hf => ?_
                refine stS hf rfl rfl rfl fun a hf => ?_
                refine stS hf rfl rfl rfl fun a hf => ?_
                refine stS hf rfl rfl rfl fun a hf => ?_
                refine stP hf rfl rfl rfl (pPt rfl rfl) fun a hf => ?_
                exact cNil ⟨hf.keep ⟨rfl, rfl, rfl, rfl, rfl, rfl, rfl, rfl, rfl, rfl, rfl, rfl, rfl, rfl, rfl, trivial⟩, hc⟩
            intro a w ⟨hf, hc⟩
            refine cNil ?_
            refine h21 _ _ ?_
            refine cCond (b := ((decide (e_1.Gauging ≤ e_2.Gauging)) || (e_1.Up == e_2.Up))) hf rfl (fun hb => ?_) (fun hb => ?_)
            · replace hF := condT hb hF
              clear hb
              refine wp_seq_k fun K22 h22 => ?_
              refine cReg ?_
              refine stP hf rfl rfl rfl (pA rfl) fun a hf => ?_
              refine stP hf rfl rfl rfl (pA rfl) fun a hf => ?_
              refine cNil ?_
              refine h22 _ _ ?_
              refine wp_ret ?_
              refine xThenR ?_
              refine xBlkR ?_
              refine xThenR ?_
              refine xThenR ?_
              have he := Option.some.inj hF
              rw [← he] at hfin11
              replace hF := ho11 _ hfin11
              refine xBlkR ?_
              refine xThenR ?_
              obtain rfl := hF
              replace hc := hc.drop k1
              replace hc := hc.drop k0
              exact fnOut2 (by simp) rfl Try.results46 hf hc (show look _ 4 = _ from rfl) (show look _ 5 = _ from rfl) ⟨rfl, hc⟩
            · replace hF := condF hb hF
              clear hb
              refine wp_skip ?_
              refine h20 _ _ ?_
              refine wp_seq_k fun K23 h23 => ?_
              exact noneO hF
        · replace hF := condF hb hF
          clear hb
          refine wp_exit ?_
          refine xThen ?_
          refine xThen ?_
          have he := Option.some.inj hF
          rw [← he] at hfin11
          refine cHit ?_
          exact hr11 _ _ _ hfin11 ⟨hf.keep ⟨rfl, rfl, rfl, rfl, rfl, rfl, trivial⟩, hc⟩
  | inr r_2 =>
    replace hF := sumKr hF
    have hr_2 := hr_0
    refine stC (vs := [.agg #[.slice r_Rating_p r.Rating.length r_Rating_c, .slice r_Gaugings_p r.Gaugings.length r_Gaugings_c]]) (caps := []) hf rfl rfl rfl en_73 rfl rfl rfl rfl (shift_opened_ok r h_r_Rating h_r_Gaugings hc hr_2) ?_
    rintro _ w ⟨b_6, p_1, c_1, rfl, hc⟩
    refine ⟨_, rfl, fun a hf => ?_⟩
    refine stP hf rfl rfl rfl (pM rfl) fun a hf => ?_
    refine stP hf rfl rfl rfl (pX rfl rfl) fun a hf => ?_
    refine stP hf rfl rfl rfl (pX rfl rfl) fun a hf => ?_
    refine stP hf rfl rfl rfl (pA rfl) fun a hf => ?_
    refine stP hf rfl rfl rfl (pA rfl) fun a hf => ?_
    refine cNil ?_
    refine h2 _ _ ?_
    refine wp_seq_k fun K24 h24 => ?_
    refine wp_block ?_
    refine wp_seq_k fun K25 h25 => ?_
    refine cReg ?_
    refine stP hf rfl rfl rfl (pM rfl) fun a hf => ?_
    refine stP hf rfl rfl rfl (pNe rfl rfl) fun a hf => ?_
    refine stP hf rfl rfl rfl (pA rfl) fun a hf => ?_
    refine cNil ?_
    refine h25 _ _ ?_
    refine cCond (b := (r_2.2 != 0)) hf rfl (fun hb => ?_) (fun hb => ?_)
    · replace hF := condT hb hF
      clear hb
      refine wp_seq_k fun K26 h26 => ?_
      refine cReg ?_
      refine stP hf rfl rfl rfl (pM rfl) fun a hf => ?_
      refine stP hf rfl rfl rfl (pA rfl) fun a hf => ?_
      refine stP hf rfl rfl rfl (pA rfl) fun a hf => ?_
      refine cNil ?_
      refine h26 _ _ ?_
      refine wp_ret ?_
      refine xBlkR ?_
      refine xThenR ?_
      obtain rfl := Option.some.inj hF
      replace hc := hc.drop k2
      replace hc := hc.drop k1
      replace hc := hc.drop k0
      exact fnOut2 (by simp) rfl Try.results46 hf hc (show look _ 4 = _ from rfl) (show look _ 5 = _ from rfl) ⟨rfl, hc⟩
    · replace hF := condF hb hF
      clear hb
      refine wp_seq_k fun K27 h27 => ?_
      refine cReg ?_
      refine stP hf rfl rfl rfl (pM rfl) fun a hf => ?_
      refine stP hf rfl rfl rfl (pMF (us := [.pointer (some ⟨b_1, 0, none⟩)]) rfl rfl) fun a hf => ?_
      obtain ⟨r_3, hr_3, hF⟩ := bnd_some hF
      refine stE hf hc rfl rfl rfl (eC (v := .bool r_3) (vs := [.slice l_p l.length l_c, .func (.func 90) #[] #[.pointer (some ⟨b_1, 0, none⟩)]]) (caps := []) en_89 rfl rfl rfl rfl (fun w hc => (shift_every_shift_Turn_ok l r h_l h_r_Rating h_r_Gaugings (hc.pick k2) hr_3).mono fun e w h => ⟨h.1, (h.2.unpick k2)⟩)) fun a w hf hc => ?_
      refine stP hf rfl rfl rfl (pNot rfl) fun a hf => ?_
      refine stP hf rfl rfl rfl (pA rfl) fun a hf => ?_
      refine cNil ?_
      refine h27 _ _ ?_
      refine cCond (b := (!r_3)) hf rfl (fun hb => ?_) (fun hb => ?_)
      · replace hF := condT hb hF
        clear hb
        refine wp_seq_k fun K28 h28 => ?_
        refine cReg ?_
        refine stP hf rfl rfl rfl (pA rfl) fun a hf => ?_
        refine stP hf rfl rfl rfl (pA rfl) fun a hf => ?_
        refine cNil ?_
        refine h28 _ _ ?_
        refine wp_ret ?_
        refine xBlkR ?_
        refine xThenR ?_
        obtain rfl := Option.some.inj hF
        replace hc := hc.drop k2
        replace hc := hc.drop k1
        replace hc := hc.drop k0
        exact fnOut2 (by simp) rfl Try.results46 hf hc (show look _ 4 = _ from rfl) (show look _ 5 = _ from rfl) ⟨rfl, hc⟩
      · replace hF := condF hb hF
        clear hb
        refine wp_skip ?_
        refine h24 _ _ ?_
        refine wp_seq_k fun K29 h29 => ?_
        refine cReg ?_
        refine stP hf rfl rfl rfl (pA rfl) fun a hf => ?_
        refine cNil ?_
        refine h29 _ _ ?_
        refine wp_seq_k fun K30 h30 => ?_
        refine wp_seq_k fun K31 h31 => ?_
        refine cReg ?_
        refine stP hf rfl rfl rfl (pM rfl) fun a hf => ?_
        refine stP hf rfl rfl rfl (pLenS Try.underlying87 rfl) fun a hf => ?_
        refine stP hf rfl rfl rfl (pM rfl) fun a hf => ?_
        refine cNil ?_
        refine h31 _ _ ?_
        refine wp_block ?_
        obtain ⟨x32, hx32, hF⟩ := bnd_some hF
        let S32 : (Int × Int) → Act → World → Prop := (fun (zz : Int × Int) a w => ∃ (p_2 : Option Addr) (c_2 : Nat), Has 92 a [(1, .slice l_p l.length l_c), (6, .pointer (some ⟨b_6, 0, none⟩)), (8, .int .i64 zz.1), (28, .slice l_p l.length l_c), (29, .int .i64 ((l.length : Nat) : Int)), (30, .int .i64 zz.2)] ∧ Ctx G (.row p_2 c_2 (r_2.1.map enc_api_Span) 50 2 :: .box b_6 [.slice r_Rating_p r.Rating.length r_Rating_c, .slice r_Gaugings_p r.Gaugings.length r_Gaugings_c, .slice p_2 r_2.1.length c_2] 140 :: Lf) w)
        have hr32 : ∀ (zz : Int × Int) a w, x32 = .go zz → S32 zz a w → K30 a w := by
          rintro ⟨sum, x_1⟩ a w rfl ⟨p_2, c_2, hf, hc⟩
          replace hF := exK_go hF
          refine h30 _ _ ?_
          refine wp_seq_k fun K33 h33 => ?_
          refine cReg ?_
          refine stP hf rfl rfl rfl (pM rfl) fun a hf => ?_
          refine stP hf rfl rfl rfl (pA rfl) fun a hf => ?_
          refine stP hf rfl rfl rfl (pA rfl) fun a hf => ?_
          refine cNil ?_
          refine h33 _ _ ?_
          refine wp_ret ?_
          obtain rfl := Option.some.inj hF
          replace hc := hc.drop k1
          replace hc := hc.drop k0
          exact fnOut2 (by simp) rfl Try.results46 hf hc (show look _ 4 = _ from rfl) (show look _ 5 = _ from rfl) ⟨rfl, hc⟩
        have ho32 : ∀ r, x32 = .out r → r = res := by
          rintro r rfl
          exact Option.some.inj hF
        replace hc := hc.drop k2
        refine cLoop N (loopW (S := S32) (x := x32) ?_ N (0, 0) _ _ ⟨p_1, c_1, hf.keep ⟨rfl, rfl, rfl, rfl, rfl, rfl, trivial⟩, hc⟩ hx32)
        clear hF hf hc
        rintro ⟨sum, x_1⟩ st32 a w KB32 ⟨p_2, c_2, hf, hc⟩ hF hfin32 hK32
        unfold shift_Proves_b32 at hF
        refine wp_seq_k fun K34 h34 => ?_
        refine cReg ?_
        refine stP hf rfl rfl rfl (pLt rfl rfl) fun a hf => ?_
        refine cNil ?_
        refine h34 _ _ ?_
        refine wp_seq_k fun K35 h35 => ?_
        refine cCond (b := (decide (x_1 < ((l.length : Nat) : Int)))) hf rfl (fun hb => ?_) (fun hb => ?_)
        · replace hF := condT hb hF
          clear hb
          refine wp_skip ?_
          refine h35 _ _ ?_
          refine wp_seq_k fun K36 h36 => ?_
          have hj36 : ∀ (sum_1 : Int) (p_3 : Option Addr) (c_3 : Nat) a w, Has 92 a [(1, .slice l_p l.length l_c), (6, .pointer (some ⟨b_6, 0, none⟩)), (8, .int .i64 sum_1), (28, .slice l_p l.length l_c), (29, .int .i64 ((l.length : Nat) : Int)), (30, .int .i64 x_1)] → Ctx G (.row p_3 c_3 (r_2.1.map enc_api_Span) 50 2 :: .box b_6 [.slice r_Rating_p r.Rating.length r_Rating_c, .slice r_Gaugings_p r.Gaugings.length r_Gaugings_c, .slice p_3 r_2.1.length c_3] 140 :: Lf) w → shift_Proves_j36 N x_1 sum_1 = some st32 → K36 a w := by
            repeat (clear hF)
            repeat (clear hc)
            repeat (clear hf)
            intro sum_1 p_3 c_3 a w hf hc hF
            unfold shift_Proves_j36 at hF
            refine h36 _ _ ?_
            refine cReg ?_
            refine stP hf rfl rfl rfl (pAdd rfl rfl) fun a hf => ?_
            refine stP hf rfl rfl rfl (pM rfl) fun a hf => ?_
            refine cNil ?_
            exact hK32 (sum_1, W (x_1 + 1)) _ _ (Option.some.inj hF).symm ⟨p_3, c_3, hf.keep ⟨rfl, rfl, rfl, rfl, rfl, rfl, trivial⟩, hc⟩
          refine wp_block ?_
          refine wp_seq_k fun K37 h37 => ?_
          refine cReg ?_
          refine stP hf rfl rfl rfl (pM rfl) fun a hf => ?_
          obtain ⟨e_3, he_3, hF⟩ := bnd_some hF
          obtain ⟨b_7, o_2, qa_2, qp_2⟩ := h_l.atm he_3
          refine stP hf rfl rfl rfl (pIA Try.underlying87 sz_91 rfl rfl qa_2) fun a hf => ?_
          refine stE hf hc rfl rfl rfl (eLdN (vs := [.int .i64 e_3.Gauging, .bool e_3.Up]) ag_91 rfl rfl (cells_pc qp_2 (n := 2) (o' := 0) rfl)) fun a w hf hc => ?_
          refine stAl (cs := [.int .i64 0, .bool false]) hf hc rfl rfl zr_91 rfl fun b_8 a w hf hc => ?_
          refine stP hf rfl rfl rfl (pA rfl) fun a hf => ?_
          refine stSt (vs := [.int .i64 e_3.Gauging, .bool e_3.Up]) hf hc rfl rfl rfl rfl sz_91 rfl rfl u0 fun w hc => ?_
          refine cNil ?_
          refine h37 _ _ ?_
          refine wp_seq_k fun K38 h38 => ?_
          refine wp_seq_k fun K39 h39 => ?_
          refine cReg ?_
          refine stP hf rfl rfl rfl (pM rfl) fun a hf => ?_
          refine stP hf rfl rfl rfl (pEq rfl rfl) fun a hf => ?_
          refine cNil ?_
          refine h39 _ _ ?_
          refine cCond (b := (x_1 == 0)) hf rfl (fun hb => ?_) (fun hb => ?_)
          · replace hF := condT hb hF
            clear hb
            refine wp_exit ?_
            refine xThen ?_
            refine cHit ?_
            replace hc := hc.drop k0
            exact hj36 sum p_2 c_2 _ _  (hf.keep ⟨rfl, rfl, rfl, rfl, rfl, rfl, trivial⟩) hc hF
          · replace hF := condF hb hF
            clear hb
            refine wp_skip ?_
            refine h38 _ _ ?_
            refine wp_seq_k fun K40 h40 => ?_
            refine cReg ?_
            refine stP hf rfl rfl rfl (pM rfl) fun a hf => ?_
            refine stP hf rfl rfl rfl (pM rfl) fun a hf => ?_
            refine stP hf rfl rfl rfl (pSub rfl rfl) fun a hf => ?_
            obtain ⟨e_4, he_4, hF⟩ := bnd_some hF
            obtain ⟨b_9, o_3, qa_3, qp_3⟩ := h_l.atm he_4
            refine stP hf rfl rfl rfl (pIA Try.underlying87 sz_91 rfl rfl qa_3) fun a hf => ?_
            refine stE hf hc rfl rfl rfl (eLdN (vs := [.int .i64 e_4.Gauging, .bool e_4.Up]) ag_91 rfl rfl (cells_pc qp_3 (n := 2) (o' := 0) rfl)) fun a w hf hc => ?_
            refine stAl (cs := [.int .i64 0, .bool false]) hf hc rfl rfl zr_91 rfl fun b_10 a w hf hc => ?_
            refine stSt (vs := [.int .i64 e_4.Gauging, .bool e_4.Up]) hf hc rfl rfl rfl rfl sz_91 rfl rfl u0 fun w hc => ?_
            refine cNil ?_
            refine h40 _ _ ?_
            refine wp_seq_k fun K41 h41 => ?_
            refine wp_seq_k fun K42 h42 => ?_
            refine cReg ?_
            refine stP hf rfl rfl rfl (pFA fa_91_0 rfl) fun a hf => ?_
            refine stE hf hc rfl rfl rfl (eLd1 sc_3 rfl (cell_box m1 rfl)) fun a w hf hc => ?_
            refine stP hf rfl rfl rfl (pFA fa_91_0 rfl) fun a hf => ?_
            refine stE hf hc rfl rfl rfl (eLd1 sc_3 rfl (cell_box m0 rfl)) fun a w hf hc => ?_
            refine stP hf rfl rfl rfl (pLe rfl rfl) fun a hf => ?_
            refine stP hf rfl rfl rfl (pM rfl) fun a hf => ?_
            refine stCut 6 (fun a w => Has 92 a [(1, .slice l_p l.length l_c), (6, .pointer (some ⟨b_6, 0, none⟩)), (8, .int .i64 sum), (28, .slice l_p l.length l_c), (29, .int .i64 ((l.length : Nat) : Int)), (30, .int .i64 x_1), (10, .pointer (some ⟨b_8, 0, none⟩)), (11, .pointer (some ⟨b_10, 0, none⟩)), (42, .pointer (some ⟨b_8, 0, none⟩)), (43, .int .i64 e_3.Gauging), (44, .pointer (some ⟨b_10, 0, none⟩)), (45, .int .i64 e_4.Gauging), (46, .bool (decide (e_3.Gauging ≤ e_4.Gauging))), (47, .bool (decide (e_3.Gauging ≤ e_4.Gauging))), (53, .bool ((decide (e_3.Gauging ≤ e_4.Gauging)) || (e_3.Up == e_4.Up)))] ∧ Ctx G (.box b_10 [.int .i64 e_4.Gauging, .bool e_4.Up] 91 :: .box b_8 [.int .i64 e_3.Gauging, .bool e_3.Up] 91 :: .row p_2 c_2 (r_2.1.map enc_api_Span) 50 2 :: .box b_6 [.slice r_Rating_p r.Rating.length r_Rating_c, .slice r_Gaugings_p r.Gaugings.length r_Gaugings_c, .slice p_2 r_2.1.length c_2] 140 :: Lf) w) ?_ ?_
            · cases hb : (decide (e_3.Gauging ≤ e_4.Gauging))
              · rw [hb] at hf
                refine stP hf rfl rfl rfl (pFA fa_91_1 rfl) fun a hf => ?_
                refine stE hf hc rfl rfl rfl (eLd1 sc_4 rfl (cell_box m1 rfl)) fun a w hf hc => ?_
                refine stP hf rfl rfl rfl (pFA fa_91_1 rfl) fun a hf => ?_
                refine stE hf hc rfl rfl rfl (eLd1 sc_4 rfl (cell_box m0 rfl)) fun a w hf hc => ?_
                refine stP hf rfl rfl rfl (pEqB Try.underlying4 rfl rfl) fun a hf => ?_
                refine stP hf rfl rfl rfl (pPf rfl rfl) fun a hf => ?_
                exact cNil ⟨hf.keep ⟨rfl, rfl, rfl, rfl, rfl, rfl, rfl, rfl, rfl, rfl, rfl, rfl, rfl, rfl, rfl, trivial⟩, hc⟩
              · rw [hb] at hf
                refine stS hf rfl rfl rfl fun a hf => ?_
                refine stS hf rfl rfl rfl fun a hf => ?_
                refine stS hf rfl rfl rfl fun a hf => ?_
                refine stS hf rfl rfl rfl fun a hf => ?_
                refine stS hf rfl rfl rfl fun a hf => ?_
                refine stP hf rfl rfl rfl (pPt rfl rfl) fun a hf => ?_
                exact cNil ⟨hf.keep ⟨rfl, rfl, rfl, rfl, rfl, rfl, rfl, rfl, rfl, rfl, rfl, rfl, rfl, rfl, rfl, trivial⟩, hc⟩
            intro a w ⟨hf, hc⟩
            refine cNil ?_
            refine h42 _ _ ?_
            refine cCond (b := ((decide (e_3.Gauging ≤ e_4.Gauging)) || (e_3.Up == e_4.Up))) hf rfl (fun hb => ?_) (fun hb => ?_)
            · replace hF := condT hb hF
              clear hb
              refine wp_seq_k fun K43 h43 => ?_
              refine cReg ?_
              refine stP hf rfl rfl rfl (pA rfl) fun a hf => ?_
              refine stP hf rfl rfl rfl (pA rfl) fun a hf => ?_
              refine cNil ?_
              refine h43 _ _ ?_
              refine wp_ret ?_
              refine xThenR ?_
              refine xBlkR ?_
              refine xThenR ?_
              refine xThenR ?_
              have he := Option.some.inj hF
              rw [← he] at hfin32
              replace hF := ho32 _ hfin32
              refine xBlkR ?_
              refine xThenR ?_
              obtain rfl := hF
              replace hc := hc.drop k3
              replace hc := hc.drop k2
              replace hc := hc.drop k1
              replace hc := hc.drop k0
              exact fnOut2 (by simp) rfl Try.results46 hf hc (show look _ 4 = _ from rfl) (show look _ 5 = _ from rfl) ⟨rfl, hc⟩
            · replace hF := condF hb hF
              clear hb
              refine wp_skip ?_
              refine h41 _ _ ?_
              refine wp_seq_k fun K44 h44 => ?_
              obtain ⟨e_5, he_5, hF⟩ := bnd_some hF
              obtain ⟨g, rfl, qa_4, qr⟩ := row_atm hc m2 he_5
              obtain ⟨e_6, he_6, hF⟩ := bnd_some hF
              obtain ⟨qa_5, qr_1⟩ := row_atk hc m2 he_6
              refine cQ hc follows_mx (by kernel_rfl) ?_
              refine qE hf rfl rfl rfl (eLdN (vs := [.int .i64 e_4.Gauging, .bool e_4.Up]) ag_91 rfl rfl (cells_box (n := 2) m0 rfl)) fun a hf => ?_
              refine qE hf rfl rfl rfl (eC (v := .agg #[(bif (shift_Turn_ends e_4) then .func (.func 119) #[] #[] else .func (.func 120) #[] #[])]) (vs := [.agg #[.int .i64 e_4.Gauging, .bool e_4.Up]]) (caps := []) en_91 rfl rfl rfl rfl (fun w hc => shift_Turn_ends_ok e_4 hc rfl)) fun a hf => ?_
              refine qE hf rfl rfl rfl (Pu.ev (pField1 Try.underlying168 rfl sc_166 rfl rfl)) fun a hf => ?_
              refine qE hf rfl rfl rfl (Pu.ev (pM rfl)) fun a hf => ?_
              refine qE hf rfl rfl rfl (Pu.ev (pNC rfl)) fun a hf => ?_
              refine qE hf rfl rfl rfl (Pu.ev (pFA fa_140_1 rfl)) fun a hf => ?_
              refine qE hf rfl rfl rfl (eLd1 sc_44 rfl (cell_box m3 rfl)) fun a hf => ?_
              refine qE hf rfl rfl rfl (Pu.ev (pFA fa_91_0 rfl)) fun a hf => ?_
              refine qE hf rfl rfl rfl (eLd1 sc_3 rfl (cell_box m0 rfl)) fun a hf => ?_
              refine qE hf rfl rfl rfl (Pu.ev (pIA Try.underlying44 sz_50 rfl rfl qa_4)) fun a hf => ?_
              refine qE hf rfl rfl rfl (eLdN (vs := [.int .i64 e_5.Lo, .int .i64 e_5.Hi]) ag_50 rfl rfl (cells_rw (sz := 2) (i := e_4.Gauging.toNat) m2 qr (n := 2) (o' := 0) rfl)) fun a hf => ?_
              refine qE hf rfl rfl rfl (eCsel (c := (shift_Turn_ends e_4)) (v := .int .i64 (bif (shift_Turn_ends e_4) then (shift_Turn_ends_1 e_5) else (shift_Turn_ends_2 e_5))) (v1 := .int .i64 (shift_Turn_ends_1 e_5)) (v2 := .int .i64 (shift_Turn_ends_2 e_5)) (vs := [.agg #[.int .i64 e_5.Lo, .int .i64 e_5.Hi]]) en_119 en_120 rfl rfl rfl rfl (fun hb => congrArg (Value.int .i64) (bifT hb)) (fun hb => congrArg (Value.int .i64) (bifF hb)) (fun w hc => shift_Turn_ends_1_ok e_5 hc rfl) (fun w hc => shift_Turn_ends_2_ok e_5 hc rfl)) fun a hf => ?_
              refine qE hf rfl rfl rfl (eLdN (vs := [.int .i64 e_3.Gauging, .bool e_3.Up]) ag_91 rfl rfl (cells_box (n := 2) m1 rfl)) fun a hf => ?_
              refine qE hf rfl rfl rfl (eC (v := .agg #[(bif (shift_Turn_ends e_3) then .func (.func 119) #[] #[] else .func (.func 120) #[] #[])]) (vs := [.agg #[.int .i64 e_3.Gauging, .bool e_3.Up]]) (caps := []) en_91 rfl rfl rfl rfl (fun w hc => shift_Turn_ends_ok e_3 hc rfl)) fun a hf => ?_
              refine qE hf rfl rfl rfl (Pu.ev (pField1 Try.underlying168 rfl sc_166 rfl rfl)) fun a hf => ?_
              refine qE hf rfl rfl rfl (Pu.ev (pM rfl)) fun a hf => ?_
              refine qE hf rfl rfl rfl (Pu.ev (pNC rfl)) fun a hf => ?_
              refine qE hf rfl rfl rfl (Pu.ev (pFA fa_140_1 rfl)) fun a hf => ?_
              refine qE hf rfl rfl rfl (eLd1 sc_44 rfl (cell_box m3 rfl)) fun a hf => ?_
              refine qE hf rfl rfl rfl (Pu.ev (pFA fa_91_0 rfl)) fun a hf => ?_
              refine qE hf rfl rfl rfl (eLd1 sc_3 rfl (cell_box m1 rfl)) fun a hf => ?_
              refine qE hf rfl rfl rfl (Pu.ev (pIA Try.underlying44 sz_50 rfl rfl qa_5)) fun a hf => ?_
              refine qE hf rfl rfl rfl (eLdN (vs := [.int .i64 e_6.Lo, .int .i64 e_6.Hi]) ag_50 rfl rfl (cells_rw (sz := 2) (i := e_3.Gauging.toNat) m2 qr_1 (n := 2) (o' := 0) rfl)) fun a hf => ?_
              refine qE hf rfl rfl rfl (eCsel (c := (shift_Turn_ends e_3)) (v := .int .i64 (bif (shift_Turn_ends e_3) then (shift_Turn_ends_1 e_6) else (shift_Turn_ends_2 e_6))) (v1 := .int .i64 (shift_Turn_ends_1 e_6)) (v2 := .int .i64 (shift_Turn_ends_2 e_6)) (vs := [.agg #[.int .i64 e_6.Lo, .int .i64 e_6.Hi]]) en_119 en_120 rfl rfl rfl rfl (fun hb => congrArg (Value.int .i64) (bifT hb)) (fun hb => congrArg (Value.int .i64) (bifF hb)) (fun w hc => shift_Turn_ends_1_ok e_6 hc rfl) (fun w hc => shift_Turn_ends_2_ok e_6 hc rfl)) fun a hf => ?_
              refine qE hf rfl rfl rfl (Pu.ev (pA rfl)) fun a hf => ?_
              refine qE hf rfl rfl rfl (Pu.ev (pA rfl)) fun a hf => ?_
              intro w hc
              refine h44 _ _ ?_
              refine wp_seq_k fun K45 h45 => ?_
              refine cReg ?_
              refine stP hf rfl rfl rfl (pFA fa_91_1 rfl) fun a hf => ?_
              refine stE hf hc rfl rfl rfl (eLd1 sc_4 rfl (cell_box m1 rfl)) fun a w hf hc => ?_
              refine cNil ?_
              refine h45 _ _ ?_
              refine cCond (b := e_3.Up) hf rfl (fun hb => ?_) (fun hb => ?_)
              · replace hF := condT hb hF
                clear hb
                refine cReg ?_
                refine stP hf rfl rfl rfl (pM rfl) fun a hf => ?_
                refine stP hf rfl rfl rfl (pM rfl) fun a hf => ?_
                refine stP hf rfl rfl rfl (pM rfl) fun a hf => ?_
                refine stP hf rfl rfl rfl (pSub rfl rfl) fun a hf => ?_
                refine stP hf rfl rfl rfl (pAdd rfl rfl) fun a hf => ?_
                refine stP hf rfl rfl rfl (pA rfl) fun a hf => ?_
                refine cNil ?_
                replace hc := hc.drop k1
                replace hc := hc.drop k0
                exact hj36 (W (sum + (W ((bif (shift_Turn_ends e_4) then (shift_Turn_ends_1 e_5) else (shift_Turn_ends_2 e_5)) - (bif (shift_Turn_ends e_3) then (shift_Turn_ends_1 e_6) else (shift_Turn_ends_2 e_6)))))) (some ⟨g, 0, none⟩) c_2 _ _  (hf.keep ⟨rfl, rfl, rfl, rfl, rfl, rfl, trivial⟩) hc hF
              · replace hF := condF hb hF
                clear hb
                refine cReg ?_
                refine stP hf rfl rfl rfl (pM rfl) fun a hf => ?_
                refine stP hf rfl rfl rfl (pM rfl) fun a hf => ?_
                refine stP hf rfl rfl rfl (pM rfl) fun a hf => ?_
                refine stP hf rfl rfl rfl (pSub rfl rfl) fun a hf => ?_
                refine stP hf rfl rfl rfl (pAdd rfl rfl) fun a hf => ?_
                refine stP hf rfl rfl rfl (pA rfl) fun a hf => ?_
                refine cNil ?_
                replace hc := hc.drop k1
                replace hc := hc.drop k0
                exact hj36 (W (sum + (W ((bif (shift_Turn_ends e_3) then (shift_Turn_ends_1 e_6) else (shift_Turn_ends_2 e_6)) - (bif (shift_Turn_ends e_4) then (shift_Turn_ends_1 e_5) else (shift_Turn_ends_2 e_5)))))) (some ⟨g, 0, none⟩) c_2 _ _  (hf.keep ⟨rfl, rfl, rfl, rfl, rfl, rfl, trivial⟩) hc hF
        · replace hF := condF hb hF
          clear hb
          refine wp_exit ?_
          refine xThen ?_
          refine xThen ?_
          have he := Option.some.inj hF
          rw [← he] at hfin32
          refine cHit ?_
          exact hr32 _ _ _ hfin32 ⟨p_2, c_2, hf.keep ⟨rfl, rfl, rfl, rfl, rfl, rfl, trivial⟩, hc⟩

def kit_Copy_shift_Mark (N : Nat) (l : List shift_Mark) : Option ((List shift_Mark)) :=
  Option.bind (room (l).length) fun un =>
  some l
theorem kit_Copy_shift_Mark_ok {N : Nat} {G : Pers} {Lf : List Ent} {w : World} (l : List shift_Mark) {l_p : Option Addr} {l_c : Nat} (h_l : Rd G 2 l_p l_c (l.map enc_shift_Mark)) (hc : Ctx G (Lf) w) {res : (List shift_Mark)} (hF : kit_Copy_shift_Mark N l = some res) : Calls Try.prog 40 #[.slice l_p l.length l_c] w (fun e w => ∃ (p'1 : Option Addr) (c'1 : Nat), e = .returned (.slice p'1 res.length c'1) ∧ Ctx G (.row p'1 c'1 (res.map enc_shift_Mark) 77 2 :: Lf) w) := by
  unfold kit_Copy_shift_Mark at hF
  refine fnIn (args := [.slice l_p l.length l_c]) Try.func40 rfl Try.ntmps40 rfl fun a hf => ?_
  refine wp_seq_k fun K1 h1 => ?_
  refine cReg ?_
  refine stP hf rfl rfl rfl (pA rfl) fun a hf => ?_
  refine cNil ?_
  refine h1 _ _ ?_
  refine wp_seq_k fun K2 h2 => ?_
  refine cReg ?_
  refine stP hf rfl rfl rfl (pA rfl) fun a hf => ?_
  refine cNil ?_
  refine h2 _ _ ?_
  refine wp_seq_k fun K3 h3 => ?_
  refine cReg ?_
  refine stP hf rfl rfl rfl (pM rfl) fun a hf => ?_
  refine stP hf rfl rfl rfl (pM rfl) fun a hf => ?_
  replace hc := hc.nilRow 77 2
  obtain ⟨un, hun, hF⟩ := bnd_some hF
  refine stApm (xs := ([] : List shift_Mark)) (ys := l) hf hc rfl rfl sl_22 rfl rfl rfl rfl rfl one_enc_shift_Mark (src_rd hc h_l) (fun _ _ => u0) (by simpa using room_spec hun) fun p_1 c_1 a w hf hc => ?_
  refine stP hf rfl rfl rfl (pA rfl) fun a hf => ?_
  refine cNil ?_
  refine h3 _ _ ?_
  refine wp_ret ?_
  obtain rfl := Option.some.inj hF
  exact fnOut1 (by simp) rfl Try.results40 hf hc (show look _ 2 = _ from rfl) ⟨p_1, c_1, rfl, hc⟩

def kit_Copy_shift_Gauging (N : Nat) (l : List shift_Gauging) : Option ((List shift_Gauging)) :=
  Option.bind (room (l).length) fun un =>
  some l
theorem kit_Copy_shift_Gauging_ok {N : Nat} {G : Pers} {Lf : List Ent} {w : World} (l : List shift_Gauging) {l_p : Option Addr} {l_c : Nat} (h_l : Rd G 4 l_p l_c (l.map enc_shift_Gauging)) (hc : Ctx G (Lf) w) {res : (List shift_Gauging)} (hF : kit_Copy_shift_Gauging N l = some res) : Calls Try.prog 57 #[.slice l_p l.length l_c] w (fun e w => ∃ (p'1 : Option Addr) (c'1 : Nat), e = .returned (.slice p'1 res.length c'1) ∧ Ctx G (.row p'1 c'1 (res.map enc_shift_Gauging) 71 4 :: Lf) w) := by
  unfold kit_Copy_shift_Gauging at hF
  refine fnIn (args := [.slice l_p l.length l_c]) Try.func57 rfl Try.ntmps57 rfl fun a hf => ?_
  refine wp_seq_k fun K1 h1 => ?_
  refine cReg ?_
  refine stP hf rfl rfl rfl (pA rfl) fun a hf => ?_
  refine cNil ?_
  refine h1 _ _ ?_
  refine wp_seq_k fun K2 h2 => ?_
  refine cReg ?_
  refine stP hf rfl rfl rfl (pA rfl) fun a hf => ?_
  refine cNil ?_
  refine h2 _ _ ?_
  refine wp_seq_k fun K3 h3 => ?_
  refine cReg ?_
  refine stP hf rfl rfl rfl (pM rfl) fun a hf => ?_
  refine stP hf rfl rfl rfl (pM rfl) fun a hf => ?_
  replace hc := hc.nilRow 71 4
  obtain ⟨un, hun, hF⟩ := bnd_some hF
  refine stApm (xs := ([] : List shift_Gauging)) (ys := l) hf hc rfl rfl sl_23 rfl rfl rfl rfl rfl one_enc_shift_Gauging (src_rd hc h_l) (fun _ _ => u0) (by simpa using room_spec hun) fun p_1 c_1 a w hf hc => ?_
  refine stP hf rfl rfl rfl (pA rfl) fun a hf => ?_
  refine cNil ?_
  refine h3 _ _ ?_
  refine wp_ret ?_
  obtain rfl := Option.some.inj hF
  exact fnOut1 (by simp) rfl Try.results57 hf hc (show look _ 2 = _ from rfl) ⟨p_1, c_1, rfl, hc⟩

def law05_CopyRecord (N : Nat) (r : shift_Record) : Option (shift_Record) :=
  Option.bind (kit_Copy_shift_Mark N r.Rating) fun r_0 =>
  Option.bind (kit_Copy_shift_Gauging N r.Gaugings) fun r_1 =>
  some (⟨r_0, r_1⟩ : shift_Record)
theorem law05_CopyRecord_ok {N : Nat} {G : Pers} {Lf : List Ent} {w : World} (r : shift_Record) {r_Rating_p : Option Addr} {r_Rating_c : Nat} {r_Gaugings_p : Option Addr} {r_Gaugings_c : Nat} (h_r_Rating : Rd G 2 r_Rating_p r_Rating_c (r.Rating.map enc_shift_Mark)) (h_r_Gaugings : Rd G 4 r_Gaugings_p r_Gaugings_c (r.Gaugings.map enc_shift_Gauging)) (hc : Ctx G (Lf) w) {res : shift_Record} (hF : law05_CopyRecord N r = some res) : Calls Try.prog 13 #[.agg #[.slice r_Rating_p r.Rating.length r_Rating_c, .slice r_Gaugings_p r.Gaugings.length r_Gaugings_c]] w (fun e w => ∃ (p'1 : Option Addr) (c'1 : Nat) (p'2 : Option Addr) (c'2 : Nat), e = .returned (.agg #[.slice p'1 res.Rating.length c'1, .slice p'2 res.Gaugings.length c'2]) ∧ Ctx G (.row p'1 c'1 (res.Rating.map enc_shift_Mark) 77 2 :: .row p'2 c'2 (res.Gaugings.map enc_shift_Gauging) 71 4 :: Lf) w) := by
  unfold law05_CopyRecord at hF
  refine fnIn (args := [.agg #[.slice r_Rating_p r.Rating.length r_Rating_c, .slice r_Gaugings_p r.Gaugings.length r_Gaugings_c]]) Try.func13 rfl Try.ntmps13 rfl fun a hf => ?_
  refine wp_seq_k fun K1 h1 => ?_
  refine cReg ?_
  refine stBx (cs := [.slice r_Rating_p r.Rating.length r_Rating_c, .slice r_Gaugings_p r.Gaugings.length r_Gaugings_c]) hf hc rfl rfl rfl rfl fun b_1 a w hf hc => ?_
  refine stAl (cs := [.slice none 0 0, .slice none 0 0]) hf hc rfl rfl zr_25 rfl fun b_2 a w hf hc => ?_
  refine cNil ?_
  refine h1 _ _ ?_
  refine wp_seq_k fun K2 h2 => ?_
  obtain ⟨r_0, hr_0, hF⟩ := bnd_some hF
  obtain ⟨r_1, hr_1, hF⟩ := bnd_some hF
  replace hc := hc.nilRow 0 0
  replace hc := hc.nilRow 0 0
  refine regionE (fun θ => [⟨none, none, 1, .pointer (some ⟨b_1, 0, none⟩)⟩, ⟨none, none, 2, .pointer (some ⟨b_2, 0, none⟩)⟩, ⟨some 0, none, 3, .pointer (some ⟨b_1, 0, none⟩)⟩, ⟨some 1, none, 4, .slice r_Rating_p r.Rating.length r_Rating_c⟩, ⟨some 2, none, 5, .slice ((θ 16).p) r_0.length ((θ 16).c)⟩, ⟨some 3, none, 6, .pointer (some ⟨b_1, 1, none⟩)⟩, ⟨some 4, none, 7, .slice r_Gaugings_p r.Gaugings.length r_Gaugings_c⟩, ⟨some 5, none, 8, .slice ((θ 40).p) r_1.length ((θ 40).c)⟩, ⟨some 6, none, 9, .agg #[.slice ((θ 16).p) r_0.length ((θ 16).c), .slice ((θ 40).p) r_1.length ((θ 40).c)]⟩]) (fun E θ => (bif E 5 then .row ((θ 40).p) ((θ 40).c) (r_1.map enc_shift_Gauging) 71 4 else .row none 0 [] 0 0) :: (bif E 2 then .row ((θ 16).p) ((θ 16).c) (r_0.map enc_shift_Mark) 77 2 else .row none 0 [] 0 0) :: (bif E 7 then .box b_2 [.slice ((θ 16).p) r_0.length ((θ 16).c), .slice ((θ 40).p) r_1.length ((θ 40).c)] 25 else .box b_2 [.slice none 0 0, .slice none 0 0] 25) :: .box b_1 [.slice r_Rating_p r.Rating.length r_Rating_c, .slice r_Gaugings_p r.Gaugings.length r_Gaugings_c] 25 :: Lf) [(7, 2), (6, 2), (7, 5), (6, 5)] (fun a w => ∃ (p_3 : Option Addr) (c_3 : Nat) (p_4 : Option Addr) (c_4 : Nat), Has 10 a [(2, .pointer (some ⟨b_2, 0, none⟩))] ∧ Ctx G (.row p_3 c_3 (r_1.map enc_shift_Gauging) 71 4 :: .row p_4 c_4 (r_0.map enc_shift_Mark) 77 2 :: .box b_2 [.slice p_4 r_0.length c_4, .slice p_3 r_1.length c_3] 25 :: .box b_1 [.slice r_Rating_p r.Rating.length r_Rating_c, .slice r_Gaugings_p r.Gaugings.length r_Gaugings_c] 25 :: Lf) w) follows_mx (by kernel_rfl) (by kernel_rfl) (HasE.of hf ⟨rfl, rfl, trivial, trivial, trivial, trivial, trivial, trivial, trivial, trivial⟩) hc ⟨?_, ?_, ?_, ?_, ?_, ?_, ?_, ?_, trivial⟩ ?_ ?_
  · intro E θ a w hD hi hp he hc
    have hf := he.h0
    replace hf := hf.more he 0 rfl onT
    refine stP hf rfl rfl rfl (pFA fa_25_0 rfl) fun a hf => ?_
    refine cNil ?_
    refine xThenN ?_
    intro ds u hau
    refine ⟨θ, he.put0 hi hau hf rfl 2 rfl rfl, ?_⟩
    exact hc
  · intro E θ a w hD hi hp he hc
    have e0 := hp.of (k := 0) rfl
    have hf := he.h0
    replace hf := hf.more he 2 rfl (onP e0)
    refine stE hf hc rfl rfl rfl (eLd1 sc_22 rfl (cell_box m3 rfl)) fun a w hf hc => ?_
    refine cNil ?_
    refine xThenN ?_
    intro ds u hau
    refine ⟨θ, he.put0 hi hau hf rfl 3 rfl rfl, ?_⟩
    exact hc
  · intro E θ a w hD hi hp he hc
    have e1 := hp.of (k := 1) rfl
    have e7 := hD.f 0 rfl hi
    have e6 := hD.f 1 rfl hi
    try dsimp only at hc
    rw [hi, e7] at hc
    have hf := he.h0
    replace hf := hf.more he 3 rfl (onP e1)
    refine stC (vs := [.slice r_Rating_p r.Rating.length r_Rating_c]) (caps := []) hf rfl rfl rfl en_40 rfl rfl rfl rfl (kit_Copy_shift_Mark_ok r.Rating h_r_Rating hc hr_0) ?_
    rintro _ w ⟨p_1, c_1, rfl, hc⟩
    refine ⟨_, rfl, fun a hf => ?_⟩
    refine cNil ?_
    refine xThenN ?_
    intro ds u hau
    replace hc := hc.drop k2
    replace hc := hc.pick k0
    replace hc := hc.pick k1
    refine ⟨(setT θ 16 ⟨0, p_1, c_1⟩), he.put hi hau hf rfl [6] ⟨⟨e6, rfl⟩, trivial⟩ ⟨qq, qq, qq, qq, qq, qq, qq, qq, trivial, trivial⟩, ?_⟩
    try dsimp only
    rw [updE_self E 2, updE_fls 2 e7 rfl]
    exact hc
  · intro E θ a w hD hi hp he hc
    have hf := he.h0
    replace hf := hf.more he 0 rfl onT
    refine stP hf rfl rfl rfl (pFA fa_25_1 rfl) fun a hf => ?_
    refine cNil ?_
    refine xThenN ?_
    intro ds u hau
    refine ⟨θ, he.put0 hi hau hf rfl 5 rfl rfl, ?_⟩
    exact hc
  · intro E θ a w hD hi hp he hc
    have e3 := hp.of (k := 3) rfl
    have hf := he.h0
    replace hf := hf.more he 5 rfl (onP e3)
    refine stE hf hc rfl rfl rfl (eLd1 sc_23 rfl (cell_box m3 rfl)) fun a w hf hc => ?_
    refine cNil ?_
    refine xThenN ?_
    intro ds u hau
    refine ⟨θ, he.put0 hi hau hf rfl 6 rfl rfl, ?_⟩
    exact hc
  · intro E θ a w hD hi hp he hc
    have e4 := hp.of (k := 4) rfl
    have e7 := hD.f 2 rfl hi
    have e6 := hD.f 3 rfl hi
    try dsimp only at hc
    rw [hi, e7] at hc
    have hf := he.h0
    replace hf := hf.more he 6 rfl (onP e4)
    refine stC (vs := [.slice r_Gaugings_p r.Gaugings.length r_Gaugings_c]) (caps := []) hf rfl rfl rfl en_57 rfl rfl rfl rfl (kit_Copy_shift_Gauging_ok r.Gaugings h_r_Gaugings hc hr_1) ?_
    rintro _ w ⟨p_2, c_2, rfl, hc⟩
    refine ⟨_, rfl, fun a hf => ?_⟩
    refine cNil ?_
    refine xThenN ?_
    intro ds u hau
    replace hc := hc.drop k1
    refine ⟨(setT θ 40 ⟨0, p_2, c_2⟩), he.put hi hau hf rfl [6] ⟨⟨e6, rfl⟩, trivial⟩ ⟨qq, qq, qq, qq, qq, qq, qq, qq, trivial, trivial⟩, ?_⟩
    try dsimp only
    rw [updE_self E 5, updE_fls 5 e7 rfl]
    exact hc
  · intro E θ a w hD hi hp he hc
    have e2 := hp.of (k := 2) rfl
    have e5 := hp.of (k := 5) rfl
    have hf := he.h0
    replace hf := hf.more he 4 rfl (onP e2)
    replace hf := hf.more he 7 rfl (onP e5)
    refine stP hf rfl rfl rfl (pBuildS (cells := [.slice ((θ 16).p) r_0.length ((θ 16).c), .slice ((θ 40).p) r_1.length ((θ 40).c)]) bt_25 rfl rfl) fun a hf => ?_
    refine cNil ?_
    refine xThenN ?_
    intro ds u hau
    refine ⟨θ, he.put0 hi hau hf rfl 8 rfl rfl, ?_⟩
    exact hc
  · intro E θ a w hD hi hp he hc
    have e6 := hp.of (k := 6) rfl
    try dsimp only at hc
    rw [hi] at hc
    have hf := he.h0
    replace hf := hf.more he 1 rfl onT
    replace hf := hf.more he 8 rfl (onP e6)
    refine stSt (vs := [.slice ((θ 16).p) r_0.length ((θ 16).c), .slice ((θ 40).p) r_1.length ((θ 40).c)]) hf hc rfl rfl rfl rfl sz_25 rfl rfl u2 fun w hc => ?_
    refine cNil ?_
    refine xThenN ?_
    intro ds u hau
    refine ⟨θ, he.stay0 hi hau hf rfl, ?_⟩
    try dsimp only
    rw [updE_self E 7]
    exact hc
  · intro E θ a w hall he hc
    have hf := he.h0
    have e2 := hall 2 rfl
    have e5 := hall 5 rfl
    have e7 := hall 7 rfl
    replace hf := hf.more he 1 rfl (onT)
    try dsimp only at hc
    rw [e2, e5, e7] at hc
    exact ⟨(θ 40).p, (θ 40).c, (θ 16).p, (θ 16).c, hf.keep ⟨rfl, trivial⟩, hc⟩
  rintro a w ⟨p_3, c_3, p_4, c_4, hf, hc⟩
  refine h2 _ _ ?_
  refine wp_ret ?_
  obtain rfl := Option.some.inj hF
  replace hc := hc.drop k3
  replace hc := hc.pick k0
  replace hc := hc.pick k1
  exact fnOut1 (by simp) rfl Try.results13 hf hc (rv_cellN (vs := [.slice p_4 r_0.length c_4, .slice p_3 r_1.length c_3]) ag_25 rfl rfl (cells_box (n := 2) m2 rfl)) ⟨p_4, c_4, p_3, c_3, rfl, (hc.drop k2)⟩

def law05_Three (N : Nat)  : Option (shift_Record) :=
  Option.bind (law05_span N 90 130) fun r =>
  Option.bind (law05_span N 95 100) fun r_1 =>
  Option.bind (law05_span N 70 160) fun r_2 =>
  some (⟨([(⟨0, 0⟩ : shift_Mark), (⟨10, 100⟩ : shift_Mark), (⟨20, 400⟩ : shift_Mark)] : List shift_Mark), ([(⟨1, 13, r⟩ : shift_Gauging), (⟨5, 10, r_1⟩ : shift_Gauging), (⟨9, 15, r_2⟩ : shift_Gauging)] : List shift_Gauging)⟩ : shift_Record)
theorem law05_Three_ok {N : Nat} {G : Pers} {Lf : List Ent} {w : World}    (hc : Ctx G (Lf) w) {res : shift_Record} (hF : law05_Three N = some res) : Calls Try.prog 55 #[] w (fun e w => ∃ (p'1 : Option Addr) (c'1 : Nat) (p'2 : Option Addr) (c'2 : Nat), e = .returned (.agg #[.slice p'1 res.Rating.length c'1, .slice p'2 res.Gaugings.length c'2]) ∧ Ctx G (.row p'1 c'1 (res.Rating.map enc_shift_Mark) 77 2 :: .row p'2 c'2 (res.Gaugings.map enc_shift_Gauging) 71 4 :: Lf) w) := by
  unfold law05_Three at hF
  refine fnIn (args := []) Try.func55 rfl Try.ntmps55 rfl fun a hf => ?_
  refine wp_seq_k fun K1 h1 => ?_
  refine cReg ?_
  refine stAl (cs := [.slice none 0 0, .slice none 0 0]) hf hc rfl rfl zr_25 rfl fun b_1 a w hf hc => ?_
  refine cNil ?_
  refine h1 _ _ ?_
  refine wp_seq_k fun K2 h2 => ?_
  refine cReg ?_
  refine stP hf rfl rfl rfl (pBuildS (cells := [.int .i64 0, .int .i64 0]) bt_77 rfl rfl) fun a hf => ?_
  refine stP hf rfl rfl rfl (pBuildS (cells := [.int .i64 10, .int .i64 100]) bt_77 rfl rfl) fun a hf => ?_
  refine stP hf rfl rfl rfl (pBuildS (cells := [.int .i64 20, .int .i64 400]) bt_77 rfl rfl) fun a hf => ?_
  refine stBS (rows := ([(⟨0, 0⟩ : shift_Mark), (⟨10, 100⟩ : shift_Mark), (⟨20, 400⟩ : shift_Mark)] : List shift_Mark).map enc_shift_Mark) (vs := [(0, .agg #[.int .i64 0, .int .i64 0]), (1, .agg #[.int .i64 10, .int .i64 100]), (2, .agg #[.int .i64 20, .int .i64 400])]) hf hc rfl rfl sl_22 rfl ⟨rfl, rfl, rfl, rfl, rfl, rfl, rfl, rfl, rfl, trivial⟩ rfl rfl fun b_2 a w hf hc => ?_
  obtain ⟨r, hr, hF⟩ := bnd_some hF
  refine stE hf hc rfl rfl rfl (eC (v := .agg #[.int .i64 r.Lo, .int .i64 r.Hi]) (vs := [.int .i64 90, .int .i64 130]) (caps := []) en_47 rfl rfl rfl rfl (fun w hc => law05_span_ok 90 130 hc hr)) fun a w hf hc => ?_
  refine stP hf rfl rfl rfl (pBuildS (cells := [.int .i64 1, .int .i64 13, .int .i64 r.Lo, .int .i64 r.Hi]) bt_71 rfl rfl) fun a hf => ?_
  obtain ⟨r_1, hr_1, hF⟩ := bnd_some hF
  refine stE hf hc rfl rfl rfl (eC (v := .agg #[.int .i64 r_1.Lo, .int .i64 r_1.Hi]) (vs := [.int .i64 95, .int .i64 100]) (caps := []) en_47 rfl rfl rfl rfl (fun w hc => law05_span_ok 95 100 hc hr_1)) fun a w hf hc => ?_
  refine stP hf rfl rfl rfl (pBuildS (cells := [.int .i64 5, .int .i64 10, .int .i64 r_1.Lo, .int .i64 r_1.Hi]) bt_71 rfl rfl) fun a hf => ?_
  obtain ⟨r_2, hr_2, hF⟩ := bnd_some hF
  refine stE hf hc rfl rfl rfl (eC (v := .agg #[.int .i64 r_2.Lo, .int .i64 r_2.Hi]) (vs := [.int .i64 70, .int .i64 160]) (caps := []) en_47 rfl rfl rfl rfl (fun w hc => law05_span_ok 70 160 hc hr_2)) fun a w hf hc => ?_
  refine stP hf rfl rfl rfl (pBuildS (cells := [.int .i64 9, .int .i64 15, .int .i64 r_2.Lo, .int .i64 r_2.Hi]) bt_71 rfl rfl) fun a hf => ?_
  refine stBS (rows := ([(⟨1, 13, r⟩ : shift_Gauging), (⟨5, 10, r_1⟩ : shift_Gauging), (⟨9, 15, r_2⟩ : shift_Gauging)] : List shift_Gauging).map enc_shift_Gauging) (vs := [(0, .agg #[.int .i64 1, .int .i64 13, .int .i64 r.Lo, .int .i64 r.Hi]), (1, .agg #[.int .i64 5, .int .i64 10, .int .i64 r_1.Lo, .int .i64 r_1.Hi]), (2, .agg #[.int .i64 9, .int .i64 15, .int .i64 r_2.Lo, .int .i64 r_2.Hi])]) hf hc rfl rfl sl_23 rfl ⟨rfl, rfl, rfl, rfl, rfl, rfl, rfl, rfl, rfl, trivial⟩ rfl rfl fun b_3 a w hf hc => ?_
  refine stP hf rfl rfl rfl (pBuildS (cells := [.slice (some ⟨b_2, 0, none⟩) 3 3, .slice (some ⟨b_3, 0, none⟩) 3 3]) bt_25 rfl rfl) fun a hf => ?_
  refine stSt (vs := [.slice (some ⟨b_2, 0, none⟩) 3 3, .slice (some ⟨b_3, 0, none⟩) 3 3]) hf hc rfl rfl rfl rfl sz_25 rfl rfl u2 fun w hc => ?_
  refine cNil ?_
  refine h2 _ _ ?_
  refine wp_ret ?_
  obtain rfl := Option.some.inj hF
  replace hc := hc.pick k0
  replace hc := hc.pick k1
  exact fnOut1 (by simp) rfl Try.results55 hf hc (rv_cellN (vs := [.slice (some ⟨b_2, 0, none⟩) 3 3, .slice (some ⟨b_3, 0, none⟩) 3 3]) ag_25 rfl rfl (cells_box (n := 2) m2 rfl)) ⟨(some ⟨b_2, 0, none⟩), 3, (some ⟨b_3, 0, none⟩), 3, rfl, (hc.drop k2)⟩

def shift_Rising_j3 (N : Nat) (rating : List shift_Mark) (stage : Int) (shift : Int) (rise : Int) (per : Int) (e_1 : Int) : Option (api_Ratio × Int) :=
  cond (e_1 != 0)
  (some ((⟨0, 0⟩ : api_Ratio), e_1))
  (Option.bind (shift_means N rating (W (stage - shift))) fun r_1 =>
  Option.bind (shift_ratio N (W (r_1.N * (max 0 (W (1000 + (W (rise * per))))))) (W (1000 * r_1.D))) fun r_2 =>
  some (r_2, 0))
def shift_Rising (N : Nat) (rating : List shift_Mark) (stage : Int) (shift : Int) (rise : Int) (per : Int) : Option (api_Ratio × Int) :=
  Option.bind (shift_asked N rating stage shift) fun r =>
  cond ((r == 0) && ((!(shift_in rise (-1000) 1000)) || (!(shift_in per 0 1000))))
  (shift_Rising_j3 N rating stage shift rise per 4)
  (shift_Rising_j3 N rating stage shift rise per r)
theorem shift_Rising_ok {N : Nat} {G : Pers} {Lf : List Ent} {w : World} (rating : List shift_Mark) (stage : Int) (shift : Int) (rise : Int) (per : Int) {rating_p : Option Addr} {rating_c : Nat} (h_rating : Rd G 2 rating_p rating_c (rating.map enc_shift_Mark)) (hc : Ctx G (Lf) w) {res : api_Ratio × Int} (hF : shift_Rising N rating stage shift rise per = some res) : Calls Try.prog 20 #[.slice rating_p rating.length rating_c, .int .i64 stage, .int .i64 shift, .int .i64 rise, .int .i64 per] w (fun e w => e = .returned (.tuple #[.agg #[.int .i64 res.1.N, .int .i64 res.1.D], .int .i64 res.2]) ∧ Ctx G (Lf) w) := by
  unfold shift_Rising at hF
  refine fnIn (args := [.slice rating_p rating.length rating_c, .int .i64 stage, .int .i64 shift, .int .i64 rise, .int .i64 per]) Try.func20 rfl Try.ntmps20 rfl fun a hf => ?_
  refine wp_seq_k fun K1 h1 => ?_
  refine cReg ?_
  refine stAl (cs := [.int .i64 0, .int .i64 0]) hf hc rfl rfl zr_37 rfl fun b_1 a w hf hc => ?_
  refine stP hf rfl rfl rfl (pA rfl) fun a hf => ?_
  refine cNil ?_
  refine h1 _ _ ?_
  refine wp_seq_k fun K2 h2 => ?_
  refine cReg ?_
  refine stP hf rfl rfl rfl (pM rfl) fun a hf => ?_
  refine stP hf rfl rfl rfl (pM rfl) fun a hf => ?_
  refine stP hf rfl rfl rfl (pM rfl) fun a hf => ?_
  obtain ⟨r, hr, hF⟩ := bnd_some hF
  refine stE hf hc rfl rfl rfl (eC (v := .int .i64 r) (vs := [.slice rating_p rating.length rating_c, .int .i64 stage, .int .i64 shift]) (caps := []) en_68 rfl rfl rfl rfl (fun w hc => shift_asked_ok rating stage shift h_rating hc hr)) fun a w hf hc => ?_
  refine stP hf rfl rfl rfl (pA rfl) fun a hf => ?_
  refine cNil ?_
  refine h2 _ _ ?_
  refine wp_seq_k fun K3 h3 => ?_
  have hj3 : ∀ (e_1 : Int) a w, Has 51 a [(0, .slice rating_p rating.length rating_c), (1, .int .i64 stage), (2, .int .i64 shift), (3, .int .i64 rise), (4, .int .i64 per), (10, .pointer (some ⟨b_1, 0, none⟩)), (12, .int .i64 e_1)] → Ctx G (.box b_1 [.int .i64 0, .int .i64 0] 37 :: Lf) w → shift_Rising_j3 N rating stage shift rise per e_1 = some res → K3 a w := by
    repeat (clear hF)
    repeat (clear hc)
    repeat (clear hf)
    intro e_1 a w hf hc hF
    unfold shift_Rising_j3 at hF
    refine h3 _ _ ?_
    refine wp_seq_k fun K4 h4 => ?_
    refine wp_seq_k fun K5 h5 => ?_
    refine cReg ?_
    refine stP hf rfl rfl rfl (pM rfl) fun a hf => ?_
    refine stP hf rfl rfl rfl (pNe rfl rfl) fun a hf => ?_
    refine cNil ?_
    refine h5 _ _ ?_
    refine cCond (b := (e_1 != 0)) hf rfl (fun hb => ?_) (fun hb => ?_)
    · replace hF := condT hb hF
      clear hb
      refine wp_seq_k fun K6 h6 => ?_
      refine cReg ?_
      refine stP hf rfl rfl rfl (pBuildS (cells := [.int .i64 0, .int .i64 0]) bt_37 rfl rfl) fun a hf => ?_
      refine stP hf rfl rfl rfl (pM rfl) fun a hf => ?_
      refine stSt (vs := [.int .i64 0, .int .i64 0]) hf hc rfl rfl rfl rfl sz_37 rfl rfl u0 fun w hc => ?_
      refine stP hf rfl rfl rfl (pA rfl) fun a hf => ?_
      refine cNil ?_
      refine h6 _ _ ?_
      refine wp_ret ?_
      refine xThenR ?_
      obtain rfl := Option.some.inj hF
      exact fnOut2 (by simp) rfl Try.results20 hf hc (rv_cellN (vs := [.int .i64 0, .int .i64 0]) ag_37 rfl rfl (cells_box (n := 2) m0 rfl)) (show look _ 11 = _ from rfl) ⟨rfl, (hc.drop k0)⟩
    · replace hF := condF hb hF
      clear hb
      refine wp_skip ?_
      refine h4 _ _ ?_
      refine wp_seq_k fun K7 h7 => ?_
      refine cReg ?_
      refine stP hf rfl rfl rfl (pM rfl) fun a hf => ?_
      refine stP hf rfl rfl rfl (pM rfl) fun a hf => ?_
      refine stP hf rfl rfl rfl (pM rfl) fun a hf => ?_
      refine stP hf rfl rfl rfl (pSub rfl rfl) fun a hf => ?_
      obtain ⟨r_1, hr_1, hF⟩ := bnd_some hF
      refine stE hf hc rfl rfl rfl (eC (v := .agg #[.int .i64 r_1.N, .int .i64 r_1.D]) (vs := [.slice rating_p rating.length rating_c, .int .i64 (W (stage - shift))]) (caps := []) en_69 rfl rfl rfl rfl (fun w hc => shift_means_ok rating (W (stage - shift)) h_rating hc hr_1)) fun a w hf hc => ?_
      refine stAl (cs := [.int .i64 0, .int .i64 0]) hf hc rfl rfl zr_37 rfl fun b_2 a w hf hc => ?_
      refine stSt (vs := [.int .i64 r_1.N, .int .i64 r_1.D]) hf hc rfl rfl rfl rfl sz_37 rfl rfl u0 fun w hc => ?_
      refine cNil ?_
      refine h7 _ _ ?_
      refine wp_seq_k fun K8 h8 => ?_
      refine cReg ?_
      refine stP hf rfl rfl rfl (pFA fa_37_0 rfl) fun a hf => ?_
      refine stE hf hc rfl rfl rfl (eLd1 sc_3 rfl (cell_box m0 rfl)) fun a w hf hc => ?_
      refine stP hf rfl rfl rfl (pM rfl) fun a hf => ?_
      refine stP hf rfl rfl rfl (pM rfl) fun a hf => ?_
      refine stP hf rfl rfl rfl (pMul rfl rfl) fun a hf => ?_
      refine stP hf rfl rfl rfl (pAdd rfl rfl) fun a hf => ?_
      refine stP hf rfl rfl rfl (pMax2 rfl rfl) fun a hf => ?_
      refine stP hf rfl rfl rfl (pMul rfl rfl) fun a hf => ?_
      refine stP hf rfl rfl rfl (pFA fa_37_1 rfl) fun a hf => ?_
      refine stE hf hc rfl rfl rfl (eLd1 sc_3 rfl (cell_box m0 rfl)) fun a w hf hc => ?_
      refine stP hf rfl rfl rfl (pMul rfl rfl) fun a hf => ?_
      obtain ⟨r_2, hr_2, hF⟩ := bnd_some hF
      refine stE hf hc rfl rfl rfl (eC (v := .agg #[.int .i64 r_2.N, .int .i64 r_2.D]) (vs := [.int .i64 (W (r_1.N * (max 0 (W (1000 + (W (rise * per))))))), .int .i64 (W (1000 * r_1.D))]) (caps := []) en_71 rfl rfl rfl rfl (fun w hc => shift_ratio_ok (W (r_1.N * (max 0 (W (1000 + (W (rise * per))))))) (W (1000 * r_1.D)) hc hr_2)) fun a w hf hc => ?_
      refine stSt (vs := [.int .i64 r_2.N, .int .i64 r_2.D]) hf hc rfl rfl rfl rfl sz_37 rfl rfl u1 fun w hc => ?_
      refine stP hf rfl rfl rfl (pA rfl) fun a hf => ?_
      refine cNil ?_
      refine h8 _ _ ?_
      refine wp_ret ?_
      obtain rfl := Option.some.inj hF
      replace hc := hc.drop k0
      exact fnOut2 (by simp) rfl Try.results20 hf hc (rv_cellN (vs := [.int .i64 r_2.N, .int .i64 r_2.D]) ag_37 rfl rfl (cells_box (n := 2) m0 rfl)) (show look _ 11 = _ from rfl) ⟨rfl, (hc.drop k0)⟩
  refine wp_seq_k fun K9 h9 => ?_
  refine cReg ?_
  refine stP hf rfl rfl rfl (pM rfl) fun a hf => ?_
  refine stP hf rfl rfl rfl (pEq rfl rfl) fun a hf => ?_
  refine stP hf rfl rfl rfl (pM rfl) fun a hf => ?_
  refine stCut 9 (fun a w => Has 51 a [(0, .slice rating_p rating.length rating_c), (1, .int .i64 stage), (2, .int .i64 shift), (3, .int .i64 rise), (4, .int .i64 per), (10, .pointer (some ⟨b_1, 0, none⟩)), (12, .int .i64 r), (18, .int .i64 r), (19, .bool (r == 0)), (20, .bool (r == 0)), (29, .bool ((r == 0) && ((!(shift_in rise (-1000) 1000)) || (!(shift_in per 0 1000)))))] ∧ Ctx G (.box b_1 [.int .i64 0, .int .i64 0] 37 :: Lf) w) ?_ ?_
  · cases hb : (r == 0)
    · rw [hb] at hf
      refine stS hf rfl rfl rfl fun a hf => ?_
      refine stS hf rfl rfl rfl fun a hf => ?_
      refine stS hf rfl rfl rfl fun a hf => ?_
      refine stS hf rfl rfl rfl fun a hf => ?_
      refine stS hf rfl rfl rfl fun a hf => ?_
      refine stS hf rfl rfl rfl fun a hf => ?_
      refine stS hf rfl rfl rfl fun a hf => ?_
      refine stS hf rfl rfl rfl fun a hf => ?_
      refine stP hf rfl rfl rfl (pPf rfl rfl) fun a hf => ?_
      exact cNil ⟨hf.keep ⟨rfl, rfl, rfl, rfl, rfl, rfl, rfl, rfl, rfl, rfl, rfl, trivial⟩, hc⟩
    · rw [hb] at hf
      refine stP hf rfl rfl rfl (pM rfl) fun a hf => ?_
      refine stE hf hc rfl rfl rfl (eC (v := .bool (shift_in rise (-1000) 1000)) (vs := [.int .i64 rise, .int .i64 (-1000), .int .i64 1000]) (caps := []) en_59 rfl rfl rfl rfl (fun w hc => shift_in_ok rise (-1000) 1000 hc rfl)) fun a w hf hc => ?_
      refine stP hf rfl rfl rfl (pNot rfl) fun a hf => ?_
      refine stP hf rfl rfl rfl (pM rfl) fun a hf => ?_
      refine stCut 4 (fun a w => Has 51 a [(0, .slice rating_p rating.length rating_c), (1, .int .i64 stage), (2, .int .i64 shift), (3, .int .i64 rise), (4, .int .i64 per), (10, .pointer (some ⟨b_1, 0, none⟩)), (12, .int .i64 r), (18, .int .i64 r), (19, .bool true), (20, .bool true), (21, .int .i64 rise), (22, .bool (shift_in rise (-1000) 1000)), (23, .bool (!(shift_in rise (-1000) 1000))), (24, .bool (!(shift_in rise (-1000) 1000))), (28, .bool ((!(shift_in rise (-1000) 1000)) || (!(shift_in per 0 1000))))] ∧ Ctx G (.box b_1 [.int .i64 0, .int .i64 0] 37 :: Lf) w) ?_ ?_
      · cases hb : (!(shift_in rise (-1000) 1000))
        · rw [hb] at hf
          refine stP hf rfl rfl rfl (pM rfl) fun a hf => ?_
          refine stE hf hc rfl rfl rfl (eC (v := .bool (shift_in per 0 1000)) (vs := [.int .i64 per, .int .i64 0, .int .i64 1000]) (caps := []) en_59 rfl rfl rfl rfl (fun w hc => shift_in_ok per 0 1000 hc rfl)) fun a w hf hc => ?_
          refine stP hf rfl rfl rfl (pNot rfl) fun a hf => ?_
          refine stP hf rfl rfl rfl (pPf rfl rfl) fun a hf => ?_
          exact cNil ⟨hf.keep ⟨rfl, rfl, rfl, rfl, rfl, rfl, rfl, rfl, rfl, rfl, rfl, rfl, rfl, rfl, rfl, trivial⟩, hc⟩
        · rw [hb] at hf
          refine stS hf rfl rfl rfl fun a hf => ?_
          refine stS hf rfl rfl rfl fun a hf => ?_
          refine stS hf rfl rfl rfl fun a hf => ?_
          refine stP hf rfl rfl rfl (pPt rfl rfl) fun a hf => ?_
          exact cNil ⟨hf.keep ⟨rfl, rfl, rfl, rfl, rfl, rfl, rfl, rfl, rfl, rfl, rfl, rfl, rfl, rfl, rfl, trivial⟩, hc⟩
      intro a w ⟨hf, hc⟩
      refine stP hf rfl rfl rfl (pPt rfl rfl) fun a hf => ?_
      exact cNil ⟨hf.keep ⟨rfl, rfl, rfl, rfl, rfl, rfl, rfl, rfl, rfl, rfl, rfl, trivial⟩, hc⟩
  intro a w ⟨hf, hc⟩
  refine cNil ?_
  refine h9 _ _ ?_
  refine cCond (b := ((r == 0) && ((!(shift_in rise (-1000) 1000)) || (!(shift_in per 0 1000))))) hf rfl (fun hb => ?_) (fun hb => ?_)
  · replace hF := condT hb hF
    clear hb
    refine cReg ?_
    refine stP hf rfl rfl rfl (pA rfl) fun a hf => ?_
    refine cNil ?_
    exact hj3 4 _ _  (hf.keep ⟨rfl, rfl, rfl, rfl, rfl, rfl, rfl, trivial⟩) hc hF
  · replace hF := condF hb hF
    clear hb
    refine wp_skip ?_
    exact hj3 r _ _  (hf.keep ⟨rfl, rfl, rfl, rfl, rfl, rfl, rfl, trivial⟩) hc hF

def shift_Passes (N : Nat) (r : shift_Record) : Option ((List api_Span) × Int) :=
  Option.bind (shift_opened N r) (sumK (fun r_0 => cond (r_0 != 0)
  (some (([] : List api_Span), r_0))
  (none))
  (fun r_1 => cond (r_1.2 != 0)
  (some (([] : List api_Span), r_1.2))
  (some (r_1.1, 0))))
theorem shift_Passes_ok {N : Nat} {G : Pers} {Lf : List Ent} {w : World} (r : shift_Record) {r_Rating_p : Option Addr} {r_Rating_c : Nat} {r_Gaugings_p : Option Addr} {r_Gaugings_c : Nat} (h_r_Rating : Rd G 2 r_Rating_p r_Rating_c (r.Rating.map enc_shift_Mark)) (h_r_Gaugings : Rd G 4 r_Gaugings_p r_Gaugings_c (r.Gaugings.map enc_shift_Gauging)) (hc : Ctx G (Lf) w) {res : (List api_Span) × Int} (hF : shift_Passes N r = some res) : Calls Try.prog 22 #[.agg #[.slice r_Rating_p r.Rating.length r_Rating_c, .slice r_Gaugings_p r.Gaugings.length r_Gaugings_c]] w (fun e w => ∃ (p'1 : Option Addr) (c'1 : Nat), e = .returned (.tuple #[.slice p'1 res.1.length c'1, .int .i64 res.2]) ∧ Ctx G (.row p'1 c'1 (res.1.map enc_api_Span) 50 2 :: Lf) w) := by
  unfold shift_Passes at hF
  refine fnIn (args := [.agg #[.slice r_Rating_p r.Rating.length r_Rating_c, .slice r_Gaugings_p r.Gaugings.length r_Gaugings_c]]) Try.func22 rfl Try.ntmps22 rfl fun a hf => ?_
  refine wp_seq_k fun K1 h1 => ?_
  refine cReg ?_
  refine stBx (cs := [.slice r_Rating_p r.Rating.length r_Rating_c, .slice r_Gaugings_p r.Gaugings.length r_Gaugings_c]) hf hc rfl rfl rfl rfl fun b_1 a w hf hc => ?_
  refine stP hf rfl rfl rfl (pA rfl) fun a hf => ?_
  refine stP hf rfl rfl rfl (pA rfl) fun a hf => ?_
  refine cNil ?_
  refine h1 _ _ ?_
  refine wp_seq_k fun K2 h2 => ?_
  refine cReg ?_
  refine stE hf hc rfl rfl rfl (eLdN (vs := [.slice r_Rating_p r.Rating.length r_Rating_c, .slice r_Gaugings_p r.Gaugings.length r_Gaugings_c]) ag_25 rfl rfl (cells_box (n := 2) m0 rfl)) fun a w hf hc => ?_
  obtain ⟨r_0, hr_0, hF⟩ := bnd_some hF
  cases r_0 with
  | inl r_0 =>
    replace hF := sumKl hF
    refine stC (vs := [.agg #[.slice r_Rating_p r.Rating.length r_Rating_c, .slice r_Gaugings_p r.Gaugings.length r_Gaugings_c]]) (caps := []) hf rfl rfl rfl en_73 rfl rfl rfl rfl (shift_opened_ok r h_r_Rating h_r_Gaugings hc hr_0) ?_
    rintro _ w ⟨rfl, hc⟩
    refine ⟨_, rfl, fun a hf => ?_⟩
    refine stP hf rfl rfl rfl (pM rfl) fun a hf => ?_
    refine stP hf rfl rfl rfl (pX rfl rfl) fun a hf => ?_
    refine stP hf rfl rfl rfl (pX rfl rfl) fun a hf => ?_
    refine stP hf rfl rfl rfl (pA rfl) fun a hf => ?_
    refine stP hf rfl rfl rfl (pA rfl) fun a hf => ?_
    refine cNil ?_
    refine h2 _ _ ?_
    refine wp_seq_k fun K3 h3 => ?_
    refine wp_seq_k fun K4 h4 => ?_
    refine cReg ?_
    refine stP hf rfl rfl rfl (pM rfl) fun a hf => ?_
    refine stP hf rfl rfl rfl (pNe rfl rfl) fun a hf => ?_
    refine cNil ?_
    refine h4 _ _ ?_
    refine cCond (b := (r_0 != 0)) hf rfl (fun hb => ?_) (fun hb => ?_)
    · replace hF := condT hb hF
      clear hb
      refine wp_seq_k fun K5 h5 => ?_
      refine cReg ?_
      refine stP hf rfl rfl rfl (pM rfl) fun a hf => ?_
      refine stP hf rfl rfl rfl (pA rfl) fun a hf => ?_
      refine stP hf rfl rfl rfl (pA rfl) fun a hf => ?_
      refine cNil ?_
      refine h5 _ _ ?_
      refine wp_ret ?_
      refine xThenR ?_
      obtain rfl := Option.some.inj hF
      replace hc := hc.nilRow 50 2
      replace hc := hc.drop k1
      exact fnOut2 (by simp) rfl Try.results22 hf hc (show look _ 2 = _ from rfl) (show look _ 3 = _ from rfl) ⟨none, 0, rfl, hc⟩
    · replace hF := condF hb hF
      clear hb
      refine wp_skip ?_
      refine h3 _ _ ?_
      refine wp_seq_k fun K6 h6 => ?_
      exact noneO hF
  | inr r_1 =>
    replace hF := sumKr hF
    have hr_1 := hr_0
    refine stC (vs := [.agg #[.slice r_Rating_p r.Rating.length r_Rating_c, .slice r_Gaugings_p r.Gaugings.length r_Gaugings_c]]) (caps := []) hf rfl rfl rfl en_73 rfl rfl rfl rfl (shift_opened_ok r h_r_Rating h_r_Gaugings hc hr_1) ?_
    rintro _ w ⟨b_2, p_1, c_1, rfl, hc⟩
    refine ⟨_, rfl, fun a hf => ?_⟩
    refine stP hf rfl rfl rfl (pM rfl) fun a hf => ?_
    refine stP hf rfl rfl rfl (pX rfl rfl) fun a hf => ?_
    refine stP hf rfl rfl rfl (pX rfl rfl) fun a hf => ?_
    refine stP hf rfl rfl rfl (pA rfl) fun a hf => ?_
    refine stP hf rfl rfl rfl (pA rfl) fun a hf => ?_
    refine cNil ?_
    refine h2 _ _ ?_
    refine wp_seq_k fun K7 h7 => ?_
    refine wp_seq_k fun K8 h8 => ?_
    refine cReg ?_
    refine stP hf rfl rfl rfl (pM rfl) fun a hf => ?_
    refine stP hf rfl rfl rfl (pNe rfl rfl) fun a hf => ?_
    refine cNil ?_
    refine h8 _ _ ?_
    refine cCond (b := (r_1.2 != 0)) hf rfl (fun hb => ?_) (fun hb => ?_)
    · replace hF := condT hb hF
      clear hb
      refine wp_seq_k fun K9 h9 => ?_
      refine cReg ?_
      refine stP hf rfl rfl rfl (pM rfl) fun a hf => ?_
      refine stP hf rfl rfl rfl (pA rfl) fun a hf => ?_
      refine stP hf rfl rfl rfl (pA rfl) fun a hf => ?_
      refine cNil ?_
      refine h9 _ _ ?_
      refine wp_ret ?_
      refine xThenR ?_
      obtain rfl := Option.some.inj hF
      replace hc := hc.nilRow 50 2
      replace hc := hc.drop k3
      replace hc := hc.drop k2
      replace hc := hc.drop k1
      exact fnOut2 (by simp) rfl Try.results22 hf hc (show look _ 2 = _ from rfl) (show look _ 3 = _ from rfl) ⟨none, 0, rfl, hc⟩
    · replace hF := condF hb hF
      clear hb
      refine wp_skip ?_
      refine h7 _ _ ?_
      refine wp_seq_k fun K10 h10 => ?_
      refine cReg ?_
      refine stP hf rfl rfl rfl (pM rfl) fun a hf => ?_
      refine stP hf rfl rfl rfl (pNC rfl) fun a hf => ?_
      refine stP hf rfl rfl rfl (pFA fa_140_1 rfl) fun a hf => ?_
      refine stE hf hc rfl rfl rfl (eLd1 sc_44 rfl (cell_box m1 rfl)) fun a w hf hc => ?_
      refine stP hf rfl rfl rfl (pA rfl) fun a hf => ?_
      refine stP hf rfl rfl rfl (pA rfl) fun a hf => ?_
      refine cNil ?_
      refine h10 _ _ ?_
      refine wp_ret ?_
      obtain rfl := Option.some.inj hF
      replace hc := hc.drop k2
      replace hc := hc.drop k1
      exact fnOut2 (by simp) rfl Try.results22 hf hc (show look _ 2 = _ from rfl) (show look _ 3 = _ from rfl) ⟨p_1, c_1, rfl, hc⟩

end Go.Nilo
