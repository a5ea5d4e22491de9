/-
  What the plain functions compute, in plain arithmetic, part 6. Conditions: what each theorem names.
-/
import Derived.Test.YtlbmcojegiabpaaSeL5
set_option linter.unusedSimpArgs false
set_option linter.unusedVariables false
namespace Go.Nilo
theorem awake_true : law09_awake 60 = some true := by decide +kernel
theorem okR_get {c : share_Compact} (h : ∀ e ∈ c.Rights, okR c.States e = true) {n : Nat} (hn : n < c.Rights.length) : okR c.States (c.Rights.getD n r0) = true := by
  have := h c.Rights[n] (List.getElem_mem hn)
  rwa [get_getD (d := r0) hn] at this
theorem served_true {numbers : List Int} (hb : Bytes numbers) {a b t : Int} (ha : 0 ≤ a ∧ a ≤ 65535) (hb' : 0 ≤ b ∧ b ≤ 65535) (ht : 0 ≤ t ∧ t ≤ 255) : law09_ShareServed 60 numbers a b t = some true := by
  obtain ⟨c, u, m, hS, hL, hall, hmade⟩ := made_spec (N := 60) (by omega) hb
  have h0 := chk_of hS (by omega) hall
  have hc := chk_ok h0
  -- the flows
  obtain ⟨lo, hlo⟩ : ∃ lo, lo = a % 900 := ⟨_, rfl⟩
  obtain ⟨hi, hhi⟩ : ∃ hi, hi = a % 900 + b % 500 := ⟨_, rfl⟩
  obtain ⟨f, hf⟩ : ∃ f, f = lo + t * (hi - lo) / 255 := ⟨_, rfl⟩
  have hlo' : 0 ≤ lo ∧ lo ≤ hi ∧ hi ≤ 2000 := by omega
  have hm1 := mul_bd (a := t) (b := hi - lo) (A := 255) (B := 500) (by omega) (by omega) (by omega) (by omega)
  have hq0 : 0 ≤ t * (hi - lo) / 255 := Int.ediv_nonneg hm1.1 (by omega)
  have hq1 : t * (hi - lo) / 255 ≤ hi - lo := by
    have : t * (hi - lo) ≤ (hi - lo) * 255 := by rw [Int.mul_comm (hi - lo)]; exact Int.mul_le_mul_of_nonneg_right ht.2 (by omega)
    have h1 := Int.ediv_le_ediv (show (0 : Int) < 255 by omega) this
    rw [Int.mul_ediv_cancel _ (by omega)] at h1
    exact h1
  have hfb : lo ≤ f ∧ f ≤ hi := by omega
  have hW : W (lo + W ((W (W t * W (hi - lo))).tdiv 255)) = f := by
    rw [W_id (n := t) (by omega) (by omega), W_id (n := hi - lo) (by omega) (by omega), W_id (n := t * (hi - lo)) (by omega) (by omega), tdiv_div hm1.1, W_id (n := t * (hi - lo) / 255) (by omega) (by omega), W_id (by omega) (by omega), hf]
  have hRf := real_ok h0 (f := f) (by omega)
  have hRl := real_ok h0 (f := lo) (by omega)
  have hRh := real_ok h0 (f := hi) (by omega)
  have hSh : sharesF c ⟨lo, hi⟩ = (spanL c ⟨lo, hi⟩ c.States.toNat, 0) := by
    unfold sharesF okA
    rw [if_pos h0]
    show (if (decide (0 ≤ lo) && decide (lo ≤ hi) && decide (hi ≤ 1000000000)) = true then _ else _) = _
    rw [decide_eq_true hlo'.1, decide_eq_true hlo'.2.1, decide_eq_true (show hi ≤ 1000000000 by omega)]
    rfl
  have hlenF : ∀ x, (((gotL c x).length : Nat) : Int) = c.States := fun x => by rw [gotL_len]; omega
  have hlenS : (((spanL c ⟨lo, hi⟩ c.States.toNat).length : Nat) : Int) = c.States := by rw [spanL_len]; omega
  have hloop := runS (ρ := Bool) (fun i : Nat => (spanL c ⟨lo, hi⟩ c.States.toNat, gotL c f, (i : Int))) c.States.toNat (fun s15 => law09_ShareServed_b15 60 (spanL c ⟨lo, hi⟩ c.States.toNat, 0) (gotL c lo, 0) (gotL c hi, 0) s15.1 s15.2.1 s15.2.2) (fun i hi' => by
    have g1 := got_mono hc (s := (i : Int)) hfb.1 c.Rights.length (Nat.le_refl _)
    have g2 := got_mono hc (s := (i : Int)) hfb.2 c.Rights.length (Nat.le_refl _)
    show law09_ShareServed_b15 60 (spanL c ⟨lo, hi⟩ c.States.toNat, 0) (gotL c lo, 0) (gotL c hi, 0) (spanL c ⟨lo, hi⟩ c.States.toNat) (gotL c f) (i : Int) = _
    unfold law09_ShareServed_b15
    show cond (decide ((i : Int) < (((spanL c ⟨lo, hi⟩ c.States.toNat).length : Nat) : Int))) _ _ = _
    rw [spanL_len, lt_dec hi', cond_true, gotL_get hi', Option.bind_some, spanL_get hi', Option.bind_some, Option.bind_some, Option.bind_some]
    show Option.bind (cond (decide (gotF c f (i : Int) c.Rights.length < gotF c lo (i : Int) c.Rights.length)) (some true) (some (decide (gotF c hi (i : Int) c.Rights.length < gotF c f (i : Int) c.Rights.length)))) (fun t_6 => Option.bind (cond t_6 (some true) (Option.bind (getI (gotL c lo) (i : Int)) fun e_8 => some (e_8 != gotF c lo (i : Int) c.Rights.length))) fun t_7 => Option.bind (cond t_7 (some true) (Option.bind (getI (gotL c hi) (i : Int)) fun e_10 => some (e_10 != gotF c hi (i : Int) c.Rights.length))) fun t_8 => cond t_8 (some (Step.ret false)) (some (Step.cont (_, _, W ((i : Int) + 1))))) = _
    rw [decide_eq_false (show ¬ gotF c f (i : Int) c.Rights.length < gotF c lo (i : Int) c.Rights.length by omega), cond_false, decide_eq_false (show ¬ gotF c hi (i : Int) c.Rights.length < gotF c f (i : Int) c.Rights.length by omega), Option.bind_some, cond_false, gotL_get hi', Option.bind_some, bne_self_eq_false, Option.bind_some, cond_false, gotL_get hi', Option.bind_some, bne_self_eq_false, Option.bind_some, cond_false, W_succ (by omega)]) (by
    show law09_ShareServed_b15 60 _ _ _ (spanL c ⟨lo, hi⟩ c.States.toNat) _ (c.States.toNat : Int) = _
    unfold law09_ShareServed_b15
    show cond (decide ((c.States.toNat : Int) < (((spanL c ⟨lo, hi⟩ c.States.toNat).length : Nat) : Int))) _ _ = _
    rw [spanL_len, ge_dec, cond_false]) (N := 60) (by omega)
  have htot := totalL (N := 60) (by omega) hc (f := f)
  have hle := all_le hc (f := f) (by omega) c.Rights.length (Nat.le_refl _)
  have hleft : 0 ≤ leftR c f c.Rights.length := by unfold leftR; omega
  have hsame : ∀ l : List Int, l.length = c.States.toNat → kit_Same_int 60 l l = some true := fun l hl => same_int (by omega) (by omega)
  unfold law09_ShareServed kit_New
  rw [Option.bind_some]
  show Option.bind (law09_Made 60 ⟨numbers, 0, 0⟩) _ = _
  rw [hmade, Option.bind_some, W_id (n := a) (by omega) (by omega), W_id (n := b) (by omega) (by omega), tmod_mod (by omega), tmod_mod (by omega), W_id (n := a % 900 + b % 500) (by omega) (by omega), ← hlo, show lo + b % 500 = hi by omega]
  unfold law09_span
  rw [Option.bind_some]
  show Option.bind (share_Shares 60 c ⟨lo, hi⟩) (fun r_3 => Option.bind (share_Real 60 c (W (lo + W ((W (W t * W (hi - lo))).tdiv 255)))) fun r_4 => Option.bind (share_Real 60 c lo) fun r_5 => Option.bind (share_Real 60 c hi) _) = _
  rw [shares_prog (by omega), hSh, Option.bind_some, hW, real_prog (by omega), hRf, Option.bind_some, real_prog (by omega), hRl, Option.bind_some, real_prog (by omega), hRh, Option.bind_some]
  show cond ((((((((0 : Int) != 0) || ((0 : Int) != 0)) || ((0 : Int) != 0)) || ((0 : Int) != 0)) || ((((spanL c ⟨lo, hi⟩ c.States.toNat).length : Nat) : Int) != c.States)) || ((((gotL c f).length : Nat) : Int) != c.States) || ((((gotL c lo).length : Nat) : Int) != c.States)) || ((((gotL c hi).length : Nat) : Int) != c.States)) _ _ = _
  rw [hlenS, hlenF, hlenF, hlenF, bne_self_eq_false, bne_self_eq_false]
  show Option.bind (loopO _ 60 (spanL c ⟨lo, hi⟩ c.States.toNat, gotL c f, ((0 : Nat) : Int))) _ = _
  rw [hloop, Option.bind_some]
  show Option.bind (law09_total 60 (gotL c f)) (fun r_7 => cond (decide (f < r_7)) _ (Option.bind (share_Short 60 c f) _)) = _
  rw [htot, Option.bind_some, decide_eq_false (show ¬ f < sumZ (fun s => gotF c f (s : Int) c.Rights.length) c.States.toNat by omega), cond_false, short_prog (by omega), Option.bind_some]
  have hshort : shortF c f = ((firstG (shortG c f) 0 c.Rights.length).getD (-1), 0) := by
    unfold shortF okF
    rw [if_pos h0, decide_eq_true (show 0 ≤ f by omega), decide_eq_true (show f ≤ 1000000000 by omega)]
    rfl
  rw [hshort, awake_true]
  cases hg : firstG (shortG c f) 0 c.Rights.length with
  | none =>
    have hno : ∀ k, k < c.Rights.length → ¬ takeR c f k < (c.Rights.getD k r0).Amount := fun k hk => by
      have := firstG_none' _ _ hg k (by omega) (by omega)
      unfold shortG at this
      intro hlt
      rw [decide_eq_true hlt] at this
      cases this
    have hrich : gotL c (f + 50) = gotL c f := gotL_congr rfl (fun s => got_rich (by omega) c.Rights.length hno)
    show cond (((((0 : Int) != 0) || (decide ((-1 : Int) < -1))) || (decide (((c.Rights.length : Nat) : Int) ≤ -1)))) _ (cond ((-1 : Int) == -1) (Option.bind (share_Real 60 c (W (f + 50))) _) _) = _
    rw [decide_eq_false (show ¬ ((c.Rights.length : Nat) : Int) ≤ -1 by omega), W_id (n := f + 50) (by omega) (by omega), real_prog (by omega), real_ok h0 (f := f + 50) (by omega), hrich]
    show Option.bind (Option.bind (kit_Same_int 60 (gotL c f) (gotL c f)) _) _ = _
    rw [hsame _ (gotL_len c f)]
    rfl
  | some v =>
    obtain ⟨n, -, hn', hgn⟩ := firstG_get _ _ hg
    have hn : n < c.Rights.length := by omega
    have hvn : v = (n : Int) ∧ takeR c f n < (c.Rights.getD n r0).Amount := by
      unfold shortG at hgn
      by_cases hlt : takeR c f n < (c.Rights.getD n r0).Amount
      · rw [decide_eq_true hlt] at hgn
        exact ⟨(Option.some.inj hgn).symm, hlt⟩
      · rw [decide_eq_false hlt] at hgn
        cases hgn
    obtain ⟨rfl, hlt⟩ := hvn
    have hcopy : law09_CopyCompact 60 c = some c := by
      unfold law09_CopyCompact kit_Copy_share_Right
      rw [room_ok (by omega)]
      rfl
    have hsub : subO c.Rights 0 ((n + 1 : Nat) : Int) = some (c.Rights.take (n + 1)) := by
      unfold subO
      rw [if_pos (by omega)]
      congr 1
    -- the few
    have hfew0 : chk (⟨c.States, c.Rights.take (n + 1)⟩ : share_Compact) = 0 := chk_of hS (by simp only [List.length_take]; omega) (fun e he => hall e (List.mem_of_mem_take he))
    have hfewL : (c.Rights.take (n + 1)).length = n + 1 := by rw [List.length_take]; omega
    have hfew : gotL (⟨c.States, c.Rights.take (n + 1)⟩ : share_Compact) f = gotL c f := gotL_congr rfl (fun s => by
      show gotF _ f (s : Int) (c.Rights.take (n + 1)).length = _
      rw [hfewL, got_congr (d := c) (n + 1) (fun k hk => by
        show (c.Rights.take (n + 1)).getD k r0 = _
        simp [List.getD, hk])]
      have := got_short hc (f := f) (s := (s : Int)) hn hlt (c.Rights.length - (n + 1)) (by omega)
      rw [show n + 1 + (c.Rights.length - (n + 1)) = c.Rights.length by omega] at this
      exact this.symm)
    -- the first
    have hdel : slices_Delete_Lshare_Right_share_Right 60 c.Rights (n : Int) ((n + 1 : Nat) : Int) = some (c.Rights.take n ++ c.Rights.drop (n + 1)) := by
      unfold slices_Delete_Lshare_Right_share_Right delO
      rw [if_pos (by omega)]
      rfl
    have hdl : (c.Rights.take n ++ c.Rights.drop (n + 1)).length = c.Rights.length - 1 := by simp; omega
    have hins : slices_Insert_Lshare_Right_share_Right 60 (c.Rights.take n ++ c.Rights.drop (n + 1)) 0 [c.Rights.getD n r0] = some (c.Rights.getD n r0 :: (c.Rights.take n ++ c.Rights.drop (n + 1))) := by
      unfold slices_Insert_Lshare_Right_share_Right insO
      rw [if_pos (by rw [hdl]; simp; omega)]
      rfl
    have hrn := okR_get hall hn
    have hf0 : chk (⟨c.States, c.Rights.getD n r0 :: (c.Rights.take n ++ c.Rights.drop (n + 1))⟩ : share_Compact) = 0 := chk_of hS (by simp only [List.length_cons]; rw [hdl]; omega) (fun e he => by
      rcases List.mem_cons.1 he with rfl | he
      · exact hrn
      · rcases List.mem_append.1 he with h | h
        · exact hall e (List.mem_of_mem_take h)
        · exact hall e (List.mem_of_mem_drop h))
    have ha0 : chk (⟨c.States, [c.Rights.getD n r0]⟩ : share_Compact) = 0 := chk_of hS (by simp) (fun e he => by
      rw [List.mem_singleton] at he
      subst he
      exact hrn)
    have hst := hc.el n hn
    obtain ⟨k, hk, hke⟩ : ∃ k : Nat, k < c.States.toNat ∧ (c.Rights.getD n r0).State = (k : Int) := ⟨(c.Rights.getD n r0).State.toNat, by omega, by omega⟩
    have hge : gotF (⟨c.States, [c.Rights.getD n r0]⟩ : share_Compact) f (k : Int) [c.Rights.getD n r0].length ≤ gotF (⟨c.States, c.Rights.getD n r0 :: (c.Rights.take n ++ c.Rights.drop (n + 1))⟩ : share_Compact) f (k : Int) (c.Rights.getD n r0 :: (c.Rights.take n ++ c.Rights.drop (n + 1))).length := by
      have h1 := got_first (chk_ok hf0) (f := f) (c.Rights.getD n r0 :: (c.Rights.take n ++ c.Rights.drop (n + 1))).length (by simp) (Nat.le_refl _)
      have e1 : ((⟨c.States, c.Rights.getD n r0 :: (c.Rights.take n ++ c.Rights.drop (n + 1))⟩ : share_Compact).Rights.getD 0 r0).State = (k : Int) := hke
      rw [e1] at h1
      refine Int.le_trans ?_ h1
      show 0 + cond ((c.Rights.getD n r0).State == (k : Int)) (partR (⟨c.States, [c.Rights.getD n r0]⟩ : share_Compact) f 0) 0 ≤ _
      rw [hke, beq_self_eq_true, cond_true, Int.zero_add]
      exact Int.le_refl _
    show cond (((((0 : Int) != 0) || (decide ((n : Int) < -1))) || (decide (((c.Rights.length : Nat) : Int) ≤ (n : Int))))) _ (cond ((n : Int) == -1) _ (Option.bind (law09_CopyCompact 60 c) fun r_12 => Option.bind (subO r_12.Rights 0 (W ((n : Int) + 1))) fun sub => Option.bind (share_Real 60 (⟨r_12.States, sub⟩ : share_Compact) f) _)) = _
    have en : ((n : Int) == -1) = false := beq_eq_false_iff_ne.2 (by omega)
    rw [decide_eq_false (show ¬ (n : Int) < -1 by omega), decide_eq_false (show ¬ ((c.Rights.length : Nat) : Int) ≤ (n : Int) by omega), en]
    show Option.bind (law09_CopyCompact 60 c) (fun r_12 => Option.bind (subO r_12.Rights 0 (W ((n : Int) + 1))) fun sub => Option.bind (share_Real 60 (⟨r_12.States, sub⟩ : share_Compact) f) _) = _
    rw [hcopy, Option.bind_some, W_succ (by omega), hsub, Option.bind_some, real_prog (by omega), real_ok hfew0 (by omega), hfew, Option.bind_some]
    show Option.bind (Option.bind (kit_Same_int 60 (gotL c f) (gotL c f)) fun r_14 => some (!r_14)) _ = _
    rw [hsame _ (gotL_len c f), Option.bind_some, Option.bind_some, Bool.not_true, cond_false, Option.bind_some]
    show Option.bind (getI c.Rights (n : Int)) _ = _
    rw [getI_nat hn, Option.bind_some, get_getD (d := r0) hn]
    show Option.bind (slices_Delete_Lshare_Right_share_Right 60 c.Rights (n : Int) (W ((n : Int) + 1))) _ = _
    rw [W_succ (by omega), hdel, Option.bind_some, hins, Option.bind_some]
    show Option.bind (share_Real 60 (⟨c.States, c.Rights.getD n r0 :: (c.Rights.take n ++ c.Rights.drop (n + 1))⟩ : share_Compact) f) (fun r_18 => Option.bind (share_Real 60 (⟨c.States, [c.Rights.getD n r0]⟩ : share_Compact) f) _) = _
    rw [real_prog (by omega), real_ok hf0 (by omega), Option.bind_some, real_prog (by omega), real_ok ha0 (by omega), Option.bind_some]
    show Option.bind (cond ((((0 : Int) == 0) && ((0 : Int) == 0)) && ((((gotL (⟨c.States, c.Rights.getD n r0 :: (c.Rights.take n ++ c.Rights.drop (n + 1))⟩ : share_Compact) f).length : Nat) : Int) == c.States) && ((((gotL (⟨c.States, [c.Rights.getD n r0]⟩ : share_Compact) f).length : Nat) : Int) == c.States)) (Option.bind (getI (gotL (⟨c.States, c.Rights.getD n r0 :: (c.Rights.take n ++ c.Rights.drop (n + 1))⟩ : share_Compact) f) (c.Rights.getD n r0).State) fun e_2 => Option.bind (getI (gotL (⟨c.States, [c.Rights.getD n r0]⟩ : share_Compact) f) (c.Rights.getD n r0).State) fun e_3 => some (decide (e_3 ≤ e_2))) (some false)) _ = _
    have hl1 : ((((gotL (⟨c.States, c.Rights.getD n r0 :: (c.Rights.take n ++ c.Rights.drop (n + 1))⟩ : share_Compact) f).length : Nat) : Int) == c.States) = true := by rw [beq_iff_eq, gotL_len]; show ((c.States.toNat : Nat) : Int) = c.States; omega
    have hl2 : ((((gotL (⟨c.States, [c.Rights.getD n r0]⟩ : share_Compact) f).length : Nat) : Int) == c.States) = true := by rw [beq_iff_eq, gotL_len]; show ((c.States.toNat : Nat) : Int) = c.States; omega
    rw [hl1, hl2, hke, gotL_get (c := (⟨c.States, c.Rights.getD n r0 :: (c.Rights.take n ++ c.Rights.drop (n + 1))⟩ : share_Compact)) hk, gotL_get (c := (⟨c.States, [c.Rights.getD n r0]⟩ : share_Compact)) hk]
    show Option.bind (some (decide (gotF (⟨c.States, [c.Rights.getD n r0]⟩ : share_Compact) f (k : Int) [c.Rights.getD n r0].length ≤ gotF (⟨c.States, c.Rights.getD n r0 :: (c.Rights.take n ++ c.Rights.drop (n + 1))⟩ : share_Compact) f (k : Int) (c.Rights.getD n r0 :: (c.Rights.take n ++ c.Rights.drop (n + 1))).length))) _ = _
    rw [decide_eq_true hge]
    rfl
end Go.Nilo
