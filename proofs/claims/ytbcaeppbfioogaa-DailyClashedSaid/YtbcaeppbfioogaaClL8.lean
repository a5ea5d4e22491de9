/-
  What the plain functions compute, in plain arithmetic, part 8. Conditions: what each theorem names.
-/
import Derived.Test.YtbcaeppbfioogaaClL7
set_option linter.unusedSimpArgs false
set_option linter.unusedVariables false
namespace Go.Nilo
theorem getD_set_self {α : Type} {l : List α} {i : Nat} {v d : α} (h : i < l.length) : (l.set i v).getD i d = v := by simp [List.getD, h]
theorem getD_set_ne {α : Type} {l : List α} {i j : Nat} {v d : α} (h : i ≠ j) : (l.set i v).getD j d = l.getD j d := by simp [List.getD, List.getElem?_set_ne h]
theorem mod_lt {a : Int} {n : Nat} (ha : 0 ≤ a ∧ a ≤ 255) (hn : 1 ≤ n) : ∃ k : Nat, (W a).tmod (n : Int) = (k : Int) ∧ k < n := by
  rw [W_sm (by omega) (by omega), tmod_mod ha.1]
  have h1 := Int.emod_nonneg a (show (n : Int) ≠ 0 by omega)
  have h2 := Int.emod_lt_of_pos a (show (0 : Int) < (n : Int) by omega)
  exact ⟨(a % (n : Int)).toNat, by omega, by omega⟩
theorem known_ok {v : daily_Value} (h : v.Known = true) : vs v = v.Flow := by unfold vs; rw [h]; rfl
theorem unknown_ok {v : daily_Value} (h : v.Known = false) : vs v = ⟨0, 1000000000⟩ := by unfold vs; rw [h]; rfl
theorem no_clash {r : daily_Record} (hr : ROk r) {i k : Nat} (h : (r.Days.getD i dv0).Known = false ∨ (r.Days.getD k dv0).Known = false) : ¬ clashP r i k := by
  have b1 := own_bd hr i
  have b2 := own_bd hr k
  have u1 := U_nonneg hr.rise.1 hr.fall.1 (a := i) (b := k)
  have u2 := U_nonneg hr.rise.1 hr.fall.1 (a := k) (b := i)
  unfold clashP
  rcases h with h | h
  · have e1 : lo r i = 0 := by unfold lo; rw [unknown_ok h]
    have e2 : hi r i = 1000000000 := by unfold hi; rw [unknown_ok h]
    omega
  · have e1 : lo r k = 0 := by unfold lo; rw [unknown_ok h]
    have e2 : hi r k = 1000000000 := by unfold hi; rw [unknown_ok h]
    omega
theorem clashR_some {r : daily_Record} (hr : ROk r) {p : Nat × Nat} (h : clashF r = some p) : clashR r = ((p.1 : Int), (p.2 : Int), 0) := by
  unfold clashR
  rw [if_pos (check_iff.2 hr), h]
theorem clashR_none {r : daily_Record} (hr : ROk r) (h : clashF r = none) : clashR r = (0, 0, 5) := by
  unfold clashR
  rw [if_pos (check_iff.2 hr), h]
def forget (n : Nat) (D : Nat → daily_Value) (a b d : Nat) : List daily_Value := rl n fun j => if j < d ∧ j ≠ a ∧ j ≠ b then ⟨false, (D j).Flow⟩ else D j
theorem forget_loop {N : Nat} (hN : 100 ≤ N) {n : Nat} (hn : n ≤ 60) {R F : Int} {D : Nat → daily_Value} {a b : Nat} {z : Int} : loopO (fun s20 : Int × List daily_Value => law07_DailyClashed_b20 N ((a : Int), (b : Int), z) ⟨R, F, rl n D⟩ s20.1 s20.2) N (0, rl n D) = some (.go ((n : Int), forget n D a b n)) := by
  have := runS (ρ := Bool) (fun d : Nat => ((d : Int), forget n D a b d)) n (fun s20 : Int × List daily_Value => law07_DailyClashed_b20 N ((a : Int), (b : Int), z) ⟨R, F, rl n D⟩ s20.1 s20.2) (fun d hd => by
    show law07_DailyClashed_b20 N ((a : Int), (b : Int), z) ⟨R, F, rl n D⟩ (d : Int) (forget n D a b d) = _
    unfold law07_DailyClashed_b20 law07_DailyClashed_j37
    show cond (decide ((d : Int) < (((rl n D).length : Nat) : Int))) (cond (((d : Int) != (a : Int)) && ((d : Int) != (b : Int))) _ _) _ = _
    rw [rl_len, lt_dec hd, cond_true, W_succ (by omega)]
    by_cases h : d ≠ a ∧ d ≠ b
    · have e : (((d : Int) != (a : Int)) && ((d : Int) != (b : Int))) = true := by simp; omega
      rw [e, cond_true]
      unfold forget
      rw [rl_get hd, Option.bind_some, if_neg (by omega), Int.toNat_natCast, rl_set]
      congr 3
      refine rl_congr fun j hj => ?_
      by_cases hjd : d = j
      · subst hjd
        rw [if_pos rfl, if_pos ⟨by omega, h⟩]
      · rw [if_neg hjd]
        by_cases hj2 : j < d ∧ j ≠ a ∧ j ≠ b
        · rw [if_pos hj2, if_pos (by omega)]
        · rw [if_neg hj2, if_neg (by omega)]
    · have e : (((d : Int) != (a : Int)) && ((d : Int) != (b : Int))) = false := by
        rw [Bool.and_eq_false_iff, bne_eq_false_iff_eq, bne_eq_false_iff_eq]
        omega
      rw [e, cond_false]
      congr 3
      refine rl_congr fun j hj => ?_
      by_cases hj2 : j < d ∧ j ≠ a ∧ j ≠ b
      · rw [if_pos hj2, if_pos (by omega)]
      · rw [if_neg hj2, if_neg (by omega)]) (by
    show law07_DailyClashed_b20 N ((a : Int), (b : Int), z) ⟨R, F, rl n D⟩ (n : Int) _ = _
    unfold law07_DailyClashed_b20
    show cond (decide ((n : Int) < (((rl n D).length : Nat) : Int))) _ _ = _
    rw [rl_len, ge_dec, cond_false]) (N := N) (by omega)
  have e : forget n D a b 0 = rl n D := rl_congr fun j hj => if_neg (by omega)
  rw [show ((0 : Int), rl n D) = (((0 : Nat) : Int), forget n D a b 0) by rw [e]; rfl, this]
theorem copy_rec {N : Nat} {r : daily_Record} (h1 : r.Days.length ≤ 70) : law07_CopyRecord N r = some r := by
  unfold law07_CopyRecord kit_Copy_daily_Value
  rw [room_ok (by omega), Option.bind_some, Option.bind_some]
theorem clashed_j25 {r : daily_Record} (hr : ROk r) {a b : Nat} {z : Int} (hab : a < b) (hb : b < r.Days.length) : law07_DailyClashed_j25 100 ((a : Int), (b : Int), z) r (forget r.Days.length (fun j => r.Days.getD j dv0) a b r.Days.length) = some true := by
  have hN : 100 ≤ 100 := Nat.le_refl _
  have h60 := hr.n60
  unfold law07_DailyClashed_j25
  show Option.bind (getI (forget r.Days.length (fun j => r.Days.getD j dv0) a b r.Days.length) (a : Int)) _ = _
  unfold forget
  rw [rl_get (by omega), Option.bind_some, if_neg (by omega)]
  show Option.bind (daily_Clash 100 ⟨r.Rise, r.Fall, (rl r.Days.length fun j => if j < r.Days.length ∧ j ≠ a ∧ j ≠ b then (⟨false, (r.Days.getD j dv0).Flow⟩ : daily_Value) else r.Days.getD j dv0).set (a : Int).toNat ⟨false, (r.Days.getD a dv0).Flow⟩⟩) _ = _
  rw [Int.toNat_natCast, rl_set]
  have e : (rl r.Days.length fun j => if a = j then (⟨false, (r.Days.getD a dv0).Flow⟩ : daily_Value) else if j < r.Days.length ∧ j ≠ a ∧ j ≠ b then ⟨false, (r.Days.getD j dv0).Flow⟩ else r.Days.getD j dv0) = rl r.Days.length fun j => if j = b then r.Days.getD j dv0 else ⟨false, (r.Days.getD j dv0).Flow⟩ := rl_congr fun j hj => by
    by_cases h1 : a = j
    · subst h1
      rw [if_pos rfl, if_neg (by omega)]
    · rw [if_neg h1]
      by_cases h2 : j = b
      · rw [if_neg (by omega), if_pos h2]
      · rw [if_pos (by omega), if_neg h2]
  rw [e]
  generalize hg : (⟨r.Rise, r.Fall, rl r.Days.length fun j => if j = b then r.Days.getD j dv0 else ⟨false, (r.Days.getD j dv0).Flow⟩⟩ : daily_Record) = g
  have gd : ∀ j, j < r.Days.length → g.Days.getD j dv0 = if j = b then r.Days.getD j dv0 else ⟨false, (r.Days.getD j dv0).Flow⟩ := fun j hj => by
    subst hg
    exact rl_getD hj
  have gn : g.Days.length = r.Days.length := by subst hg; exact rl_len
  have gr : ROk g := by
    have h1 := hr.n1
    refine ⟨by omega, by omega, by subst hg; exact hr.rise, by subst hg; exact hr.fall, fun v hv hk => ?_⟩
    obtain ⟨j, hj, rfl⟩ := List.getElem_of_mem hv
    rw [get_getD (d := dv0), gd j (by omega)] at hk ⊢
    by_cases h : j = b
    · rw [if_pos h] at hk ⊢
      refine hr.v _ ?_ hk
      rw [← get_getD (show j < r.Days.length by omega)]
      exact List.getElem_mem _
    · rw [if_neg h] at hk
      cases hk
  have hc : clashF g = none := clash_none.2 fun i k hik hk => no_clash gr (by
    rw [gd i (by omega), gd k (by omega)]
    by_cases h : i = b
    · right
      rw [if_neg (by omega)]
    · left
      rw [if_neg h])
  rw [Clash_spec hN (by omega), Option.bind_some, clashR_none gr hc, awake_true]
  rfl
theorem clashed_j8 {r0 : daily_Record} {x : List Int} (hm : MOk r0 x) (h2 : 2 ≤ x.length) (h20 : x.length ≤ 20) {u m which far : Int} (hf : 0 ≤ far ∧ far ≤ 255) {i k : Nat} (hi' : i < x.length) (hk : k < x.length) (hik : k + 1 = i ∨ i + 1 = k) (ew : (W which).tmod ((x.length : Nat) : Int) = (i : Int)) :
    law07_DailyClashed_j8 100 which far (r0, x, u, m) (k : Int) = some true := by
  have hN : 100 ≤ 100 := Nat.le_refl _
  have hlen := hm.len
  have hx := hm.x0 k hk
  have hr1 := hm.rise
  have hr2 := hm.fall
  have hr0 := hm.ok (by omega) (by omega)
  unfold law07_DailyClashed_j8
  show Option.bind (getI x (k : Int)) _ = _
  rw [getI_d 0 hk, Option.bind_some, Option.bind_some, show law07_known 100 (x.getD k 0) (x.getD k 0) = some ⟨true, ⟨x.getD k 0, x.getD k 0⟩⟩ from rfl, Option.bind_some]
  show Option.bind (getI r0.Days (k : Int)) _ = _
  rw [getI_d dv0 (by omega), Option.bind_some, Option.bind_some]
  have ewild : W (W (W (x.getD k 0 + max r0.Rise r0.Fall) + 1) + W far) = x.getD k 0 + max r0.Rise r0.Fall + 1 + far := by
    rw [W_sm (n := far) (by omega) (by omega), W_sm (n := x.getD k 0 + max r0.Rise r0.Fall) (by omega) (by omega), W_sm (n := x.getD k 0 + max r0.Rise r0.Fall + 1) (by omega) (by omega), W_sm (by omega) (by omega)]
  show Option.bind (law07_known 100 (W (W (W (x.getD k 0 + max r0.Rise r0.Fall) + 1) + W far)) (W (W (W (W (x.getD k 0 + max r0.Rise r0.Fall) + 1) + W far) + 5))) (fun r_4 => Option.bind (getI (r0.Days.set (k : Int).toNat _) ((W which).tmod ((x.length : Nat) : Int))) _) = _
  rw [ewild, W_sm (n := x.getD k 0 + max r0.Rise r0.Fall + 1 + far + 5) (by omega) (by omega)]
  generalize hw : x.getD k 0 + max r0.Rise r0.Fall + 1 + far = w
  rw [show law07_known 100 w (w + 5) = some ⟨true, ⟨w, w + 5⟩⟩ from rfl, Option.bind_some, ew, getI_d dv0 (by simp; omega), Option.bind_some]
  simp only [Int.toNat_natCast]
  generalize hg : (⟨r0.Rise, r0.Fall, (r0.Days.set k ⟨true, ⟨x.getD k 0, x.getD k 0⟩⟩).set i ⟨true, ⟨w, w + 5⟩⟩⟩ : daily_Record) = g
  have gn : g.Days.length = x.length := by subst hg; simp; omega
  have gi : g.Days.getD i dv0 = ⟨true, ⟨w, w + 5⟩⟩ := by subst hg; exact getD_set_self (by simp; omega)
  have gk : g.Days.getD k dv0 = ⟨true, ⟨x.getD k 0, x.getD k 0⟩⟩ := by
    subst hg
    show ((r0.Days.set k _).set i _).getD k dv0 = _
    rw [getD_set_ne (by omega), getD_set_self (by omega)]
  have go : ∀ j, j ≠ i → j ≠ k → g.Days.getD j dv0 = r0.Days.getD j dv0 := fun j h1 h2 => by
    subst hg
    show ((r0.Days.set k _).set i _).getD j dv0 = _
    rw [getD_set_ne (by omega), getD_set_ne (by omega)]
  have gR : g.Rise = r0.Rise := by subst hg; rfl
  have gF : g.Fall = r0.Fall := by subst hg; rfl
  have gr : ROk g := by
    refine ⟨by omega, by omega, by rw [gR]; exact hr0.rise, by rw [gF]; exact hr0.fall, fun v hv hkn => ?_⟩
    obtain ⟨j, hj, rfl⟩ := List.getElem_of_mem hv
    rw [get_getD (d := dv0)] at hkn ⊢
    by_cases h1 : j = i
    · subst h1
      rw [gi]
      show 0 ≤ w ∧ w ≤ w + 5 ∧ w + 5 ≤ 1000000000
      omega
    · by_cases h3 : j = k
      · subst h3
        rw [gk]
        show 0 ≤ x.getD j 0 ∧ x.getD j 0 ≤ x.getD j 0 ∧ x.getD j 0 ≤ 1000000000
        omega
      · rw [go j h1 h3] at hkn ⊢
        refine hr0.v _ ?_ hkn
        rw [← get_getD (show j < r0.Days.length by omega)]
        exact List.getElem_mem _
  have hU : U g.Rise g.Fall k i ≤ max r0.Rise r0.Fall := by
    rw [gR, gF]
    rcases hik with h | h
    · rw [U_up (by omega), show i - k = 1 by omega]
      simp only [Int.natCast_one, Int.one_mul]
      omega
    · rw [U_down (by omega), show k - i = 1 by omega]
      simp only [Int.natCast_one, Int.one_mul]
      omega
  have hlt : hi g k + U g.Rise g.Fall k i < lo g i := by
    unfold hi lo
    rw [gi, gk]
    show x.getD k 0 + U g.Rise g.Fall k i < w
    omega
  cases hcf : clashF g with
  | none =>
    exfalso
    rw [clash_none] at hcf
    rcases hik with h | h
    · exact hcf k i (by omega) (by omega) (.inl hlt)
    · exact hcf i k (by omega) (by omega) (.inr hlt)
  | some p =>
    obtain ⟨a, b⟩ := p
    obtain ⟨p1, p2, p3, p4⟩ := clash_some hcf
    simp only at p1 p2 p3 p4
    have hag : agB g = false := by
      cases h : agB g with
      | false => rfl
      | true =>
        rw [(clash_agree gr).2 h] at hcf
        cases hcf
    have hfill : fillF g = ([], 7) := by
      unfold fillF
      rw [if_pos (check_iff.2 gr), if_neg (by rw [hag]; simp)]
    rw [Clash_spec hN (by omega), Option.bind_some, clashR_some gr hcf, Fill_spec hN (by omega), Option.bind_some, hfill]
    show cond ((((((0 : Int) != 0) || ((7 : Int) != 7)) || (decide ((a : Int) < 0))) || (decide ((b : Int) ≤ (a : Int)))) || (decide (((x.length : Nat) : Int) ≤ (b : Int)))) _ _ = _
    rw [dF (show ¬ (a : Int) < 0 by omega), dF (show ¬ (b : Int) ≤ (a : Int) by omega), dF (show ¬ ((x.length : Nat) : Int) ≤ (b : Int) by omega), show (((((0 : Int) != 0) || ((7 : Int) != 7)) || false) || false || false) = false from rfl, cond_false]
    show Option.bind (law07_CopyRecord 100 g) _ = _
    rw [copy_rec (by omega), Option.bind_some]
    have hD : g.Days = rl g.Days.length fun j => g.Days.getD j dv0 := rl_of rfl
    have hl : loopO (fun s20 : Int × List daily_Value => law07_DailyClashed_b20 100 ((a : Int), (b : Int), 0) g s20.1 s20.2) 100 (0, g.Days) = some (.go ((g.Days.length : Int), forget g.Days.length (fun j => g.Days.getD j dv0) a b g.Days.length)) := by
      have := forget_loop hN (n := g.Days.length) (R := g.Rise) (F := g.Fall) (D := fun j => g.Days.getD j dv0) (a := a) (b := b) (z := 0) (by omega)
      rwa [← hD] at this
    show Option.bind (loopO (fun s20 : Int × List daily_Value => law07_DailyClashed_b20 100 ((a : Int), (b : Int), 0) g s20.1 s20.2) 100 (0, g.Days)) _ = _
    rw [hl, Option.bind_some]
    show Option.bind (daily_Clash 100 ⟨g.Rise, g.Fall, forget g.Days.length (fun j => g.Days.getD j dv0) a b g.Days.length⟩) _ = _
    have hclash : daily_Clash 100 ⟨g.Rise, g.Fall, forget g.Days.length (fun j => g.Days.getD j dv0) a b g.Days.length⟩ = some ((a : Int), (b : Int), 0) := by
      generalize ho : (⟨g.Rise, g.Fall, forget g.Days.length (fun j => g.Days.getD j dv0) a b g.Days.length⟩ : daily_Record) = o
      have od : ∀ j, j < g.Days.length → o.Days.getD j dv0 = if j < g.Days.length ∧ j ≠ a ∧ j ≠ b then ⟨false, (g.Days.getD j dv0).Flow⟩ else g.Days.getD j dv0 := fun j hj => by
        subst ho
        exact rl_getD hj
      have on : o.Days.length = g.Days.length := by subst ho; exact rl_len
      have oR : o.Rise = g.Rise := by subst ho; rfl
      have oF : o.Fall = g.Fall := by subst ho; rfl
      have oo : ROk o := by
        refine ⟨by omega, by omega, by rw [oR]; exact gr.rise, by rw [oF]; exact gr.fall, fun v hv hkn => ?_⟩
        obtain ⟨j, hj, rfl⟩ := List.getElem_of_mem hv
        rw [get_getD (d := dv0), od j (by omega)] at hkn ⊢
        by_cases h : j < g.Days.length ∧ j ≠ a ∧ j ≠ b
        · rw [if_pos h] at hkn
          cases hkn
        · rw [if_neg h] at hkn ⊢
          refine gr.v _ ?_ hkn
          rw [← get_getD (show j < g.Days.length by omega)]
          exact List.getElem_mem _
      have hun : ∀ j, j < g.Days.length → j ≠ a → j ≠ b → (o.Days.getD j dv0).Known = false := fun j h1 h2 h3 => by
        rw [od j h1, if_pos ⟨h1, h2, h3⟩]
      have hab : clashP o a b := by
        unfold clashP lo hi at p3 ⊢
        rw [od a (by omega), od b (by omega), if_neg (by omega), if_neg (by omega), oR, oF]
        exact p3
      cases hco : clashF o with
      | none => exact absurd hab (clash_none.1 hco a b p1 (by omega))
      | some q =>
        obtain ⟨q1, q2, q3, -⟩ := clash_some hco
        have e1 : q.1 = a ∨ q.1 = b := by
          rcases Classical.em (q.1 = a ∨ q.1 = b) with h | h
          · exact h
          · exact absurd q3 (no_clash oo (.inl (hun q.1 (by omega) (fun e => h (.inl e)) fun e => h (.inr e))))
        have e2 : q.2 = a ∨ q.2 = b := by
          rcases Classical.em (q.2 = a ∨ q.2 = b) with h | h
          · exact h
          · exact absurd q3 (no_clash oo (.inr (hun q.2 (by omega) (fun e => h (.inl e)) fun e => h (.inr e))))
        have e3 : q = (a, b) := Prod.ext (by show q.1 = a; omega) (by show q.2 = b; omega)
        rw [Clash_spec hN (by omega), clashR_some oo hco, e3]
    rw [hclash, Option.bind_some]
    show cond ((((0 : Int) != 0) || ((a : Int) != (a : Int))) || ((b : Int) != (b : Int))) _ (cond (decide (0 < (a : Int))) _ _) = _
    simp only [bne_self_eq_false, Bool.or_false, cond_false]
    have hj := clashed_j25 gr (a := a) (b := b) (z := 0) p1 p2
    show cond (decide (0 < (a : Int))) _ (law07_DailyClashed_j25 100 ((a : Int), (b : Int), 0) g (forget g.Days.length (fun j => g.Days.getD j dv0) a b g.Days.length)) = _
    by_cases ha : 0 < a
    · rw [dT (show 0 < (a : Int) by omega), cond_true]
      have hsub : subO g.Days 0 (a : Int) = some (g.Days.take a) := by
        unfold subO
        rw [if_pos (by omega)]
        simp
      show Option.bind (subO g.Days 0 (a : Int)) _ = _
      rw [hsub, Option.bind_some]
      generalize ho : (⟨g.Rise, g.Fall, g.Days.take a⟩ : daily_Record) = o
      have on : o.Days.length = a := by subst ho; show (g.Days.take a).length = a; rw [List.length_take]; omega
      have od : ∀ j, j < a → o.Days.getD j dv0 = g.Days.getD j dv0 := fun j hj => by
        subst ho
        show (g.Days.take a).getD j dv0 = _
        simp [List.getD, hj]
      have oR : o.Rise = g.Rise := by subst ho; rfl
      have oF : o.Fall = g.Fall := by subst ho; rfl
      have oo : ROk o := by
        refine ⟨by omega, by omega, by rw [oR]; exact gr.rise, by rw [oF]; exact gr.fall, fun v hv hkn => ?_⟩
        obtain ⟨j, hj, rfl⟩ := List.getElem_of_mem hv
        rw [get_getD (d := dv0), od j (by omega)] at hkn ⊢
        refine gr.v _ ?_ hkn
        rw [← get_getD (show j < g.Days.length by omega)]
        exact List.getElem_mem _
      have hco : clashF o = none := clash_none.2 fun i k hik hk hc => p4 i k (by omega) hik (by omega) (by
        unfold clashP lo hi at hc ⊢
        rwa [od i (by omega), od k (by omega), oR, oF] at hc)
      have hfo : fillF o = (told o, 0) := by
        unfold fillF
        rw [if_pos (check_iff.2 oo), if_pos ((clash_agree oo).1 hco)]
      rw [Fill_spec hN (by omega), Option.bind_some, hfo]
      exact hj
    · rw [dF (show ¬ 0 < (a : Int) by omega), cond_false]
      exact hj
theorem clashed_law {numbers : List Int} (h1 : Bytes numbers) {which far : Int} (hw : 0 ≤ which ∧ which ≤ 255) (hf : 0 ≤ far ∧ far ≤ 255) : law07_DailyClashed 100 numbers which far = some true := by
  have hN : 100 ≤ 100 := Nat.le_refl _
  obtain ⟨r, x, u0, m0, e0, hm, x1, x20⟩ := Made_spec hN h1 (most := 20) (by omega)
  obtain ⟨i, ei, hi⟩ := mod_lt hw x1
  have hz : nz ((x.length : Nat) : Int) = some () := by unfold nz; rw [if_neg (by omega)]
  unfold law07_DailyClashed
  rw [show kit_New 100 numbers = some (0, 0) from rfl, Option.bind_some]
  show Option.bind (law07_Made 100 ⟨numbers, 0, 0⟩ ((20 : Nat) : Int)) _ = _
  rw [e0, Option.bind_some]
  show Option.bind (nz ((x.length : Nat) : Int)) (fun un => cond (decide (((x.length : Nat) : Int) < 2)) _ (cond (((W which).tmod ((x.length : Nat) : Int)) == 0) _ (law07_DailyClashed_j8 100 which far (r, x, u0, m0) (W (((W which).tmod ((x.length : Nat) : Int)) - 1))))) = _
  rw [hz, Option.bind_some]
  by_cases h2 : x.length < 2
  · rw [dT (by omega), cond_true, awake_true]
    rfl
  · rw [dF (by omega), cond_false, ei]
    by_cases h0 : i = 0
    · subst h0
      rw [show ((((0 : Nat) : Int)) == 0) = true from rfl, cond_true]
      exact clashed_j8 hm (by omega) x20 hf hi (k := 1) (by omega) (.inr rfl) ei
    · have e : (((i : Int)) == 0) = false := by simp; omega
      rw [e, cond_false, W_sm (by omega) (by omega), show (i : Int) - 1 = ((i - 1 : Nat) : Int) by omega]
      exact clashed_j8 hm (by omega) x20 hf hi (by omega) (.inl (by omega)) ei
end Go.Nilo
