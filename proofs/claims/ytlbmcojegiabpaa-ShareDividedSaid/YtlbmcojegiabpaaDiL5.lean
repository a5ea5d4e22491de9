/-
  What the plain functions compute, in plain arithmetic, part 5. Conditions: what each theorem names.
-/
import Derived.Test.YtlbmcojegiabpaaDiL4
set_option linter.unusedSimpArgs false
set_option linter.unusedVariables false
namespace Go.Nilo
/-! ### Days by quotients -/
def askI (rule n : Int) : Int := cond (rule == 0) (2 * n) (cond (rule == 1) (2 * n - 1) (2 * n - 2))
def cN (l : List Int) (s : Nat) : Int := l.getD s 0
def bN (rule : Int) (n : Nat) : Int := askI rule (n : Int)
theorem askI_cases {rule n : Int} (hr : 0 ≤ rule ∧ rule ≤ 2) : (rule = 0 ∧ askI rule n = 2 * n) ∨ (rule = 1 ∧ askI rule n = 2 * n - 1) ∨ (rule = 2 ∧ askI rule n = 2 * n - 2) := by
  have h : rule = 0 ∨ rule = 1 ∨ rule = 2 := by omega
  rcases h with rfl | rfl | rfl
  · exact .inl ⟨rfl, rfl⟩
  · exact .inr (.inl ⟨rfl, rfl⟩)
  · exact .inr (.inr ⟨rfl, rfl⟩)
theorem claims_of {l : List Int} (h : COk l) {rule : Int} (hr : 0 ≤ rule ∧ rule ≤ 2) : Claims l.length (cN l) (bN rule) := by
  refine ⟨fun s hs => by have := h.c s hs; unfold cN; omega, fun n hn => ?_, fun n m hn hm => ?_⟩
  · unfold bN
    rcases askI_cases (n := (n : Int)) hr with ⟨-, h1⟩ | ⟨-, h1⟩ | ⟨-, h1⟩ <;> omega
  · unfold bN
    rcases askI_cases (n := (n : Int)) hr with ⟨h0, h1⟩ | ⟨h0, h1⟩ | ⟨h0, h1⟩ <;> rcases askI_cases (n := (m : Int)) hr with ⟨h2, h3⟩ | ⟨h2, h3⟩ | ⟨h2, h3⟩ <;> omega
theorem day_spec {N : Nat} {rule c n : Int} (hc : 0 ≤ c ∧ c ≤ 1000000) (hn : -1 ≤ n ∧ n ≤ 100000) : share_Rule_day N rule c n = some (⟨2 * c, askI rule n⟩ : share_quotient) := by
  unfold share_Rule_day askI
  rw [W_id (n := 2 * c) (by omega) (by omega), W_id (n := 2 * n) (by omega) (by omega), W_id (n := 2 * n - 1) (by omega) (by omega), W_id (n := 2 * n - 2) (by omega) (by omega)]
  cases rule == 0 <;> cases rule == 1 <;> rfl
theorem askI_bd {rule n : Int} (hn : -1 ≤ n ∧ n ≤ 100000) : -4 ≤ askI rule n ∧ askI rule n ≤ 200000 := by
  unfold askI
  cases rule == 0 <;> cases rule == 1 <;> simp only [cond_true, cond_false] <;> omega
/-- One quotient is more than another one. -/
theorem more_spec {c b d e : Int} (hc : 0 ≤ c ∧ c ≤ 1000000) (hd : 0 ≤ d ∧ d ≤ 1000000) (hb : -4 ≤ b ∧ b ≤ 200000) (he : -4 ≤ e ∧ e ≤ 200000) : share_quotient_more ⟨2 * c, b⟩ ⟨2 * d, e⟩ = decide (d * b < c * e) := by
  unfold share_quotient_more
  show decide (W (2 * d * b) < W (2 * c * e)) = _
  have m1 := absmul (x := 2 * d) (y := b) (A := 2000000) (B := 200000) (by omega) (by omega)
  have m2 := absmul (x := 2 * c) (y := e) (A := 2000000) (B := 200000) (by omega) (by omega)
  rw [W_id (n := 2 * d * b) (by omega) (by omega), W_id (n := 2 * c * e) (by omega) (by omega), Int.mul_assoc, Int.mul_assoc]
  rw [Bool.eq_iff_iff, decide_eq_true_eq, decide_eq_true_eq]
  omega
def mapO (k : Nat) (o : Nat → Nat) : List Int := (List.range k).map fun s => ((o s : Nat) : Int)
theorem mapO_len (k : Nat) (o : Nat → Nat) : (mapO k o).length = k := by simp [mapO]
theorem mapO_get {k : Nat} {o : Nat → Nat} {s : Nat} (hs : s < k) : getI (mapO k o) (s : Int) = some ((o s : Nat) : Int) := by
  rw [getI_nat (by rw [mapO_len]; exact hs)]
  simp [mapO]
theorem mapO_set {k : Nat} {o : Nat → Nat} {s : Nat} : (mapO k o).set s (((o s + 1 : Nat)) : Int) = mapO k (bump o s) := by
  apply List.ext_getElem?
  intro i
  unfold mapO bump
  rw [List.getElem?_set]
  by_cases hik : i < k
  · by_cases his : s = i
    · subst his
      simp [hik]
    · rw [if_neg his]
      simp [hik, Ne.symm his]
  · by_cases his : s = i
    · subst his
      simp [hik]
    · rw [if_neg his]
      simp [hik]
theorem mapO_congr {k : Nat} {o o' : Nat → Nat} (h : ∀ s, s < k → o s = o' s) : mapO k o = mapO k o' := by
  unfold mapO
  apply List.map_congr_left
  intro s hs
  rw [h s (List.mem_range.1 hs)]
theorem mapO_zero (k : Nat) : List.replicate k (0 : Int) = mapO k (fun _ => 0) := by
  unfold mapO
  rw [show (fun s : Nat => (((fun _ => 0 : Nat → Nat) s : Nat) : Int)) = fun _ => (0 : Int) from rfl, List.map_const', List.length_range]

/-- The one who gets the next day. -/
theorem pick_spec {N : Nat} (hN : 60 ≤ N) {l : List Int} (h : COk l) {rule : Int} (hr : 0 ≤ rule ∧ rule ≤ 2) {o : Nat → Nat} (ho : ∀ s, s < l.length → o s ≤ 400) :
    ∃ (w : Nat), w < l.length ∧ (∀ t, t < l.length → t ≠ w → ahead (cN l) (bN rule) w (o w + 1) t (o t + 1)) ∧
      loopO (fun s23 : Int × Int × Int × Int => share_Turns_b23 N l rule (mapO l.length o) s23.1 s23.2.1 s23.2.2.1 s23.2.2.2) N (0, 0, 2 * cN l 0, bN rule (o 0 + 1)) = some (.go ((w : Int), (l.length : Int), 2 * cN l w, bN rule (o w + 1))) := by
  have hn := h.n
  have hcl := claims_of h hr
  obtain ⟨s', h1, h2⟩ := loopInv (fun s23 : Int × Int × Int × Int => share_Turns_b23 N l rule (mapO l.length o) s23.1 s23.2.1 s23.2.2.1 s23.2.2.2)
    (fun i s => ∃ w : Nat, w < l.length ∧ (w < i ∨ i = 0 ∧ w = 0) ∧ (∀ t, t < i → t ≠ w → ahead (cN l) (bN rule) w (o w + 1) t (o t + 1)) ∧ s = ((w : Int), (i : Int), 2 * cN l w, bN rule (o w + 1))) l.length
    (fun i s hi hs => by
      obtain ⟨w, hw, hwi, hbest, rfl⟩ := hs
      have cw := h.c w hw
      have ci := h.c i hi
      have ow := ho w hw
      have oi := ho i hi
      have bw : -4 ≤ bN rule (o w + 1) ∧ bN rule (o w + 1) ≤ 200000 := askI_bd (by omega)
      have bi : -4 ≤ bN rule (o i + 1) ∧ bN rule (o i + 1) ≤ 200000 := askI_bd (by omega)
      have hstep := best_step hcl (o := o) (i := i) (w := w) hi (by omega) hbest
      have hb : share_Turns_b23 N l rule (mapO l.length o) (w : Int) (i : Int) (2 * cN l w) (bN rule (o w + 1)) = cond (decide (cN l w * bN rule (o i + 1) < cN l i * bN rule (o w + 1))) (some (.cont ((i : Int), ((i + 1 : Nat) : Int), 2 * cN l i, bN rule (o i + 1)))) (some (.cont ((w : Int), ((i + 1 : Nat) : Int), 2 * cN l w, bN rule (o w + 1)))) := by
        unfold share_Turns_b23 share_Turns_j26
        rw [lt_dec hi, cond_true, getI_nat hi, Option.bind_some, mapO_get hi, Option.bind_some, get_getD (d := (0 : Int)) hi, W_succ (by omega), W_succ (by omega), day_spec (by omega) (by omega), Option.bind_some]
        show cond (_ && share_quotient_more ⟨2 * cN l i, bN rule (o i + 1)⟩ ⟨2 * cN l w, bN rule (o w + 1)⟩) _ _ = _
        rw [more_spec (by unfold cN; omega) (by unfold cN; omega) bi bw]
        by_cases hm : cN l w * bN rule (o i + 1) < cN l i * bN rule (o w + 1)
        · rw [decide_eq_true hm]
          have hne : (!((2 * l.getD i 0 == 2 * cN l w) && (askI rule ((o i + 1 : Nat) : Int) == bN rule (o w + 1)))) = true := by
            cases hh : ((2 * l.getD i 0 == 2 * cN l w) && (askI rule ((o i + 1 : Nat) : Int) == bN rule (o w + 1))) with
            | false => rfl
            | true =>
              exfalso
              simp only [Bool.and_eq_true, beq_iff_eq] at hh
              obtain ⟨e1, e2⟩ := hh
              have e1' : cN l i = cN l w := by unfold cN at *; omega
              have e2' : bN rule (o i + 1) = bN rule (o w + 1) := e2
              rw [e1', e2'] at hm
              exact absurd hm (Int.lt_irrefl _)
          show cond ((!((2 * l.getD i 0 == 2 * cN l w) && (askI rule ((o i + 1 : Nat) : Int) == bN rule (o w + 1)))) && true) _ _ = _
          rw [hne]
          rfl
        · rw [decide_eq_false hm, Bool.and_false]
          rfl
      show ∃ s', share_Turns_b23 N l rule (mapO l.length o) (w : Int) (i : Int) (2 * cN l w) (bN rule (o w + 1)) = some (.cont s') ∧ _
      rw [hb]
      by_cases hm : cN l w * bN rule (o i + 1) < cN l i * bN rule (o w + 1)
      · rw [decide_eq_true hm, cond_true]
        have hwi' : w < i := by
          rcases hwi with h' | ⟨h', h''⟩
          · exact h'
          · subst h' h''
            exact absurd hm (Int.lt_irrefl _)
        exact ⟨_, rfl, i, hi, .inl (by omega), hstep.1 hm hwi', rfl⟩
      · rw [decide_eq_false hm, cond_false]
        exact ⟨_, rfl, w, hw, .inl (by omega), hstep.2 hm, rfl⟩)
    (fun s hs => by
      obtain ⟨w, hw, hwi, hbest, rfl⟩ := hs
      show share_Turns_b23 N l rule (mapO l.length o) (w : Int) (l.length : Int) _ _ = _
      unfold share_Turns_b23
      rw [ge_dec, cond_false]) l.length 0 (0, 0, 2 * cN l 0, bN rule (o 0 + 1)) N (by omega) (by omega) ⟨0, by omega, .inr ⟨rfl, rfl⟩, fun t ht => by omega, rfl⟩
  obtain ⟨w, hw, -, hbest, rfl⟩ := h2
  exact ⟨w, hw, hbest, h1⟩

theorem turns_prog {N : Nat} (hN : 60 ≤ N) {l : List Int} (h : chkC l = 0) {days rule : Int} (hd : 1 ≤ days ∧ days ≤ 366) (hdN : days < N) (hr : 0 ≤ rule ∧ rule ≤ 2) (hu : ¬ (rule = 2 ∧ days < l.length)) :
    ∃ o : Nat → Nat, Fair l.length (cN l) (bN rule) o ∧ (sumN o l.length : Int) = days ∧ share_Turns N l days rule = some (mapO l.length o, 0) := by
  have hc := chkC_ok h
  have hn := hc.n
  have hcl := claims_of hc hr
  obtain ⟨s', h1, h2⟩ := loopInv (fun s15 : List Int × Int => share_Turns_b15 N l days rule s15.1 s15.2)
    (fun i s => ∃ o : Nat → Nat, Fair l.length (cN l) (bN rule) o ∧ sumN o l.length = i ∧ s = (mapO l.length o, (i : Int))) days.toNat
    (fun i s hi hs => by
      obtain ⟨o, hf, hsum, rfl⟩ := hs
      have hole : ∀ s, s < l.length → o s ≤ 400 := fun s hs => by
        have := sumN_one (o := o) l.length hs
        omega
      obtain ⟨w, hw, hbest, hloop⟩ := pick_spec hN hc hr hole
      have c0 := hc.c 0 (by omega)
      have o0 := hole 0 (by omega)
      have ow := hole w hw
      refine ⟨(mapO l.length (bump o w), ((i + 1 : Nat) : Int)), ?_, bump o w, hf.bump hcl hw hbest, ?_, rfl⟩
      · show share_Turns_b15 N l days rule (mapO l.length o) (i : Int) = _
        unfold share_Turns_b15
        have g0 : getI l 0 = some (l.getD 0 0) := by
          have := getI_nat (l := l) (i := 0) (by omega)
          rw [get_getD (d := (0 : Int)) (show 0 < l.length by omega)] at this
          exact this
        have g1 : getI (mapO l.length o) 0 = some ((o 0 : Nat) : Int) := mapO_get (s := 0) (by omega)
        rw [decide_eq_true (show (i : Int) < days by omega), cond_true, g0, Option.bind_some, g1, Option.bind_some, W_succ (by omega), day_spec (by omega) (by omega), Option.bind_some]
        show Option.bind (loopO _ N (0, 0, 2 * cN l 0, bN rule (o 0 + 1))) _ = _
        rw [hloop, Option.bind_some]
        show Option.bind (getI (mapO l.length o) (w : Int)) (fun e_3 => Option.bind (getI (mapO l.length o) (w : Int)) fun e_4 => some (Step.cont ((mapO l.length o).set (w : Int).toNat (W (e_3 + 1)), W ((i : Int) + 1)))) = _
        rw [mapO_get hw, Option.bind_some, Option.bind_some, W_succ (by omega), W_succ (by omega), show (w : Int).toNat = w by omega, mapO_set]
      · rw [sumN_bump, if_pos hw, hsum])
    (fun s hs => by
      obtain ⟨o, hf, hsum, rfl⟩ := hs
      show share_Turns_b15 N l days rule (mapO l.length o) ((days.toNat : Nat) : Int) = _
      unfold share_Turns_b15
      rw [decide_eq_false (show ¬ ((days.toNat : Nat) : Int) < days by omega), cond_false]) days.toNat 0 (mapO l.length (fun _ => 0), 0) N (by omega) (by omega) ⟨fun _ => 0, fair_zero _ _ _, by
        have : ∀ k, sumN (fun _ => 0) k = 0 := by
          intro k
          induction k with
          | zero => rfl
          | succ k ih => unfold sumN; rw [ih]
        exact this _, rfl⟩
  obtain ⟨o, hf, hsum, rfl⟩ := h2
  refine ⟨o, hf, by omega, ?_⟩
  unfold share_Turns
  have hir : share_in days 1 366 = true := by unfold share_in; simp only [Bool.and_eq_true, decide_eq_true_eq]; omega
  have hrr : share_Rule_right rule = true := by unfold share_Rule_right; simp only [Bool.and_eq_true, decide_eq_true_eq]; omega
  have hee : ((rule == 2) && decide (days < ((l.length : Nat) : Int))) = false := by
    cases hh : ((rule == 2) && decide (days < ((l.length : Nat) : Int))) with
    | false => rfl
    | true =>
      simp only [Bool.and_eq_true, beq_iff_eq, decide_eq_true_eq] at hh
      exact absurd hh hu
  have him : inM ((l.length : Nat) : Int) = some () := by unfold inM; rw [if_pos (by omega)]
  rw [claimed_prog hN (by omega), h, Option.bind_some, hir, hrr, hee, him, show ((l.length : Nat) : Int).toNat = l.length by omega, mapO_zero]
  show Option.bind (loopO _ N (mapO l.length (fun _ => 0), 0)) _ = _
  rw [h1]
  rfl
end Go.Nilo
