/-
  What the plain functions compute, in plain arithmetic, part 6. Conditions: what each theorem names.
-/
import Derived.Test.YtlbmcojegiabpaaTnL5
set_option linter.unusedSimpArgs false
set_option linter.unusedVariables false
namespace Go.Nilo
/-! ### The reference counts what is ahead -/
def ahB (l : List Int) (rule : Int) (s n t m : Nat) : Bool := decide (cN l s * bN rule m < cN l t * bN rule n) || (!(decide (cN l t * bN rule n < cN l s * bN rule m)) && decide (t < s))
theorem ahB_iff {l : List Int} {rule : Int} {s n t m : Nat} : ahB l rule s n t m = true ↔ ahead (cN l) (bN rule) t m s n := by
  unfold ahB ahead
  simp only [Bool.or_eq_true, Bool.and_eq_true, Bool.not_eq_true', decide_eq_true_eq, decide_eq_false_iff_not]
  omega
theorem count_id {p : Nat → Bool} : ∀ n, count p n ≤ n
  | 0 => Nat.le_refl _
  | n + 1 => by
    unfold count
    have := count_id (p := p) n
    split <;> omega
theorem sumN_bound {f : Nat → Nat} {c : Nat} (h : ∀ t, f t ≤ c) : ∀ k, sumN f k ≤ c * k
  | 0 => Nat.le_refl _
  | k + 1 => by
    unfold sumN
    have := sumN_bound h k
    have := h k
    rw [Nat.mul_succ]
    omega
theorem b_bd {rule : Int} (hr : 0 ≤ rule ∧ rule ≤ 2) {n : Nat} (h1 : 1 ≤ n) (h2 : n ≤ 400) : 0 ≤ bN rule n ∧ bN rule n ≤ 200000 := by
  unfold bN
  rcases askI_cases (n := (n : Int)) hr with ⟨-, h⟩ | ⟨-, h⟩ | ⟨-, h⟩ <;> omega
theorem m_loop {N : Nat} {l : List Int} (h : COk l) {rule days : Int} (hr : 0 ≤ rule ∧ rule ≤ 2) (hd : 1 ≤ days ∧ days ≤ 366) (hdN : days < N) {s n t a : Nat} (hs : s < l.length) (ht : t < l.length) (hn : 1 ≤ n) (hn' : n ≤ 400) (ha : a ≤ 100000) :
    loopO (fun s39 : Int × Int => ref09_Turns_b39 N l days rule (s : Int) (n : Int) (t : Int) s39.1 s39.2) N ((a : Int), 1) = some (.go (((a + count (ahB l rule s n t) days.toNat : Nat) : Int), ((days.toNat + 1 : Nat) : Int))) := by
  have hlen := h.n
  have cs : 1 ≤ cN l s ∧ cN l s ≤ 1000000 := h.c s hs
  have ct : 1 ≤ cN l t ∧ cN l t ≤ 1000000 := h.c t ht
  have bn := b_bd hr hn hn'
  have := runS (ρ := Step (Int × Int) (Step (List Int × Int) (Step (List Int × Int) (List Int × Int)))) (fun i : Nat => (((a + count (ahB l rule s n t) i : Nat) : Int), ((i + 1 : Nat) : Int))) days.toNat (fun s39 : Int × Int => ref09_Turns_b39 N l days rule (s : Int) (n : Int) (t : Int) s39.1 s39.2) (fun i hi => by
    have hcnt := count_id (p := ahB l rule s n t) i
    have bm := b_bd (n := i + 1) hr (by omega) (by omega)
    show ref09_Turns_b39 N l days rule (s : Int) (n : Int) (t : Int) ((a + count (ahB l rule s n t) i : Nat) : Int) ((i + 1 : Nat) : Int) = _
    unfold ref09_Turns_b39 ref09_Turns_j42
    rw [decide_eq_true (show ((i + 1 : Nat) : Int) ≤ days by omega), cond_true, getI_nat ht, Option.bind_some, getI_nat hs, Option.bind_some, Option.bind_some, Option.bind_some, get_getD (d := (0 : Int)) ht, get_getD (d := (0 : Int)) hs, W_succ (by omega), W_succ (by omega), ask_ref (by omega), ask_ref (by omega)]
    show cond (ref09_above (cN l t) (bN rule (i + 1)) (cN l s) (bN rule n) || (!ref09_above (cN l s) (bN rule n) (cN l t) (bN rule (i + 1)) && decide ((t : Int) < (s : Int)))) _ _ = _
    rw [above_spec ct cs bm bn, above_spec cs ct bn bm]
    have e : decide ((t : Int) < (s : Int)) = decide (t < s) := by rw [Bool.eq_iff_iff, decide_eq_true_eq, decide_eq_true_eq]; omega
    rw [e]
    show cond (ahB l rule s n t (i + 1)) _ _ = some (Step.cont (((a + count (ahB l rule s n t) (i + 1) : Nat) : Int), ((i + 1 + 1 : Nat) : Int)))
    rw [count]
    cases ahB l rule s n t (i + 1) with
    | true => rw [if_pos rfl]; rfl
    | false => rw [if_neg (by decide)]; rfl) (by
    show ref09_Turns_b39 N l days rule (s : Int) (n : Int) (t : Int) _ ((days.toNat + 1 : Nat) : Int) = _
    unfold ref09_Turns_b39
    rw [decide_eq_false (show ¬ ((days.toNat + 1 : Nat) : Int) ≤ days by omega), cond_false]) (N := N) (by omega)
  exact this
theorem t_loop {N : Nat} (hN : 60 ≤ N) {l : List Int} (h : COk l) {rule days : Int} (hr : 0 ≤ rule ∧ rule ≤ 2) (hd : 1 ≤ days ∧ days ≤ 366) (hdN : days < N) {s n : Nat} (hs : s < l.length) (hn : 1 ≤ n) (hn' : n ≤ 400) :
    loopO (fun s32 : Int × Int => ref09_Turns_b32 N l days rule (s : Int) (n : Int) s32.1 s32.2) N (0, 0) = some (.go (((sumN (fun t => count (ahB l rule s n t) days.toNat) l.length : Nat) : Int), (l.length : Int))) := by
  have hlen := h.n
  have := runS (ρ := Step (List Int × Int) (Step (List Int × Int) (List Int × Int))) (fun i : Nat => (((sumN (fun t => count (ahB l rule s n t) days.toNat) i : Nat) : Int), (i : Int))) l.length (fun s32 : Int × Int => ref09_Turns_b32 N l days rule (s : Int) (n : Int) s32.1 s32.2) (fun i hi => by
    have hb := sumN_bound (f := fun t => count (ahB l rule s n t) days.toNat) (c := 366) (fun t => by have := count_id (p := ahB l rule s n t) days.toNat; omega) i
    show ref09_Turns_b32 N l days rule (s : Int) (n : Int) _ (i : Int) = _
    unfold ref09_Turns_b32
    rw [lt_dec hi, cond_true, m_loop h hr hd hdN hs hi hn hn' (by omega), Option.bind_some]
    show some (Step.cont (_, W ((i : Int) + 1))) = _
    rw [W_succ (by omega)]
    rfl) (by
    show ref09_Turns_b32 N l days rule (s : Int) (n : Int) _ (l.length : Int) = _
    unfold ref09_Turns_b32
    rw [ge_dec, cond_false]) (N := N) (by omega)
  exact this
def upTo (o : Nat → Nat) (s i : Nat) : Nat → Nat := fun t => if t < s then o t else if t = s then min i (o s) else 0
theorem upTo_bump {o : Nat → Nat} {s i : Nat} (h : i + 1 ≤ o s) : bump (upTo o s i) s = upTo o s (i + 1) := by
  funext t
  unfold bump upTo
  by_cases hts : t = s
  · subst hts
    simp only [if_pos, Nat.lt_irrefl, if_false]
    omega
  · rw [if_neg hts, if_neg hts, if_neg hts]
theorem upTo_same {o : Nat → Nat} {s i : Nat} (h : ¬ i + 1 ≤ o s) : upTo o s i = upTo o s (i + 1) := by
  funext t
  unfold upTo
  by_cases hts : t = s
  · subst hts
    simp only [Nat.lt_irrefl, if_false, if_true]
    omega
  · rw [if_neg hts, if_neg hts]
theorem upTo_end {o : Nat → Nat} {s i : Nat} (h : o s ≤ i) : upTo o s i = upTo o (s + 1) 0 := by
  funext t
  unfold upTo
  by_cases hts : t = s
  · subst hts
    simp only [Nat.lt_irrefl, if_false, if_true, Nat.lt_succ_self]
    omega
  · by_cases h2 : t < s
    · rw [if_pos h2, if_pos (by omega)]
    · rw [if_neg h2, if_neg hts, if_neg (by omega)]
      by_cases h3 : t = s + 1
      · rw [if_pos h3]; omega
      · rw [if_neg h3]
theorem n_loop {N : Nat} (hN : 60 ≤ N) {l : List Int} (h : COk l) {rule days : Int} (hr : 0 ≤ rule ∧ rule ≤ 2) (hd : 1 ≤ days ∧ days ≤ 366) (hdN : days < N) {o : Nat → Nat} (hf : Fair l.length (cN l) (bN rule) o) (hsum : sumN o l.length = days.toNat) {s : Nat} (hs : s < l.length) :
    loopO (fun s25 : List Int × Int => ref09_Turns_b25 N l days rule (s : Int) s25.1 s25.2) N (mapO l.length (upTo o s 0), 1) = some (.go (mapO l.length (upTo o (s + 1) 0), ((days.toNat + 1 : Nat) : Int))) := by
  have hlen := h.n
  have hos : o s ≤ days.toNat := by
    have := sumN_one (o := o) l.length hs
    omega
  have := runS (ρ := Step (List Int × Int) (List Int × Int)) (fun i : Nat => (mapO l.length (upTo o s i), ((i + 1 : Nat) : Int))) days.toNat (fun s25 : List Int × Int => ref09_Turns_b25 N l days rule (s : Int) s25.1 s25.2) (fun i hi => by
    have hrank := rank_iff (D := days.toNat) (claims_of h hr) hf hsum hs (n := i + 1) (by omega) (fun t m => ahB l rule s (i + 1) t m) (fun t m _ _ _ => ahB_iff)
    show ref09_Turns_b25 N l days rule (s : Int) (mapO l.length (upTo o s i)) ((i + 1 : Nat) : Int) = _
    unfold ref09_Turns_b25 ref09_Turns_j28
    rw [decide_eq_true (show ((i + 1 : Nat) : Int) ≤ days by omega), cond_true, t_loop hN h hr hd hdN hs (by omega) (by omega), Option.bind_some]
    show cond (decide (((sumN (fun t => count (ahB l rule s (i + 1) t) days.toNat) l.length : Nat) : Int) < days)) _ _ = _
    have hu : upTo o s i s = min i (o s) := by unfold upTo; simp
    by_cases hin : i + 1 ≤ o s
    · have h1 : sumN (fun t => count (ahB l rule s (i + 1) t) days.toNat) l.length < days.toNat := hrank.2 hin
      rw [decide_eq_true (by omega), cond_true, mapO_get hs, Option.bind_some, Option.bind_some, W_succ (by omega), W_succ (by omega), show (s : Int).toNat = s by omega, mapO_set, upTo_bump hin]
    · have h1 : ¬ sumN (fun t => count (fun m => ahB l rule s (i + 1) t m) days.toNat) l.length < days.toNat := fun hh => hin (hrank.1 hh)
      have h2 : ¬ sumN (fun t => count (ahB l rule s (i + 1) t) days.toNat) l.length < days.toNat := h1
      rw [decide_eq_false (by omega), cond_false, W_succ (by omega), upTo_same hin]) (by
    show ref09_Turns_b25 N l days rule (s : Int) _ ((days.toNat + 1 : Nat) : Int) = _
    unfold ref09_Turns_b25
    rw [decide_eq_false (show ¬ ((days.toNat + 1 : Nat) : Int) ≤ days by omega), cond_false]) (N := N) (by omega)
  rw [upTo_end hos] at this
  exact this
theorem turns_ref {N : Nat} (hN : 60 ≤ N) {l : List Int} (h : chkC l = 0) {days rule : Int} (hd : 1 ≤ days ∧ days ≤ 366) (hdN : days < N) (hr : 0 ≤ rule ∧ rule ≤ 2) (hu : ¬ (rule = 2 ∧ days < l.length)) {o : Nat → Nat} (hf : Fair l.length (cN l) (bN rule) o) (hsum : (sumN o l.length : Int) = days) :
    ref09_Turns N l days rule = some (mapO l.length o, 0) := by
  have hc := chkC_ok h
  have hlen := hc.n
  have := runS (ρ := List Int × Int) (fun s : Nat => (mapO l.length (upTo o s 0), (s : Int))) l.length (fun s18 : List Int × Int => ref09_Turns_b18 N l days rule s18.1 s18.2) (fun s hs => by
    show ref09_Turns_b18 N l days rule (mapO l.length (upTo o s 0)) (s : Int) = _
    unfold ref09_Turns_b18
    rw [lt_dec hs, cond_true, n_loop hN hc hr hd hdN hf (by omega) hs, Option.bind_some]
    show some (Step.cont (_, W ((s : Int) + 1))) = _
    rw [W_succ (by omega)]) (by
    show ref09_Turns_b18 N l days rule _ (l.length : Int) = _
    unfold ref09_Turns_b18
    rw [ge_dec, cond_false]) (N := N) (by omega)
  have hee : ((rule == 2) && decide (days < ((l.length : Nat) : Int))) = false := by
    cases hh : ((rule == 2) && decide (days < ((l.length : Nat) : Int))) with
    | false => rfl
    | true =>
      simp only [Bool.and_eq_true, beq_iff_eq, decide_eq_true_eq] at hh
      exact absurd hh hu
  have him : inM ((l.length : Nat) : Int) = some () := by unfold inM; rw [if_pos (by omega)]
  have h1 : inB days 1 366 = true := by unfold inB; simp only [Bool.and_eq_true, decide_eq_true_eq]; omega
  have h2 : inB rule 0 2 = true := by unfold inB; simp only [Bool.and_eq_true, decide_eq_true_eq]; omega
  unfold ref09_Turns
  rw [claimed_ref hN (by omega), h, Option.bind_some, outside_not, outside_not, h1, h2, hee, him, show ((l.length : Nat) : Int).toNat = l.length by omega, mapO_zero]
  have e0 : mapO l.length (fun _ => 0) = mapO l.length (upTo o 0 0) := mapO_congr (fun s _ => by unfold upTo; split <;> first | omega | (split <;> omega))
  rw [e0]
  show Option.bind (loopO _ N (mapO l.length (upTo o 0 0), ((0 : Nat) : Int))) _ = _
  rw [this]
  show some (mapO l.length (upTo o l.length 0), (0 : Int)) = _
  rw [mapO_congr (o' := o) (fun s hs => by unfold upTo; rw [if_pos hs])]
/-- Both give the same days, or the same error. -/
theorem turns_same {N : Nat} (hN : 60 ≤ N) {l : List Int} (hl : l.length ≤ 15) {days rule : Int} (hdN : days < N ∨ 366 < days) : ∃ r, share_Turns N l days rule = some r ∧ ref09_Turns N l days rule = some r ∧ r.1.length ≤ 15 := by
  by_cases h : chkC l = 0
  · by_cases hd : 1 ≤ days ∧ days ≤ 366
    · by_cases hr : 0 ≤ rule ∧ rule ≤ 2
      · by_cases hu : rule = 2 ∧ days < l.length
        · have hee : ((rule == 2) && decide (days < ((l.length : Nat) : Int))) = true := by
            simp only [Bool.and_eq_true, beq_iff_eq, decide_eq_true_eq]
            exact hu
          have h1 : inB days 1 366 = true := by unfold inB; simp only [Bool.and_eq_true, decide_eq_true_eq]; omega
          have h2 : inB rule 0 2 = true := by unfold inB; simp only [Bool.and_eq_true, decide_eq_true_eq]; omega
          have h3 : share_in days 1 366 = true := h1
          have h4 : share_Rule_right rule = true := h2
          refine ⟨([], 6), ?_, ?_, by simp⟩
          · unfold share_Turns
            rw [claimed_prog hN hl, h, Option.bind_some, h3, h4, hee]
            rfl
          · unfold ref09_Turns
            rw [claimed_ref hN hl, h, Option.bind_some, outside_not, outside_not, h1, h2, hee]
            rfl
        · obtain ⟨o, hf, hsum, hp⟩ := turns_prog hN h hd (by omega) hr hu
          exact ⟨_, hp, turns_ref hN h hd (by omega) hr hu hf hsum, by rw [mapO_len]; exact hl⟩
      · have h1 : inB days 1 366 = true := by unfold inB; simp only [Bool.and_eq_true, decide_eq_true_eq]; omega
        have h2 : inB rule 0 2 = false := by unfold inB; simp only [Bool.and_eq_false_iff, decide_eq_false_iff_not]; omega
        have h3 : share_in days 1 366 = true := h1
        have h4 : share_Rule_right rule = false := h2
        refine ⟨([], 2), ?_, ?_, by simp⟩
        · unfold share_Turns
          rw [claimed_prog hN hl, h, Option.bind_some, h3, h4]
          rfl
        · unfold ref09_Turns
          rw [claimed_ref hN hl, h, Option.bind_some, outside_not, outside_not, h1, h2]
          rfl
    · have h1 : inB days 1 366 = false := by unfold inB; simp only [Bool.and_eq_false_iff, decide_eq_false_iff_not]; omega
      have h3 : share_in days 1 366 = false := h1
      refine ⟨([], 4), ?_, ?_, by simp⟩
      · unfold share_Turns
        rw [claimed_prog hN hl, h, Option.bind_some, h3]
        rfl
      · unfold ref09_Turns
        rw [claimed_ref hN hl, h, Option.bind_some, outside_not, h1]
        rfl
  · have : (chkC l != 0) = true := bne_iff_ne.2 h
    refine ⟨([], chkC l), ?_, ?_, by simp⟩
    · unfold share_Turns
      rw [claimed_prog hN hl, Option.bind_some, this]
      rfl
    · unfold ref09_Turns
      rw [claimed_ref hN hl, Option.bind_some, this]
      rfl
end Go.Nilo
