/-
  What the plain functions compute, in plain arithmetic, part 2. Conditions: what each theorem names.
-/
import Derived.Test.YtlbmcojegiabpaaTnL1
set_option linter.unusedSimpArgs false
set_option linter.unusedVariables false
namespace Go.Nilo
/-! ### Loops over all elements of a list -/
theorem every_gen {N : Nat} {α : Type} {l : List α} {f ok : α → Bool} (hf : ∀ x, f x = !ok x) (hl : l.length < N) (hl' : l.length ≤ 1000000) (b : Int → Option (Step Int Int))
    (hb : ∀ x, b x = cond (decide (x < ((l.length : Nat) : Int))) (Option.bind (getI l x) fun e => cond (f e) (some (.ret x)) (some (.cont (W (x + 1))))) (some (.brk x))) :
    (Option.bind (Option.bind (Option.bind (loopO b N 0) fun x4 => exK x4 (fun _ => some (-1)) some) fun r => some (decide (0 ≤ r))) fun r => some (!r)) = some (l.all ok) := by
  have hany : l.any f = !l.all ok := by
    rw [List.all_eq_not_any_not, Bool.not_not]
    congr 1
    exact funext hf
  rcases indexLoop f l (by omega) b hb l.length 0 N (by omega) (by omega) with ⟨k, a1, a2, a3⟩ | ⟨a1, a2⟩
  · rw [List.drop_zero, hany] at a3
    rw [show ((0 : Nat) : Int) = 0 from rfl] at a1
    rw [a1]
    have : l.all ok = false := by simpa using a3
    rw [this]
    simp [exK, a2]
  · rw [List.drop_zero, hany] at a2
    rw [show ((0 : Nat) : Int) = 0 from rfl] at a1
    rw [a1]
    have : l.all ok = true := by simpa using a2
    rw [this]
    simp [exK]
theorem all_first {α ρ : Type} {p : α → Bool} {d : α} {l : List α} {v : ρ} : ∀ n i, i + n = l.length → firstG (fun j => cond (p (l.getD j d)) none (some v)) i n = cond ((l.drop i).all p) none (some v)
  | 0, i, h => by
    rw [List.drop_eq_nil_of_le (by omega)]
    rfl
  | n + 1, i, h => by
    have hi : i < l.length := by omega
    unfold firstG
    rw [List.drop_eq_getElem_cons hi, List.all_cons, ← get_getD (d := d) hi]
    cases hp : p l[i] with
    | true =>
      rw [cond_true, Bool.true_and]
      exact all_first n (i + 1) (by omega)
    | false => rfl
theorem ref_all {N : Nat} {ρ : Type} {l : List Int} {bad ok : Int → Bool} {v : ρ} (hf : ∀ x, bad x = !ok x) (hl : l.length < N) (hl' : l.length ≤ 1000000) (b : Int → Option (Step Int ρ))
    (hb : ∀ x, b x = cond (decide (x < ((l.length : Nat) : Int))) (Option.bind (getI l x) fun e => cond (bad e) (some (.ret v)) (some (.cont (W (x + 1))))) (some (.brk x))) :
    loopO b N 0 = some (cond (l.all ok) (.go (l.length : Int)) (.out v)) := by
  have hs := scanS (ρ := ρ) (fun i : Nat => (i : Int)) (fun j => cond (ok (l.getD j 0)) none (some v)) l.length b (fun i hi => by
    rw [hb, lt_dec hi, cond_true, getI_nat hi, Option.bind_some, W_succ (by omega), hf, get_getD (d := (0 : Int)) hi]
    cases ok (l.getD i 0) <;> rfl) (by rw [hb, ge_dec, cond_false]) l.length 0 N (by omega) (by omega)
  show loopO b N ((0 : Nat) : Int) = _
  rw [hs, all_first l.length 0 (by omega), List.drop_zero]
  cases l.all ok <;> rfl
def inB (n a b : Int) : Bool := decide (a ≤ n) && decide (n ≤ b)
theorem outside_not (n a b : Int) : ref09_outside n a b = !inB n a b := by
  unfold ref09_outside inB
  rw [Bool.eq_iff_iff]
  simp only [Bool.or_eq_true, Bool.not_eq_true', decide_eq_true_eq, Bool.and_eq_false_iff, decide_eq_false_iff_not]
  omega
theorem every_water {N : Nat} {l : List Int} (hl : l.length < N) (hl' : l.length ≤ 1000000) : share_every_int N l = some (l.all fun x => inB x 0 1000000000) := by
  unfold share_every_int slices_ContainsFunc_Lint_int slices_IndexFunc_Lint_int
  exact every_gen (f := share_every_int_1) (fun x => rfl) hl hl' _ (fun x => rfl)
theorem every_claim {N : Nat} {l : List Int} (hl : l.length < N) (hl' : l.length ≤ 1000000) : share_every_int_s2 N l = some (l.all fun x => inB x 1 1000000) := by
  unfold share_every_int_s2 slices_ContainsFunc_Lint_int_s2 slices_IndexFunc_Lint_int_s2
  exact every_gen (f := share_every_int_1_s2) (fun x => rfl) hl hl' _ (fun x => rfl)
theorem every_share {N : Nat} {l : List Int} (hl : l.length < N) (hl' : l.length ≤ 1000000) : share_every_int_s3 N l = some (l.all fun x => inB x 0 366) := by
  unfold share_every_int_s3 slices_ContainsFunc_Lint_int_s3 slices_IndexFunc_Lint_int_s3
  exact every_gen (f := share_every_int_1_s3) (fun x => rfl) hl hl' _ (fun x => rfl)

def chkC (l : List Int) : Int := if 1 ≤ l.length ∧ l.length ≤ 12 then (if l.all fun x => inB x 1 1000000 then 0 else 4) else 3
theorem claimed_prog {N : Nat} (hN : 60 ≤ N) {l : List Int} (hl : l.length ≤ 15) : share_claimed N l = some (chkC l) := by
  unfold share_claimed chkC
  by_cases h : 1 ≤ l.length ∧ l.length ≤ 12
  · have e : (!share_in (l.length : Int) 1 12) = false := by
      unfold share_in
      simp only [Bool.not_eq_false', Bool.and_eq_true, decide_eq_true_eq]
      omega
    rw [e, if_pos h, cond_false, every_claim (by omega) (by omega), Option.bind_some]
    cases l.all fun x => inB x 1 1000000 <;> rfl
  · have e : (!share_in (l.length : Int) 1 12) = true := by
      unfold share_in
      simp only [Bool.not_eq_true', Bool.and_eq_false_iff, decide_eq_false_iff_not]
      omega
    rw [e, if_neg h, cond_true]
theorem claimed_ref {N : Nat} (hN : 60 ≤ N) {l : List Int} (hl : l.length ≤ 15) : ref09_claimed N l = some (chkC l) := by
  unfold ref09_claimed chkC
  by_cases h : 1 ≤ l.length ∧ l.length ≤ 12
  · have e : (decide ((l.length : Int) < 1) || decide (12 < (l.length : Int))) = false := by
      simp only [Bool.or_eq_false_iff, decide_eq_false_iff_not]
      omega
    rw [e, if_pos h, cond_false, ref_all (ok := fun x => inB x 1 1000000) (v := (4 : Int)) (fun x => outside_not x 1 1000000) (by omega) (by omega) (fun s7 => ref09_claimed_b7 N l s7) (fun x => rfl)]
    cases l.all fun x => inB x 1 1000000 <;> rfl
  · have e : (decide ((l.length : Int) < 1) || decide (12 < (l.length : Int))) = true := by
      simp only [Bool.or_eq_true, decide_eq_true_eq]
      omega
    rw [e, if_neg h, cond_true]
def chkS (l s : List Int) (rule : Int) : Int := if chkC l = 0 then (if s.length = l.length then (if s.all fun x => inB x 0 366 then (if inB rule 0 2 then 0 else 2) else 4) else 2) else chkC l
theorem shared_prog {N : Nat} (hN : 60 ≤ N) {l s : List Int} {rule : Int} (hl : l.length ≤ 15) (hs : s.length ≤ 15) : share_shared N l s rule = some (chkS l s rule) := by
  unfold share_shared chkS
  rw [claimed_prog hN hl, Option.bind_some]
  by_cases h : chkC l = 0
  · rw [if_pos h, h]
    show cond (((s.length : Nat) : Int) != ((l.length : Nat) : Int)) _ _ = _
    by_cases he : s.length = l.length
    · have hne : (((s.length : Nat) : Int) != ((l.length : Nat) : Int)) = false := by rw [he]; simp
      rw [hne, cond_false, if_pos he, every_share (by omega) (by omega), Option.bind_some]
      have er : share_Rule_right rule = inB rule 0 2 := rfl
      rw [er]
      cases s.all fun x => inB x 0 366 <;> cases inB rule 0 2 <;> rfl
    · have hne : (((s.length : Nat) : Int) != ((l.length : Nat) : Int)) = true := by rw [bne_iff_ne]; omega
      rw [hne, if_neg he]
      rfl
  · have : (chkC l != 0) = true := bne_iff_ne.2 h
    rw [if_neg h, this, cond_true]
theorem shared_ref {N : Nat} (hN : 60 ≤ N) {l s : List Int} {rule : Int} (hl : l.length ≤ 15) (hs : s.length ≤ 15) : ref09_shared N l s rule = some (chkS l s rule) := by
  unfold ref09_shared chkS
  rw [claimed_ref hN hl, Option.bind_some]
  by_cases h : chkC l = 0
  · rw [if_pos h, h]
    show cond (((s.length : Nat) : Int) != ((l.length : Nat) : Int)) _ _ = _
    by_cases he : s.length = l.length
    · have hne : (((s.length : Nat) : Int) != ((l.length : Nat) : Int)) = false := by rw [he]; simp
      rw [hne, cond_false, if_pos he, ref_all (ok := fun x => inB x 0 366) (v := (4 : Int)) (fun x => outside_not x 0 366) (by omega) (by omega) (fun s11 => ref09_shared_b11 N s s11) (fun x => rfl), Option.bind_some, outside_not]
      cases s.all fun x => inB x 0 366 <;> cases inB rule 0 2 <;> rfl
    · have hne : (((s.length : Nat) : Int) != ((l.length : Nat) : Int)) = true := by rw [bne_iff_ne]; omega
      rw [hne, if_neg he]
      rfl
  · have : (chkC l != 0) = true := bne_iff_ne.2 h
    rw [if_neg h, this, cond_true]

structure COk (l : List Int) : Prop where
  n : 1 ≤ l.length ∧ l.length ≤ 12
  c : ∀ i, i < l.length → 1 ≤ l.getD i 0 ∧ l.getD i 0 ≤ 1000000
theorem all_in {l : List Int} {a b : Int} (h : (l.all fun x => inB x a b) = true) {i : Nat} (hi : i < l.length) : a ≤ l.getD i 0 ∧ l.getD i 0 ≤ b := by
  have := List.all_eq_true.1 h l[i] (List.getElem_mem hi)
  rw [get_getD (d := (0 : Int)) hi] at this
  unfold inB at this
  simpa only [Bool.and_eq_true, decide_eq_true_eq] using this
theorem chkC_ok {l : List Int} (h : chkC l = 0) : COk l := by
  unfold chkC at h
  split at h
  · rename_i hh
    split at h
    · rename_i ha
      exact ⟨hh, fun i hi => all_in ha hi⟩
    · omega
  · omega
structure SOk (l s : List Int) (rule : Int) : Prop where
  c : COk l
  n : s.length = l.length
  s : ∀ i, i < l.length → 0 ≤ s.getD i 0 ∧ s.getD i 0 ≤ 366
  r : 0 ≤ rule ∧ rule ≤ 2
theorem chkS_ok {l s : List Int} {rule : Int} (h : chkS l s rule = 0) : SOk l s rule := by
  unfold chkS at h
  split at h
  · rename_i hc
    split at h
    · rename_i hn
      split at h
      · rename_i ha
        split at h
        · rename_i hr
          unfold inB at hr
          exact ⟨chkC_ok hc, hn, fun i hi => all_in ha (by omega), by simpa only [Bool.and_eq_true, decide_eq_true_eq] using hr⟩
        · omega
      · omega
    · omega
  · rename_i hc
    exact absurd h hc
theorem same_int {N : Nat} {l : List Int} (hl : l.length ≤ 1000000) (hN : l.length < N) : kit_Same_int N l l = some true := by
  have hb : ∀ (i : Nat) (h : i < l.length), kit_Same_int_b7 N l l (i : Int) = some (.cont (((i + 1 : Nat) : Int))) := by
    intro i h
    unfold kit_Same_int_b7
    rw [lt_dec h, cond_true, getI_nat h, Option.bind_some, Option.bind_some, bne_self_eq_false, cond_false, W_succ (by omega)]
  have he : kit_Same_int_b7 N l l (l.length : Int) = some (.brk (l.length : Int)) := by
    unfold kit_Same_int_b7
    rw [ge_dec, cond_false]
  unfold kit_Same_int
  have h0 : ((((l.length : Nat) : Int)) != ((l.length : Nat) : Int)) = false := by simp
  rw [h0, cond_false, sameLoop l hl (fun s7 => kit_Same_int_b7 N l l s7) hb he hN]
  rfl
end Go.Nilo
