/-
  What the plain functions compute, in plain arithmetic, part 4. Conditions: what each theorem names.
-/
import Derived.Test.YtlbmcojegiabpaaRiL3
set_option linter.unusedSimpArgs false
set_option linter.unusedVariables false
namespace Go.Nilo
/-! ### The reference gives the same -/
theorem refC_len (c : share_Compact) : (refC c).Rights.length = c.Rights.length := by simp [refC]
theorem refC_get {c : share_Compact} {i : Nat} (hi : i < c.Rights.length) : getI (refC c).Rights (i : Int) = some (refR (c.Rights.getD i r0)) := by
  rw [getI_nat (by rw [refC_len]; exact hi)]
  simp [refC, hi, List.getD]
theorem takes_ref {N : Nat} (hN : 60 ≤ N) {c : share_Compact} (h : COk c) {flow : Int} (hf : 0 ≤ flow ∧ flow ≤ 1000000000) {i : Nat} (hi : i < c.Rights.length) : ref09_takes N (refC c) flow (i : Int) = some (takeR c flow i) := by
  have hl := h.l
  have hb : ∀ k, k < i → ref09_takes_b5 N (refC c) (i : Int) (olderR c k) (k : Int) = some (.cont (olderR c (k + 1), ((k + 1 : Nat) : Int))) := by
    intro k hk
    have h1 := older_bd h (k + 1) (by omega)
    unfold ref09_takes_b5
    rw [lt_dec hk, cond_true, refC_get (by omega), Option.bind_some, W_succ (by omega)]
    show some (Step.cont (W (olderR c k + (c.Rights.getD k r0).Amount), _)) = _
    rw [olderR] at h1 ⊢
    rw [W_id (by omega) (by omega)]
  have he : ref09_takes_b5 N (refC c) (i : Int) (olderR c i) (i : Int) = some (.brk (olderR c i, (i : Int))) := by
    unfold ref09_takes_b5
    rw [ge_dec, cond_false]
  have := runS (fun k : Nat => (olderR c k, (k : Int))) i (fun s5 => ref09_takes_b5 N (refC c) (i : Int) s5.1 s5.2) hb he (N := N) (by omega)
  have h1 := older_bd h i (by omega)
  unfold ref09_takes
  show Option.bind (loopO _ N (olderR c 0, ((0 : Nat) : Int))) _ = _
  rw [this, Option.bind_some]
  show Option.bind (getI (refC c).Rights (i : Int)) _ = _
  rw [refC_get hi, Option.bind_some]
  show some (min (c.Rights.getD i r0).Amount (max 0 (W (flow - olderR c i)))) = _
  rw [W_id (by omega) (by omega)]
  rfl

def okF (flow : Int) : Bool := decide (0 ≤ flow) && decide (flow ≤ 1000000000)
def realF (c : share_Compact) (flow : Int) : List Int × Int := if chk c = 0 then (if okF flow then (gotL c flow, 0) else ([], 4)) else ([], chk c)
theorem real_prog {N : Nat} (hN : 60 ≤ N) {c : share_Compact} {flow : Int} : share_Real N c flow = some (realF c flow) := by
  unfold share_Real realF
  rw [check_prog hN, Option.bind_some]
  by_cases h : chk c = 0
  · rw [if_pos h, h]
    show cond (!(share_water flow)) _ _ = _
    have e : share_water flow = okF flow := rfl
    rw [e]
    cases hf : okF flow with
    | false => rfl
    | true =>
      unfold okF at hf
      simp only [Bool.and_eq_true, decide_eq_true_eq] at hf
      rw [serve_spec hN (chk_ok h) hf]
      rfl
  · have : (chk c != 0) = true := bne_iff_ne.2 h
    rw [if_neg h, this]
    rfl
theorem real_ref {N : Nat} (hN : 60 ≤ N) {c : share_Compact} {flow : Int} : ref09_Real N (refC c) flow = some (realF c flow) := by
  unfold ref09_Real realF
  rw [check_ref hN, Option.bind_some]
  by_cases h : chk c = 0
  · rw [if_pos h, h]
    show cond (ref09_outside flow 0 1000000000) _ _ = _
    have e : ref09_outside flow 0 1000000000 = !okF flow := by
      unfold ref09_outside okF
      rw [Bool.eq_iff_iff]
      simp only [Bool.or_eq_true, Bool.not_eq_true', decide_eq_true_eq, Bool.and_eq_false_iff, decide_eq_false_iff_not]
      omega
    rw [e]
    cases hf : okF flow with
    | false => rfl
    | true =>
      unfold okF at hf
      simp only [Bool.and_eq_true, decide_eq_true_eq] at hf
      have hc := chk_ok h
      have hs := hc.s
      have hl := hc.l
      have hin : ∀ s : Nat, loopO (fun s20 : Int × Int => ref09_Real_b20 N (refC c) flow (s : Int) s20.1 s20.2) N ((0 : Int), (0 : Int)) = some (.go (gotF c flow (s : Int) c.Rights.length, (c.Rights.length : Int))) := by
        intro s
        refine runS (fun i : Nat => (gotF c flow (s : Int) i, (i : Int))) c.Rights.length (fun s20 : Int × Int => ref09_Real_b20 N (refC c) flow (s : Int) s20.1 s20.2) (fun i hi => ?_) ?_ (by omega)
        · have hp := part_bd hc (flow := flow) hi
          have hg := got_bd hc (flow := flow) (s := (s : Int)) i (by omega)
          have hel := hc.el i hi
          have hbi : (1000000000 : Int) * i ≤ 30000000000 := by omega
          show ref09_Real_b20 N (refC c) flow (s : Int) (gotF c flow (s : Int) i) (i : Int) = _
          unfold ref09_Real_b20 ref09_Real_j23
          rw [refC_len, lt_dec hi, cond_true, refC_get hi, Option.bind_some, W_succ (by omega), takes_ref hN hc hf hi, Option.bind_some, Option.bind_some]
          show cond ((c.Rights.getD i r0).State == (s : Int)) (some (Step.cont (W (gotF c flow (s : Int) i + W ((W (takeR c flow i * W (1000 - (c.Rights.getD i r0).Loss))).tdiv 1000)), _))) _ = _
          rw [W_id (n := 1000 - (c.Rights.getD i r0).Loss) (by omega) (by omega), W_id (n := takeR c flow i * (1000 - (c.Rights.getD i r0).Loss)) (by omega) (by omega), tdiv_div hp.1]
          show cond _ (some (Step.cont (W (gotF c flow (s : Int) i + W (partR c flow i)), _))) _ = some (Step.cont (gotF c flow (s : Int) (i + 1), _))
          rw [W_id (n := partR c flow i) (by omega) (by omega), W_id (n := gotF c flow (s : Int) i + partR c flow i) (by omega) (by omega), gotF]
          cases ((c.Rights.getD i r0).State == (s : Int))
          · rw [cond_false, cond_false, Int.add_zero]
          · rfl
        · show ref09_Real_b20 N (refC c) flow (s : Int) _ (c.Rights.length : Int) = _
          unfold ref09_Real_b20
          rw [refC_len, ge_dec, cond_false]
      have hout : loopO (fun s12 : List Int × Int => ref09_Real_b12 N (refC c) flow s12.1 s12.2) N (([] : List Int), (0 : Int)) = some (.go (gotL c flow, (c.States.toNat : Int))) := by
        refine runS (fun s : Nat => ((List.range s).map fun s : Nat => gotF c flow (s : Int) c.Rights.length, (s : Int))) c.States.toNat (fun s12 : List Int × Int => ref09_Real_b12 N (refC c) flow s12.1 s12.2) (fun s hs' => ?_) ?_ (by omega)
        · show ref09_Real_b12 N (refC c) flow _ (s : Int) = _
          unfold ref09_Real_b12
          have hd : decide ((s : Int) < (refC c).States) = true := by rw [decide_eq_true_eq]; show (s : Int) < c.States; omega
          rw [hd, cond_true, hin s, Option.bind_some]
          show Option.bind (room _) _ = _
          rw [room_ok (by simp; omega), Option.bind_some, W_succ (by omega), List.range_succ, List.map_append]
          rfl
        · show ref09_Real_b12 N (refC c) flow _ (c.States.toNat : Int) = _
          unfold ref09_Real_b12
          have hd : decide ((c.States.toNat : Int) < (refC c).States) = false := by rw [decide_eq_false_iff_not]; show ¬ (c.States.toNat : Int) < c.States; omega
          rw [hd, cond_false]
      show Option.bind (loopO _ N _) _ = _
      rw [hout]
      rfl
  · have : (chk c != 0) = true := bne_iff_ne.2 h
    rw [if_neg h, this]
    rfl
end Go.Nilo
