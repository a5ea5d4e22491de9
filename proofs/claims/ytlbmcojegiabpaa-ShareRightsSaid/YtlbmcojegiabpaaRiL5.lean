/-
  What the plain functions compute, in plain arithmetic, part 5. Conditions: what each theorem names.
-/
import Derived.Test.YtlbmcojegiabpaaRiL4
set_option linter.unusedSimpArgs false
set_option linter.unusedVariables false
namespace Go.Nilo
/-! ### Spans, and what is short first -/
def okA (s : api_Span) : Bool := decide (0 ≤ s.Lo) && decide (s.Lo ≤ s.Hi) && decide (s.Hi ≤ 1000000000)
def spanL (c : share_Compact) (s : api_Span) (n : Nat) : List api_Span := (List.range n).map fun k : Nat => (⟨gotF c s.Lo (k : Int) c.Rights.length, gotF c s.Hi (k : Int) c.Rights.length⟩ : api_Span)
def sharesF (c : share_Compact) (s : api_Span) : List api_Span × Int := if chk c = 0 then (if okA s then (spanL c s c.States.toNat, 0) else ([], 4)) else ([], chk c)
theorem gotL_len (c : share_Compact) (flow : Int) : (gotL c flow).length = c.States.toNat := by simp [gotL]
theorem gotL_get {c : share_Compact} {flow : Int} {i : Nat} (hi : i < c.States.toNat) : getI (gotL c flow) (i : Int) = some (gotF c flow (i : Int) c.Rights.length) := by
  rw [getI_nat (by rw [gotL_len]; exact hi)]
  simp [gotL]
theorem spanL_succ (c : share_Compact) (s : api_Span) (n : Nat) : spanL c s (n + 1) = spanL c s n ++ [(⟨gotF c s.Lo (n : Int) c.Rights.length, gotF c s.Hi (n : Int) c.Rights.length⟩ : api_Span)] := by
  unfold spanL
  rw [List.range_succ, List.map_append]
  rfl
theorem spanL_len (c : share_Compact) (s : api_Span) (n : Nat) : (spanL c s n).length = n := by simp [spanL]
theorem shares_prog {N : Nat} (hN : 60 ≤ N) {c : share_Compact} {s : api_Span} : share_Shares N c s = some (sharesF c s) := by
  unfold share_Shares sharesF
  rw [check_prog hN, Option.bind_some]
  by_cases h : chk c = 0
  · rw [if_pos h, h]
    show cond (!(share_waters s)) _ _ = _
    have e : share_waters s = okA s := by
      unfold share_waters share_water share_in okA
      rw [Bool.eq_iff_iff]
      simp only [Bool.and_eq_true, decide_eq_true_eq]
      omega
    rw [e]
    cases hf : okA s with
    | false => rfl
    | true =>
      unfold okA at hf
      simp only [Bool.and_eq_true, decide_eq_true_eq] at hf
      have hc := chk_ok h
      have hs := hc.s
      rw [Bool.not_true, cond_false, serve_spec hN hc (by omega), Option.bind_some, serve_spec hN hc (by omega), Option.bind_some]
      have := runS (ρ := List api_Span × Int) (fun i : Nat => (gotL c s.Lo, gotL c s.Hi, spanL c s i, (i : Int))) c.States.toNat (fun s12 => share_Shares_b12 N (gotL c s.Lo) s12.1 s12.2.1 s12.2.2.1 s12.2.2.2) (fun i hi => by
        show share_Shares_b12 N (gotL c s.Lo) (gotL c s.Lo) (gotL c s.Hi) (spanL c s i) (i : Int) = _
        unfold share_Shares_b12
        rw [gotL_len, lt_dec hi, cond_true, gotL_get hi, gotL_get hi, Option.bind_some, Option.bind_some, ← spanL_succ, room_ok (by rw [spanL_len]; omega), Option.bind_some, W_succ (by omega)]) (by
        show share_Shares_b12 N (gotL c s.Lo) (gotL c s.Lo) (gotL c s.Hi) (spanL c s c.States.toNat) (c.States.toNat : Int) = _
        unfold share_Shares_b12
        rw [gotL_len, ge_dec, cond_false]) (N := N) (by omega)
      show Option.bind (loopO _ N (gotL c s.Lo, gotL c s.Hi, spanL c s 0, ((0 : Nat) : Int))) _ = _
      rw [this]
      rfl
  · have : (chk c != 0) = true := bne_iff_ne.2 h
    rw [if_neg h, this]
    rfl
theorem shares_ref {N : Nat} (hN : 60 ≤ N) {c : share_Compact} {s : api_Span} : ref09_Shares N (refC c) s = some (sharesF c s) := by
  unfold ref09_Shares sharesF
  rw [check_ref hN, Option.bind_some]
  by_cases h : chk c = 0
  · rw [if_pos h, h]
    show cond (ref09_wrong s 0 1000000000) _ _ = _
    have e : ref09_wrong s 0 1000000000 = !okA s := by
      unfold ref09_wrong okA
      rw [Bool.eq_iff_iff]
      simp only [Bool.or_eq_true, Bool.not_eq_true', decide_eq_true_eq, Bool.and_eq_false_iff, decide_eq_false_iff_not]
      omega
    rw [e]
    cases hf : okA s with
    | false => rfl
    | true =>
      unfold okA at hf
      simp only [Bool.and_eq_true, decide_eq_true_eq] at hf
      have hc := chk_ok h
      have hs := hc.s
      have hr : ∀ x, 0 ≤ x ∧ x ≤ 1000000000 → realF c x = (gotL c x, 0) := by
        intro x hx
        unfold realF okF
        rw [if_pos h]
        simp [hx]
      rw [Bool.not_true, cond_false, real_ref hN, Option.bind_some, real_ref hN, Option.bind_some, hr _ (by omega), hr _ (by omega)]
      have := runS (ρ := List api_Span × Int) (fun i : Nat => (gotL c s.Lo, gotL c s.Hi, spanL c s i, (i : Int))) c.States.toNat (fun s14 => ref09_Shares_b14 N s14.1 s14.2.1 s14.2.2.1 s14.2.2.2) (fun i hi => by
        show ref09_Shares_b14 N (gotL c s.Lo) (gotL c s.Hi) (spanL c s i) (i : Int) = _
        unfold ref09_Shares_b14
        rw [gotL_len, lt_dec hi, cond_true, gotL_get hi, gotL_get hi, Option.bind_some, Option.bind_some, ← spanL_succ, room_ok (by rw [spanL_len]; omega), Option.bind_some, W_succ (by omega)]) (by
        show ref09_Shares_b14 N (gotL c s.Lo) (gotL c s.Hi) (spanL c s c.States.toNat) (c.States.toNat : Int) = _
        unfold ref09_Shares_b14
        rw [gotL_len, ge_dec, cond_false]) (N := N) (by omega)
      show Option.bind (loopO _ N (gotL c s.Lo, gotL c s.Hi, spanL c s 0, ((0 : Nat) : Int))) _ = _
      rw [this]
      rfl
  · have : (chk c != 0) = true := bne_iff_ne.2 h
    rw [if_neg h, this]
    rfl

def shortG (c : share_Compact) (flow : Int) (i : Nat) : Option Int := cond (decide (takeR c flow i < (c.Rights.getD i r0).Amount)) (some (i : Int)) none
def shortF (c : share_Compact) (flow : Int) : Int × Int := if chk c = 0 then (if okF flow then ((firstG (shortG c flow) 0 c.Rights.length).getD (-1), 0) else (0, 4)) else (0, chk c)
theorem short_prog {N : Nat} (hN : 60 ≤ N) {c : share_Compact} {flow : Int} : share_Short N c flow = some (shortF c flow) := by
  unfold share_Short shortF
  rw [check_prog hN, Option.bind_some]
  by_cases h : chk c = 0
  · rw [if_pos h, h]
    show cond (!(share_water flow)) _ _ = _
    have e : share_water flow = okF flow := rfl
    rw [e]
    cases hf : okF flow with
    | false => rfl
    | true =>
      unfold okF at hf
      simp only [Bool.and_eq_true, decide_eq_true_eq] at hf
      have hc := chk_ok h
      have hl := hc.l
      unfold share_office_taken share_office_taken_1_s2
      have e0 : leftR c flow 0 = flow := by unfold leftR olderR; omega
      let g : Nat → Option (Rs (Int × Int) × Int) := fun i => (shortG c flow i).map fun k => ((Rs.ret (k, k) : Rs (Int × Int)), leftR c flow (i + 1))
      have := scanS (ρ := Rs (Int × Int) × Int) (fun i : Nat => ((i : Int), leftR c flow i, (Rs.go ((0 : Int), (i : Int)) : Rs (Int × Int)))) g c.Rights.length
        (fun s3 => share_office_taken_1_s2_b3 N (⟨c, fun _ => 0⟩ : share_office) (rY (fun (zz : Int × Int) (x : share_Right × Int) => share_Short_r12 N zz.1 zz.2 x.1 x.2)) s3.1 s3.2.1 s3.2.2) (fun i hi => by
        show share_office_taken_1_s2_b3 N (⟨c, fun _ => 0⟩ : share_office) _ (i : Int) (leftR c flow i) (Rs.go ((0 : Int), (i : Int))) = _
        unfold share_office_taken_1_s2_b3
        show cond (decide ((i : Int) < (c.Rights.length : Int))) (Option.bind (getI c.Rights i) _) _ = _
        rw [lt_dec hi, cond_true, getI_nat hi, Option.bind_some, get_getD (d := r0) hi]
        show Option.bind (Option.map _ (share_Short_r12 N 0 (i : Int) (c.Rights.getD i r0) (takeR c flow i))) (fun ry : Rs (Int × Int) × Bool => cond (!ry.2) (some (Step.ret (ry.1, W (leftR c flow i - takeR c flow i)))) (some (Step.cont (W ((i : Int) + 1), W (leftR c flow i - takeR c flow i), ry.1)))) = _
        rw [W_succ (by omega), ← leftR_succ hc hi, W_id (n := leftR c flow (i + 1)) (by unfold leftR; omega) (by unfold leftR; have := older_bd hc (i + 1) (by omega); omega)]
        unfold share_Short_r12
        have hgi : g i = (shortG c flow i).map fun k => ((Rs.ret (k, k) : Rs (Int × Int)), leftR c flow (i + 1)) := rfl
        rw [hgi]
        unfold shortG
        rw [W_succ (by omega)]
        cases decide (takeR c flow i < (c.Rights.getD i r0).Amount) <;> rfl) (by
        show share_office_taken_1_s2_b3 N (⟨c, fun _ => 0⟩ : share_office) _ (c.Rights.length : Int) _ _ = _
        unfold share_office_taken_1_s2_b3
        show cond (decide ((c.Rights.length : Int) < (c.Rights.length : Int))) _ _ = _
        rw [ge_dec, cond_false]) c.Rights.length 0 N (by omega) (by omega)
      rw [Bool.not_true, cond_false, Option.bind_some]
      rw [show leftR c flow 0 = flow from e0] at this
      show Option.bind (Option.bind (loopO _ N (((0 : Nat) : Int), flow, (Rs.go ((0 : Int), ((0 : Nat) : Int)) : Rs (Int × Int)))) _) _ = _
      rw [this]
      have hg : ∀ m i, firstG g i m = none ∧ firstG (shortG c flow) i m = none ∨ ∃ k q, firstG g i m = some (Rs.ret (k, k), q) ∧ firstG (shortG c flow) i m = some k := by
        intro m
        induction m with
        | zero => intro i; exact .inl ⟨rfl, rfl⟩
        | succ m ih =>
          intro i
          unfold firstG
          have hgi : g i = (shortG c flow i).map fun k => ((Rs.ret (k, k) : Rs (Int × Int)), leftR c flow (i + 1)) := rfl
          rw [hgi]
          cases shortG c flow i with
          | none => exact ih (i + 1)
          | some k => exact .inr ⟨k, _, rfl, rfl⟩
      rcases hg c.Rights.length 0 with ⟨a1, a2⟩ | ⟨k, q, a1, a2⟩
      · rw [a1, a2]; rfl
      · rw [a1, a2]; rfl
  · have : (chk c != 0) = true := bne_iff_ne.2 h
    rw [if_neg h, this]
    rfl
theorem short_ref {N : Nat} (hN : 60 ≤ N) {c : share_Compact} {flow : Int} : ref09_Short N (refC c) flow = some (shortF c flow) := by
  unfold ref09_Short shortF
  rw [real_ref hN, Option.bind_some]
  unfold realF
  by_cases h : chk c = 0
  · rw [if_pos h, if_pos h]
    cases hf : okF flow with
    | false => rfl
    | true =>
      unfold okF at hf
      simp only [Bool.and_eq_true, decide_eq_true_eq] at hf
      have hc := chk_ok h
      have hl := hc.l
      let g : Nat → Option (Int × Int) := fun i => (shortG c flow i).map fun k => (k, 0)
      have := scanS (ρ := Int × Int) (fun i : Nat => (i : Int)) g c.Rights.length (fun s8 => ref09_Short_b8 N (refC c) flow s8) (fun i hi => by
        show ref09_Short_b8 N (refC c) flow (i : Int) = _
        unfold ref09_Short_b8
        rw [refC_len, lt_dec hi, cond_true, takes_ref hN hc hf hi, Option.bind_some, refC_get hi, Option.bind_some, W_succ (by omega)]
        have hgi : g i = (shortG c flow i).map fun k => (k, (0 : Int)) := rfl
        rw [hgi]
        show cond (decide (takeR c flow i < (c.Rights.getD i r0).Amount)) _ _ = _
        unfold shortG
        cases decide (takeR c flow i < (c.Rights.getD i r0).Amount) <;> rfl) (by
        show ref09_Short_b8 N (refC c) flow (c.Rights.length : Int) = _
        unfold ref09_Short_b8
        rw [refC_len, ge_dec, cond_false]) c.Rights.length 0 N (by omega) (by omega)
      have hg : ∀ m i, firstG g i m = (firstG (shortG c flow) i m).map fun k => (k, 0) := by
        intro m
        induction m with
        | zero => intro i; rfl
        | succ m ih =>
          intro i
          unfold firstG
          have hgi : g i = (shortG c flow i).map fun k => (k, (0 : Int)) := rfl
          rw [hgi]
          cases shortG c flow i with
          | none => exact ih (i + 1)
          | some k => rfl
      show Option.bind (loopO _ N ((0 : Nat) : Int)) _ = _
      rw [this, hg]
      cases firstG (shortG c flow) 0 c.Rights.length <;> rfl
  · have : (chk c != 0) = true := bne_iff_ne.2 h
    rw [if_neg h, if_neg h]
    show cond (chk c != 0) _ _ = _
    rw [this]
    rfl

theorem awake_true : law09_awake 60 = some true := by decide +kernel
theorem realF_len (c : share_Compact) (flow : Int) : (realF c flow).1.length ≤ 12 := by
  unfold realF
  split
  · rename_i h
    split
    · have := (chk_ok h).s
      show (gotL c flow).length ≤ 12
      rw [gotL_len]; omega
    · simp
  · simp
theorem sharesF_len (c : share_Compact) (s : api_Span) : (sharesF c s).1.length ≤ 12 := by
  unfold sharesF
  split
  · rename_i h
    split
    · have := (chk_ok h).s
      show (spanL c s c.States.toNat).length ≤ 12
      rw [spanL_len]; omega
    · simp
  · simp
theorem rights_true (c : share_Compact) (flow : Int) (s : api_Span) : law09_ShareRights 60 c flow s = some true := by
  unfold law09_ShareRights
  by_cases hl : 35 < c.Rights.length
  · have : decide (35 < ((c.Rights.length : Nat) : Int)) = true := by rw [decide_eq_true_eq]; omega
    rw [this, cond_true, awake_true]
    rfl
  · have : decide (35 < ((c.Rights.length : Nat) : Int)) = false := by rw [decide_eq_false_iff_not]; omega
    have hcopy : law09_CopyCompact 60 c = some c := by
      unfold law09_CopyCompact kit_Copy_share_Right
      rw [room_ok (by omega)]
      rfl
    rw [this, cond_false, hcopy, Option.bind_some, check_prog (by omega), Option.bind_some, compact_spec (by omega) (by omega), Option.bind_some, check_ref (by omega), Option.bind_some, bne_self_eq_false, cond_false,
      real_prog (by omega), Option.bind_some, Option.bind_some, real_ref (by omega), Option.bind_some, same_int (by have := realF_len c flow; omega) (by have := realF_len c flow; omega), Option.bind_some, bne_self_eq_false, Bool.not_true, Bool.or_false, cond_false,
      shares_prog (by omega), Option.bind_some, Option.bind_some, shares_ref (by omega), Option.bind_some, same_span (by have := sharesF_len c s; omega) (by have := sharesF_len c s; omega), Option.bind_some, bne_self_eq_false, Bool.not_true, Bool.or_false, cond_false,
      short_prog (by omega), Option.bind_some, Option.bind_some, short_ref (by omega), Option.bind_some, beq_self_eq_true, beq_self_eq_true, beq_self_eq_true, same_right (by omega) (by omega), awake_true]
    rfl
end Go.Nilo
