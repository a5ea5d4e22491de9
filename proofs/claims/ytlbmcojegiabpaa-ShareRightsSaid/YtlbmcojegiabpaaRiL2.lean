/-
  What the plain functions compute, in plain arithmetic, part 2. Conditions: what each theorem names.
-/
import Derived.Test.YtlbmcojegiabpaaRiL1
set_option linter.unusedSimpArgs false
set_option linter.unusedVariables false
namespace Go.Nilo
/-! ### Loops over all indices, from closed forms -/
/-- A loop that returns at the first element for which something is so. -/
theorem scanLoop {α ρ : Type} (f : α → Option ρ) (l : List α) (hl : l.length ≤ 1000000) (b : Int → Option (Step Int ρ))
    (hb : ∀ (i : Nat) (h : i < l.length), b (i : Int) = some (match f l[i] with | some r => .ret r | none => .cont (((i + 1 : Nat) : Int)))) (hend : b (l.length : Int) = some (.brk (l.length : Int))) :
    ∀ (m i N : Nat), i + m = l.length → m < N → loopO b N (i : Int) = some (match (l.drop i).findSome? f with | some r => .out r | none => .go (l.length : Int))
  | m, i, 0, _, h => by omega
  | 0, i, N + 1, hi, _ => by
    obtain rfl : i = l.length := by omega
    unfold loopO
    rw [hend, List.drop_eq_nil_of_le (Nat.le_refl _)]
    rfl
  | m + 1, i, N + 1, hi, hN => by
    have hil : i < l.length := by omega
    unfold loopO
    rw [hb i hil, List.drop_eq_getElem_cons hil, List.findSome?_cons]
    cases hf : f l[i] with
    | some r => rfl
    | none => exact scanLoop f l hl b hb hend m (i + 1) N (by omega) (by omega)
theorem lt_dec {i n : Nat} (h : i < n) : decide ((i : Int) < (n : Int)) = true := by simp; omega
theorem ge_dec {n : Nat} : decide ((n : Int) < (n : Int)) = false := by simp

/-- Lists that are the same. -/
theorem sameLoop {α : Type} (l : List α) (hl : l.length ≤ 1000000) (b : Int → Option (Step Int Bool)) (hb : ∀ (i : Nat) (_ : i < l.length), b (i : Int) = some (.cont (((i + 1 : Nat) : Int)))) (hend : b (l.length : Int) = some (.brk (l.length : Int))) {N : Nat} (hN : l.length < N) :
    loopO b N 0 = some (.go (l.length : Int)) := by
  have := scanLoop (fun _ => (none : Option Bool)) l hl b (fun i h => hb i h) hend l.length 0 N (by omega) hN
  rw [show ((0 : Nat) : Int) = 0 from rfl] at this
  rw [this, List.findSome?_eq_none_iff.2 (fun _ _ => rfl)]
theorem same_int {N : Nat} {l : List Int} (hl : l.length ≤ 1000000) (hN : l.length < N) : kit_Same_int N l l = some true := by
  have hb : ∀ (i : Nat) (h : i < l.length), kit_Same_int_b7 N l l (i : Int) = some (.cont (((i + 1 : Nat) : Int))) := by
    intro i h
    unfold kit_Same_int_b7
    rw [lt_dec h, cond_true, getI_nat h, Option.bind_some, Option.bind_some, bne_self_eq_false, cond_false, W_succ (by omega)]
  have he : kit_Same_int_b7 N l l (l.length : Int) = some (.brk (l.length : Int)) := by
    unfold kit_Same_int_b7
    rw [ge_dec, cond_false]
  unfold kit_Same_int
  have h0 : ((((l.length : Nat) : Int)) != ((l.length : Nat) : Int)) = false := by simp
  rw [h0, cond_false, sameLoop l hl (fun s7 => kit_Same_int_b7 N l l s7) hb he hN]
  rfl
theorem same_span {N : Nat} {l : List api_Span} (hl : l.length ≤ 1000000) (hN : l.length < N) : kit_Same_api_Span N l l = some true := by
  have hb : ∀ (i : Nat) (h : i < l.length), kit_Same_api_Span_b7 N l l (i : Int) = some (.cont (((i + 1 : Nat) : Int))) := by
    intro i h
    unfold kit_Same_api_Span_b7
    rw [lt_dec h, cond_true, getI_nat h, Option.bind_some, Option.bind_some, beq_self_eq_true, beq_self_eq_true, W_succ (by omega)]
    rfl
  have he : kit_Same_api_Span_b7 N l l (l.length : Int) = some (.brk (l.length : Int)) := by
    unfold kit_Same_api_Span_b7
    rw [ge_dec, cond_false]
  unfold kit_Same_api_Span
  have h0 : ((((l.length : Nat) : Int)) != ((l.length : Nat) : Int)) = false := by simp
  rw [h0, cond_false, sameLoop l hl (fun s7 => kit_Same_api_Span_b7 N l l s7) hb he hN]
  rfl
theorem same_right {N : Nat} {l : List share_Right} (hl : l.length ≤ 1000000) (hN : l.length < N) : kit_Same_share_Right N l l = some true := by
  have hb : ∀ (i : Nat) (h : i < l.length), kit_Same_share_Right_b7 N l l (i : Int) = some (.cont (((i + 1 : Nat) : Int))) := by
    intro i h
    unfold kit_Same_share_Right_b7
    rw [lt_dec h, cond_true, getI_nat h, Option.bind_some, Option.bind_some, beq_self_eq_true, beq_self_eq_true, beq_self_eq_true, W_succ (by omega)]
    rfl
  have he : kit_Same_share_Right_b7 N l l (l.length : Int) = some (.brk (l.length : Int)) := by
    unfold kit_Same_share_Right_b7
    rw [ge_dec, cond_false]
  unfold kit_Same_share_Right
  have h0 : ((((l.length : Nat) : Int)) != ((l.length : Nat) : Int)) = false := by simp
  rw [h0, cond_false, sameLoop l hl (fun s7 => kit_Same_share_Right_b7 N l l s7) hb he hN]
  rfl
/-! ### Both compacts -/
def refR (r : share_Right) : ref09_Right := ⟨r.State, r.Amount, r.Loss⟩
def refC (c : share_Compact) : ref09_Compact := ⟨c.States, c.Rights.map refR⟩
theorem compact_spec {N : Nat} {c : share_Compact} (hl : c.Rights.length ≤ 35) (hN : 60 ≤ N) : law09_Compact N c = some (refC c) := by
  unfold law09_Compact
  obtain ⟨s', h1, h2⟩ := loopInv (fun s5 : Int × List ref09_Right => law09_Compact_b5 N c s5.1 s5.2) (fun i s => s = ((i : Int), (c.Rights.take i).map refR) ∨ False) c.Rights.length
    (fun i s hi hs => by
      obtain rfl := hs.resolve_right id
      refine ⟨(((i + 1 : Nat) : Int), (c.Rights.take (i + 1)).map refR), ?_, .inl rfl⟩
      show law09_Compact_b5 N c (i : Int) ((c.Rights.take i).map refR) = _
      unfold law09_Compact_b5
      rw [lt_dec hi, cond_true, getI_nat hi, Option.bind_some, room_ok (by simp; omega), Option.bind_some, W_succ (by omega), List.take_succ_eq_append_getElem hi, List.map_append]
      rfl)
    (fun s hs => by
      obtain rfl := hs.resolve_right id
      show law09_Compact_b5 N c (c.Rights.length : Int) _ = _
      unfold law09_Compact_b5
      rw [ge_dec, cond_false]) c.Rights.length 0 (0, []) N (by omega) (by omega) (.inl rfl)
  obtain rfl := h2.resolve_right id
  rw [h1]
  simp [exK, refC]

/-! ### Which compacts are right -/
def okR (s : Int) (r : share_Right) : Bool := decide (0 ≤ r.State) && decide (r.State ≤ s - 1) && decide (0 ≤ r.Amount) && decide (r.Amount ≤ 1000000000) && decide (0 ≤ r.Loss) && decide (r.Loss ≤ 1000)
def chk (c : share_Compact) : Int := if 1 ≤ c.States ∧ c.States ≤ 12 ∧ 1 ≤ c.Rights.length ∧ c.Rights.length ≤ 30 then (if c.Rights.all (okR c.States) then 0 else 100) else 3
theorem check_prog {N : Nat} {c : share_Compact} (hN : 60 ≤ N) : share_Check N c = some (chk c) := by
  unfold share_Check chk
  by_cases h : 1 ≤ c.States ∧ c.States ≤ 12 ∧ 1 ≤ c.Rights.length ∧ c.Rights.length ≤ 30
  · obtain ⟨h1, h2, h3, h4⟩ := h
    have e : ((!share_in c.States 1 12) || (!share_in (c.Rights.length : Int) 1 30)) = false := by
      unfold share_in
      simp only [Bool.or_eq_false_iff, Bool.not_eq_false', Bool.and_eq_true, decide_eq_true_eq]
      omega
    rw [if_pos ⟨h1, h2, h3, h4⟩]
    have hev : share_every_share_Right N c.Rights c = some (c.Rights.all (okR c.States)) := by
      have hf : ∀ r, share_every_share_Right_1 r c = !okR c.States r := by
        intro r
        unfold share_every_share_Right_1 share_Check_1 share_water share_in okR
        rw [W_id (by omega) (by omega)]
        congr 1
        simp only [Bool.and_assoc]
      unfold share_every_share_Right slices_ContainsFunc_Lshare_Right_share_Right slices_IndexFunc_Lshare_Right_share_Right
      have hany : c.Rights.any (fun e => share_every_share_Right_1 e c) = !c.Rights.all (okR c.States) := by
        rw [List.all_eq_not_any_not, Bool.not_not]
        congr 1
        exact funext hf
      rcases indexLoop (fun e => share_every_share_Right_1 e c) c.Rights (by omega) (fun s4 => slices_IndexFunc_Lshare_Right_share_Right_b4 N c.Rights c s4) (fun x => rfl) c.Rights.length 0 N (by omega) (by omega) with ⟨k, a1, a2, a3⟩ | ⟨a1, a2⟩
      · rw [List.drop_zero, hany] at a3
        rw [show ((0 : Nat) : Int) = 0 from rfl] at a1
        rw [a1]
        have : c.Rights.all (okR c.States) = false := by simpa using a3
        rw [this]
        simp [exK, a2]
      · rw [List.drop_zero, hany] at a2
        rw [show ((0 : Nat) : Int) = 0 from rfl] at a1
        rw [a1]
        have : c.Rights.all (okR c.States) = true := by simpa using a2
        rw [this]
        simp [exK]
    simp only [e, cond_false, hev, Option.bind_some]
    cases c.Rights.all (okR c.States) <;> rfl
  · have e : ((!share_in c.States 1 12) || (!share_in (c.Rights.length : Int) 1 30)) = true := by
      unfold share_in
      simp only [Bool.or_eq_true, Bool.not_eq_true', Bool.and_eq_false_iff, decide_eq_false_iff_not]
      omega
    rw [if_neg h]
    simp only [e, cond_true]
theorem check_ref {N : Nat} {c : share_Compact} (hN : 60 ≤ N) : ref09_Check N (refC c) = some (chk c) := by
  unfold ref09_Check chk
  have hlen : (refC c).Rights.length = c.Rights.length := by simp [refC]
  by_cases h : 1 ≤ c.States ∧ c.States ≤ 12 ∧ 1 ≤ c.Rights.length ∧ c.Rights.length ≤ 30
  · have e : (((ref09_outside (refC c).States 1 12) || (decide ((((refC c).Rights.length : Nat) : Int) < 1))) || (decide (30 < (((refC c).Rights.length : Nat) : Int)))) = false := by
      rw [hlen]
      unfold ref09_outside refC
      simp only [Bool.or_eq_false_iff, decide_eq_false_iff_not]
      omega
    rw [e, if_pos h, cond_false]
    have := scanLoop (fun r : ref09_Right => if (((ref09_outside r.State 0 (W (c.States - 1))) || (ref09_outside r.Amount 0 1000000000)) || (ref09_outside r.Loss 0 1000)) then some (100 : Int) else none) (refC c).Rights (by omega)
      (fun s7 => ref09_Check_b7 N (refC c) s7) (fun i hi => by
        show ref09_Check_b7 N (refC c) (i : Int) = _
        unfold ref09_Check_b7
        rw [lt_dec hi, cond_true, getI_nat hi, Option.bind_some, W_succ (by omega)]
        show cond (((ref09_outside (refC c).Rights[i].State 0 (W (c.States - 1))) || (ref09_outside (refC c).Rights[i].Amount 0 1000000000)) || (ref09_outside (refC c).Rights[i].Loss 0 1000)) _ _ = _
        cases (((ref09_outside (refC c).Rights[i].State 0 (W (c.States - 1))) || (ref09_outside (refC c).Rights[i].Amount 0 1000000000)) || (ref09_outside (refC c).Rights[i].Loss 0 1000)) <;> rfl)
      (by show ref09_Check_b7 N (refC c) ((refC c).Rights.length : Int) = _
          unfold ref09_Check_b7
          rw [ge_dec, cond_false]) (refC c).Rights.length 0 N (by omega) (by omega)
    rw [show ((0 : Nat) : Int) = 0 from rfl] at this
    rw [this, List.drop_zero]
    have hb : ∀ r : share_Right, (((ref09_outside r.State 0 (W (c.States - 1))) || (ref09_outside r.Amount 0 1000000000)) || (ref09_outside r.Loss 0 1000)) = !okR c.States r := by
      intro r
      unfold ref09_outside okR
      rw [W_id (by omega) (by omega), Bool.eq_iff_iff]
      simp only [Bool.or_eq_true, Bool.not_eq_true', decide_eq_true_eq, Bool.and_eq_false_iff, decide_eq_false_iff_not]
      omega
    cases hall : c.Rights.all (okR c.States) with
    | true =>
      rw [List.findSome?_eq_none_iff.2]
      · simp [exK]
      · intro r hr
        obtain ⟨q, hq, rfl⟩ := List.mem_map.1 hr
        have := List.all_eq_true.1 hall q hq
        show (if (((ref09_outside q.State 0 (W (c.States - 1))) || (ref09_outside q.Amount 0 1000000000)) || (ref09_outside q.Loss 0 1000)) then some (100 : Int) else none) = none
        rw [hb, this]
        rfl
    | false =>
      have hex : ∃ q ∈ c.Rights, okR c.States q = false := by
        have := List.all_eq_false.1 hall
        obtain ⟨q, hq, hh⟩ := this
        exact ⟨q, hq, by simpa using hh⟩
      obtain ⟨q, hq, hh⟩ := hex
      cases hfs : List.findSome? (fun r : ref09_Right => if (((ref09_outside r.State 0 (W (c.States - 1))) || (ref09_outside r.Amount 0 1000000000)) || (ref09_outside r.Loss 0 1000)) then some (100 : Int) else none) (refC c).Rights with
      | none =>
        have := List.findSome?_eq_none_iff.1 hfs (refR q) (List.mem_map_of_mem hq)
        have h2 : (if (((ref09_outside q.State 0 (W (c.States - 1))) || (ref09_outside q.Amount 0 1000000000)) || (ref09_outside q.Loss 0 1000)) then some (100 : Int) else none) = none := this
        rw [hb, hh] at h2
        cases h2
      | some v =>
        obtain ⟨r, -, hr⟩ := List.exists_of_findSome?_eq_some hfs
        split at hr
        · cases hr; rfl
        · cases hr
  · have e : (((ref09_outside (refC c).States 1 12) || (decide ((((refC c).Rights.length : Nat) : Int) < 1))) || (decide (30 < (((refC c).Rights.length : Nat) : Int)))) = true := by
      rw [hlen]
      unfold ref09_outside refC
      simp only [Bool.or_eq_true, decide_eq_true_eq]
      omega
    rw [e, if_neg h, cond_true]
end Go.Nilo
