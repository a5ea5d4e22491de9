/-
  What the plain functions compute, in plain arithmetic, part 8. Conditions: what each theorem names.
-/
import Derived.Test.YtlbmcojegiabpaaDeL7
set_option linter.unusedSimpArgs false
set_option linter.unusedVariables false
namespace Go.Nilo
/-! ### The debts of all truths -/
def loT (l : List share_Year) (i : Nat) : share_Truth := ⟨(yA l i).Index.Lo, (yA l i).Delivered.Hi⟩
def hiT (l : List share_Year) (i : Nat) : share_Truth := ⟨(yA l i).Index.Hi, (yA l i).Delivered.Lo⟩
def outS (b : share_Border) (l : List share_Year) (s : api_Span) (n : Nat) : List api_Span := (List.range n).map fun k => (⟨debtS b (spA l) (loT l) s.Lo (k + 1), debtS b (spA l) (hiT l) s.Hi (k + 1)⟩ : api_Span)
theorem outS_succ (b : share_Border) (l : List share_Year) (s : api_Span) (n : Nat) : outS b l s (n + 1) = outS b l s n ++ [(⟨debtS b (spA l) (loT l) s.Lo (n + 1), debtS b (spA l) (hiT l) s.Hi (n + 1)⟩ : api_Span)] := by
  unfold outS
  rw [List.range_succ, List.map_append]
  rfl
theorem outS_len (b : share_Border) (l : List share_Year) (s : api_Span) (n : Nat) : (outS b l s n).length = n := by simp [outS]
def debtsF (b : share_Border) (s : api_Span) (l : List share_Year) : List api_Span × Int := if chkY b s l = 0 then (outS b l s l.length, 0) else ([], chkY b s l)
theorem lo_ok {b : share_Border} {s : api_Span} {l : List share_Year} (hy : YsOk b s l) {i : Nat} (hi : i < l.length) : TOk (loT l i) := by
  have := hy.y i hi
  exact ⟨⟨this.1.1, by show (l.getD i y0).Index.Lo ≤ _; omega⟩, ⟨by show 0 ≤ (l.getD i y0).Delivered.Hi; omega, this.2.2.2⟩⟩
theorem hi_ok {b : share_Border} {s : api_Span} {l : List share_Year} (hy : YsOk b s l) {i : Nat} (hi : i < l.length) : TOk (hiT l i) := by
  have := hy.y i hi
  exact ⟨⟨by show 0 ≤ (l.getD i y0).Index.Hi; omega, this.1.2.2⟩, ⟨this.2.1, by show (l.getD i y0).Delivered.Lo ≤ _; omega⟩⟩
theorem debts_prog {N : Nat} (hN : 60 ≤ N) {b : share_Border} {s : api_Span} {l : List share_Year} (hb : b.Table.length ≤ 15) (hl : l.length ≤ 45) : share_Debts N b s l = some (debtsF b s l) := by
  unfold share_Debts debtsF
  rw [asked_prog hN hb hl, Option.bind_some]
  by_cases h : chkY b s l = 0
  · rw [if_pos h, h]
    have hy := chkY_ok h
    have hs1 : -1000000000 ≤ s.Lo ∧ s.Lo ≤ 1000000000 := ⟨hy.s.1, by have := hy.s; omega⟩
    have hs2 : -1000000000 ≤ s.Hi ∧ s.Hi ≤ 1000000000 := ⟨by have := hy.s; omega, hy.s.2.2⟩
    have hn := hy.n
    have := runS (ρ := List api_Span × Int) (fun i : Nat => (outS b l s i, (i : Int), debtS b (spA l) (loT l) s.Lo i, debtS b (spA l) (hiT l) s.Hi i, mpS b (hiT l) i, mpS b (loT l) i)) l.length (fun s11 => share_Debts_b11 N b l ((fun _ => none), b.Credit, s.Lo) ((fun _ => none), b.Credit, s.Hi) s11.1 s11.2.1 s11.2.2.1 s11.2.2.2.1 s11.2.2.2.2.1 s11.2.2.2.2.2) (fun i hi => by
      have f1 := debtS_far hy.b (sp := spA l) (ts := loT l) hs1 (n := i) (by omega) (fun j hj => lo_ok hy (by omega))
      have f2 := debtS_far hy.b (sp := spA l) (ts := hiT l) hs2 (n := i) (by omega) (fun j hj => hi_ok hy (by omega))
      show share_Debts_b11 N b l ((fun _ => none), b.Credit, s.Lo) ((fun _ => none), b.Credit, s.Hi) (outS b l s i) (i : Int) (debtS b (spA l) (loT l) s.Lo i) (debtS b (spA l) (hiT l) s.Hi i) (mpS b (hiT l) i) (mpS b (loT l) i) = _
      unfold share_Debts_b11
      rw [lt_dec hi, cond_true, getI_nat hi, Option.bind_some, get_getD (d := y0) hi, W_succ (by omega)]
      show Option.bind (share_Border_goes_1 N (loT l i) (spA l i) (mpS b (loT l) i) b (debtS b (spA l) (loT l) s.Lo i)) (fun r_5 => Option.bind (share_Border_goes_1 N (hiT l i) (spA l i) (mpS b (hiT l) i) b (debtS b (spA l) (hiT l) s.Hi i)) _) = _
      rw [goes_spec hN hy.b (lo_ok hy hi) (mpS_ok b (loT l) i) f1, Option.bind_some, goes_spec hN hy.b (hi_ok hy hi) (mpS_ok b (hiT l) i) f2, Option.bind_some]
      show Option.bind (room (outS b l s i ++ [(⟨debtS b (spA l) (loT l) s.Lo (i + 1), debtS b (spA l) (hiT l) s.Hi (i + 1)⟩ : api_Span)]).length) _ = _
      rw [← outS_succ, room_ok (by rw [outS_len]; omega), Option.bind_some]
      show some (Step.cont (outS b l s i ++ [(⟨debtS b (spA l) (loT l) s.Lo (i + 1), debtS b (spA l) (hiT l) s.Hi (i + 1)⟩ : api_Span)], _, _, _, _, _)) = _
      rw [← outS_succ]
      rfl) (by
      show share_Debts_b11 N b l _ _ _ (l.length : Int) _ _ _ _ = _
      unfold share_Debts_b11
      rw [ge_dec, cond_false]) (N := N) (by omega)
    show Option.bind (loopO _ N (outS b l s 0, ((0 : Nat) : Int), debtS b (spA l) (loT l) s.Lo 0, debtS b (spA l) (hiT l) s.Hi 0, mpS b (hiT l) 0, mpS b (loT l) 0)) _ = _
    rw [this]
    rfl
  · have : (chkY b s l != 0) = true := bne_iff_ne.2 h
    rw [if_neg h, this, cond_true]
theorem debts_ref {N : Nat} (hN : 60 ≤ N) {b : share_Border} {s : api_Span} {l : List share_Year} (hb : b.Table.length ≤ 15) (hl : l.length ≤ 45) : ref09_Debts N (refB b) s (l.map refY) = some (debtsF b s l) := by
  unfold ref09_Debts debtsF
  rw [years_ref hN hb hl, Option.bind_some]
  by_cases h : chkY b s l = 0
  · rw [if_pos h, h]
    have hy := chkY_ok h
    have hs1 : -1000000000 ≤ s.Lo ∧ s.Lo ≤ 1000000000 := ⟨hy.s.1, by have := hy.s; omega⟩
    have hs2 : -1000000000 ≤ s.Hi ∧ s.Hi ≤ 1000000000 := ⟨by have := hy.s; omega, hy.s.2.2⟩
    have hn := hy.n
    have := runS (ρ := List api_Span × Int) (fun i : Nat => (outS b l s i, (i : Int), debtS b (spA l) (loT l) s.Lo i, debtS b (spA l) (hiT l) s.Hi i)) l.length (fun s10 => ref09_Debts_b10 N (refB b) (l.map refY) s10.1 s10.2.1 s10.2.2.1 s10.2.2.2) (fun i hi => by
      have f1 := debtS_far hy.b (sp := spA l) (ts := loT l) hs1 (n := i) (by omega) (fun j hj => lo_ok hy (by omega))
      have f2 := debtS_far hy.b (sp := spA l) (ts := hiT l) hs2 (n := i) (by omega) (fun j hj => hi_ok hy (by omega))
      show ref09_Debts_b10 N (refB b) (l.map refY) (outS b l s i) (i : Int) (debtS b (spA l) (loT l) s.Lo i) (debtS b (spA l) (hiT l) s.Hi i) = _
      unfold ref09_Debts_b10
      rw [List.length_map, lt_dec hi, cond_true, refY_get hi, Option.bind_some, W_succ (by omega)]
      show Option.bind (ref09_behind N (refB b) (debtS b (spA l) (loT l) s.Lo i) (loT l i).Index (loT l i).Delivered (spA l i)) (fun r_1 => Option.bind (ref09_behind N (refB b) (debtS b (spA l) (hiT l) s.Hi i) (hiT l i).Index (hiT l i).Delivered (spA l i)) _) = _
      rw [behind_spec hN hy.b (lo_ok hy hi) f1, Option.bind_some, behind_spec hN hy.b (hi_ok hy hi) f2, Option.bind_some]
      show Option.bind (room (outS b l s i ++ [(⟨debtS b (spA l) (loT l) s.Lo (i + 1), debtS b (spA l) (hiT l) s.Hi (i + 1)⟩ : api_Span)]).length) _ = _
      rw [← outS_succ, room_ok (by rw [outS_len]; omega), Option.bind_some]
      show some (Step.cont (outS b l s i ++ [(⟨debtS b (spA l) (loT l) s.Lo (i + 1), debtS b (spA l) (hiT l) s.Hi (i + 1)⟩ : api_Span)], _, _, _)) = _
      rw [← outS_succ]
      rfl) (by
      show ref09_Debts_b10 N (refB b) (l.map refY) _ (l.length : Int) _ _ = _
      unfold ref09_Debts_b10
      rw [List.length_map, ge_dec, cond_false]) (N := N) (by omega)
    show Option.bind (loopO _ N (outS b l s 0, ((0 : Nat) : Int), debtS b (spA l) (loT l) s.Lo 0, debtS b (spA l) (hiT l) s.Hi 0)) _ = _
    rw [this]
    rfl
  · have : (chkY b s l != 0) = true := bne_iff_ne.2 h
    rw [if_neg h, this, cond_true]

def dueV (b : share_Border) (t : Int) : Int × Int := if chkB b = 0 then (if okW t then (dueF b.Table t, 0) else (0, 4)) else (0, chkB b)
theorem due_prog {N : Nat} (hN : 60 ≤ N) {b : share_Border} {t : Int} (hb : b.Table.length ≤ 15) : share_Due N b t = some (dueV b t) := by
  unfold share_Due dueV
  rw [cb_prog hN hb, Option.bind_some]
  by_cases h : chkB b = 0
  · rw [if_pos h, h]
    show cond (!(share_water t)) _ _ = _
    have e : share_water t = okW t := rfl
    rw [e]
    cases hf : okW t with
    | false => rfl
    | true =>
      unfold okW at hf
      simp only [Bool.and_eq_true, decide_eq_true_eq] at hf
      rw [due_spec hN (chkB_ok h) hf]
      rfl
  · have : (chkB b != 0) = true := bne_iff_ne.2 h
    rw [if_neg h, this, cond_true]
theorem duer_ref {N : Nat} (hN : 60 ≤ N) {b : share_Border} {t : Int} (hb : b.Table.length ≤ 15) : ref09_Due N (refB b) t = some (dueV b t) := by
  unfold ref09_Due dueV
  rw [cb_ref hN hb, Option.bind_some]
  by_cases h : chkB b = 0
  · rw [if_pos h, h]
    show cond (ref09_outside t 0 1000000000) _ _ = _
    have e : ref09_outside t 0 1000000000 = !okW t := by
      unfold ref09_outside okW
      rw [Bool.eq_iff_iff]
      simp only [Bool.or_eq_true, Bool.not_eq_true', decide_eq_true_eq, Bool.and_eq_false_iff, decide_eq_false_iff_not]
      omega
    rw [e]
    cases hf : okW t with
    | false => rfl
    | true =>
      unfold okW at hf
      simp only [Bool.and_eq_true, decide_eq_true_eq] at hf
      rw [due_ref hN (chkB_ok h) hf]
      rfl
  · have : (chkB b != 0) = true := bne_iff_ne.2 h
    rw [if_neg h, this, cond_true]

theorem awake_true : law09_awake 60 = some true := by decide +kernel
theorem owedF_len (b : share_Border) (start : Int) (l : List share_Year) (ts : List share_Truth) (hl : l.length ≤ 45) : (owedF b start l ts).1.length ≤ 45 := by
  unfold owedF
  split
  · split
    · cases hf : firstG (badT l ts) 0 l.length with
      | none =>
        show (outL b l (tA ts) start l.length).length ≤ 45
        rw [outL_len]; exact hl
      | some r =>
        have : ∀ n i r, firstG (badT l ts) i n = some r → r = ([], 7) := by
          intro n
          induction n with
          | zero => intro i r h; cases h
          | succ n ih =>
            intro i r h
            unfold firstG at h
            cases hb : badT l ts i with
            | none => rw [hb] at h; exact ih _ _ h
            | some q =>
              rw [hb] at h
              obtain rfl := Option.some.inj h
              unfold badT at hb
              cases hg : goodT l ts i with
              | true => rw [hg] at hb; cases hb
              | false => rw [hg] at hb; exact (Option.some.inj hb).symm
        rw [this _ _ _ hf]
        simp
    · simp
  · simp
theorem debtsF_len (b : share_Border) (s : api_Span) (l : List share_Year) (hl : l.length ≤ 45) : (debtsF b s l).1.length ≤ 45 := by
  unfold debtsF
  split
  · show (outS b l s l.length).length ≤ 45
    rw [outS_len]; exact hl
  · simp
theorem debts_true (b : share_Border) (index : Int) (s : api_Span) (l : List share_Year) (ts : List share_Truth) : law09_ShareDebts 60 b index s l ts = some true := by
  unfold law09_ShareDebts
  by_cases hl : 15 < b.Table.length ∨ 45 < l.length ∨ 50 < ts.length
  · have : (((decide (15 < ((b.Table.length : Nat) : Int))) || (decide (45 < ((l.length : Nat) : Int)))) || (decide (50 < ((ts.length : Nat) : Int)))) = true := by
      simp only [Bool.or_eq_true, decide_eq_true_eq]
      omega
    rw [this, cond_true, awake_true]
    rfl
  · have : (((decide (15 < ((b.Table.length : Nat) : Int))) || (decide (45 < ((l.length : Nat) : Int)))) || (decide (50 < ((ts.length : Nat) : Int)))) = false := by
      simp only [Bool.or_eq_false_iff, decide_eq_false_iff_not]
      omega
    have h1 : law09_CopyBorder 60 b = some b := by
      unfold law09_CopyBorder kit_Copy_share_Point
      rw [room_ok (by omega)]
      rfl
    have h2 : kit_Copy_share_Year 60 l = some l := by
      unfold kit_Copy_share_Year
      rw [room_ok (by omega)]
      rfl
    have h3 : kit_Copy_share_Truth 60 ts = some ts := by
      unfold kit_Copy_share_Truth
      rw [room_ok (by omega)]
      rfl
    have l1 := owedF_len b s.Lo l ts (by omega)
    have l2 := debtsF_len b s l (by omega)
    rw [this, cond_false, h1, Option.bind_some, h2, Option.bind_some, h3, Option.bind_some, years_conv (by omega) (by omega) (by omega), Option.bind_some, cb_prog (by omega) (by omega), Option.bind_some, border_conv (by omega) (by omega), Option.bind_some, cb_ref (by omega) (by omega), Option.bind_some, bne_self_eq_false, cond_false,
      due_prog (by omega) (by omega), Option.bind_some, Option.bind_some, duer_ref (by omega) (by omega), Option.bind_some, bne_self_eq_false, bne_self_eq_false, Bool.or_false, cond_false,
      owed_prog (by omega) (by omega) (by omega), Option.bind_some, Option.bind_some, owed_ref (by omega) (by omega) (by omega), Option.bind_some, same_int (by omega) (by omega), Option.bind_some, bne_self_eq_false, Bool.not_true, Bool.or_false, cond_false,
      debts_prog (by omega) (by omega) (by omega), Option.bind_some, Option.bind_some, debts_ref (by omega) (by omega) (by omega), Option.bind_some, same_span (by omega) (by omega), Option.bind_some, beq_self_eq_true, beq_self_eq_true, same_point (by omega) (by omega), same_year (by omega) (by omega), same_truth (by omega) (by omega), awake_true]
    rfl
end Go.Nilo
