/-
  What the plain functions compute, in plain arithmetic, part 7. Conditions: what each theorem names.
-/
import Derived.Test.YtlbmcojegiabpaaDeL6
set_option linter.unusedSimpArgs false
set_option linter.unusedVariables false
namespace Go.Nilo
/-! ### The debts of a truth -/
def yA (l : List share_Year) (i : Nat) : share_Year := l.getD i y0
def tA (ts : List share_Truth) (i : Nat) : share_Truth := ts.getD i t0
def spA (l : List share_Year) (i : Nat) : Bool := (yA l i).Spill
def inS (n : Int) (s : api_Span) : Bool := decide (s.Lo ≤ n) && decide (n ≤ s.Hi)
def goodT (l : List share_Year) (ts : List share_Truth) (i : Nat) : Bool := inS (tA ts i).Index (yA l i).Index && inS (tA ts i).Delivered (yA l i).Delivered
def badT (l : List share_Year) (ts : List share_Truth) (i : Nat) : Option (List Int × Int) := cond (goodT l ts i) none (some ([], 7))
def outL (b : share_Border) (l : List share_Year) (ts : Nat → share_Truth) (start : Int) (n : Nat) : List Int := (List.range n).map fun k => debtS b (spA l) ts start (k + 1)
theorem outL_succ (b : share_Border) (l : List share_Year) (ts : Nat → share_Truth) (start : Int) (n : Nat) : outL b l ts start (n + 1) = outL b l ts start n ++ [debtS b (spA l) ts start (n + 1)] := by
  unfold outL
  rw [List.range_succ, List.map_append]
  rfl
theorem outL_len (b : share_Border) (l : List share_Year) (ts : Nat → share_Truth) (start : Int) (n : Nat) : (outL b l ts start n).length = n := by simp [outL]
def owedF (b : share_Border) (start : Int) (l : List share_Year) (ts : List share_Truth) : List Int × Int :=
  if chkY b ⟨start, start⟩ l = 0 then (if ts.length = l.length then ((firstG (badT l ts) 0 l.length).getD (outL b l (tA ts) start l.length, 0)) else ([], 2)) else ([], chkY b ⟨start, start⟩ l)
theorem good_ok {b : share_Border} {s : api_Span} {l : List share_Year} (hy : YsOk b s l) {ts : List share_Truth} {i : Nat} (hi : i < l.length) (h : badT l ts i = none) : TOk (tA ts i) := by
  have := hy.y i hi
  unfold badT at h
  cases hg : goodT l ts i with
  | false => rw [hg] at h; cases h
  | true =>
    unfold goodT inS yA at hg
    simp only [Bool.and_eq_true, decide_eq_true_eq] at hg
    exact ⟨by omega, by omega⟩
theorem owed_prog {N : Nat} (hN : 60 ≤ N) {b : share_Border} {start : Int} {l : List share_Year} {ts : List share_Truth} (hb : b.Table.length ≤ 15) (hl : l.length ≤ 45) : share_Owed N b start l ts = some (owedF b start l ts) := by
  unfold share_Owed owedF
  rw [asked_prog hN hb hl, Option.bind_some]
  by_cases h : chkY b ⟨start, start⟩ l = 0
  · rw [if_pos h, h]
    show cond (((ts.length : Nat) : Int) != ((l.length : Nat) : Int)) _ _ = _
    have hy := chkY_ok h
    have hs : -1000000000 ≤ start ∧ start ≤ 1000000000 := ⟨hy.s.1, hy.s.2.2⟩
    have hn := hy.n
    by_cases he : ts.length = l.length
    · have hne : (((ts.length : Nat) : Int) != ((l.length : Nat) : Int)) = false := by rw [he]; simp
      rw [hne, cond_false, if_pos he]
      unfold share_Border_goes
      rw [Option.bind_some]
      have := scanS' (fun i : Nat => (outL b l (tA ts) start i, (i : Int), debtS b (spA l) (tA ts) start i, mpS b (tA ts) i)) (badT l ts) l.length (fun s12 => share_Owed_b12 N b l ts ((fun _ => none), b.Credit, start) s12.1 s12.2.1 s12.2.2.1 s12.2.2.2) (fun i hi hno => by
        show share_Owed_b12 N b l ts ((fun _ => none), b.Credit, start) (outL b l (tA ts) start i) (i : Int) (debtS b (spA l) (tA ts) start i) (mpS b (tA ts) i) = _
        unfold share_Owed_b12
        rw [lt_dec hi, cond_true, getI_nat hi, Option.bind_some, getI_nat (show i < ts.length by omega), Option.bind_some, get_getD (d := y0) hi, get_getD (d := t0) (show i < ts.length by omega), W_succ (by omega)]
        cases hbt : badT l ts i with
        | some r =>
          unfold badT at hbt
          cases hg : goodT l ts i with
          | true => rw [hg] at hbt; cases hbt
          | false =>
            rw [hg] at hbt
            obtain rfl := Option.some.inj hbt
            have : ((!share_in (ts.getD i t0).Index (l.getD i y0).Index.Lo (l.getD i y0).Index.Hi) || (!share_in (ts.getD i t0).Delivered (l.getD i y0).Delivered.Lo (l.getD i y0).Delivered.Hi)) = true := by
              rw [← Bool.not_and]
              show (!goodT l ts i) = true
              rw [hg]; rfl
            rw [this]
            rfl
        | none =>
          have hto := good_ok hy hi hbt
          have hfar := debtS_far hy.b (sp := spA l) (ts := tA ts) hs (n := i) (by omega) (fun j hj => good_ok hy (by omega) (hno j hj))
          have hg : goodT l ts i = true := by
            unfold badT at hbt
            cases hg : goodT l ts i with
            | true => rfl
            | false => rw [hg] at hbt; cases hbt
          have : ((!share_in (ts.getD i t0).Index (l.getD i y0).Index.Lo (l.getD i y0).Index.Hi) || (!share_in (ts.getD i t0).Delivered (l.getD i y0).Delivered.Lo (l.getD i y0).Delivered.Hi)) = false := by
            rw [← Bool.not_and]
            show (!goodT l ts i) = false
            rw [hg]; rfl
          rw [this, cond_false]
          show Option.bind (share_Border_goes_1 N (tA ts i) (spA l i) (mpS b (tA ts) i) b (debtS b (spA l) (tA ts) start i)) _ = _
          rw [goes_spec hN hy.b hto (mpS_ok b (tA ts) i) hfar, Option.bind_some]
          show Option.bind (room (outL b l (tA ts) start i ++ [debtS b (spA l) (tA ts) start (i + 1)]).length) _ = _
          rw [← outL_succ, room_ok (by rw [outL_len]; omega), Option.bind_some]
          show some (Step.cont (outL b l (tA ts) start i ++ [debtS b (spA l) (tA ts) start (i + 1)], _, _, _)) = _
          rw [← outL_succ]
          rfl) (by
        show share_Owed_b12 N b l ts _ _ (l.length : Int) _ _ = _
        unfold share_Owed_b12
        rw [ge_dec, cond_false]) l.length 0 N (by omega) (by omega) (fun j hj => by omega)
      show Option.bind (loopO _ N (outL b l (tA ts) start 0, ((0 : Nat) : Int), debtS b (spA l) (tA ts) start 0, mpS b (tA ts) 0)) _ = _
      rw [this]
      cases firstG (badT l ts) 0 l.length <;> rfl
    · have hne : (((ts.length : Nat) : Int) != ((l.length : Nat) : Int)) = true := by rw [bne_iff_ne]; omega
      rw [hne, cond_true, if_neg he]
  · have : (chkY b ⟨start, start⟩ l != 0) = true := bne_iff_ne.2 h
    rw [if_neg h, this, cond_true]
theorem owed_ref {N : Nat} (hN : 60 ≤ N) {b : share_Border} {start : Int} {l : List share_Year} {ts : List share_Truth} (hb : b.Table.length ≤ 15) (hl : l.length ≤ 45) : ref09_Owed N (refB b) start (l.map refY) (ts.map refT) = some (owedF b start l ts) := by
  unfold ref09_Owed owedF
  rw [years_ref hN hb hl, Option.bind_some, List.length_map, List.length_map]
  by_cases h : chkY b ⟨start, start⟩ l = 0
  · rw [if_pos h, h]
    show cond (((ts.length : Nat) : Int) != ((l.length : Nat) : Int)) _ _ = _
    have hy := chkY_ok h
    have hs : -1000000000 ≤ start ∧ start ≤ 1000000000 := ⟨hy.s.1, hy.s.2.2⟩
    have hn := hy.n
    by_cases he : ts.length = l.length
    · have hne : (((ts.length : Nat) : Int) != ((l.length : Nat) : Int)) = false := by rw [he]; simp
      rw [hne, cond_false, if_pos he]
      have := scanS' (fun i : Nat => (debtS b (spA l) (tA ts) start i, outL b l (tA ts) start i, (i : Int))) (badT l ts) l.length (fun s13 => ref09_Owed_b13 N (refB b) (l.map refY) (ts.map refT) s13.1 s13.2.1 s13.2.2) (fun i hi hno => by
        show ref09_Owed_b13 N (refB b) (l.map refY) (ts.map refT) (debtS b (spA l) (tA ts) start i) (outL b l (tA ts) start i) (i : Int) = _
        unfold ref09_Owed_b13
        rw [List.length_map, lt_dec hi, cond_true, refT_get (show i < ts.length by omega), Option.bind_some, refY_get hi, Option.bind_some, Option.bind_some, W_succ (by omega)]
        have ho : ∀ (n lo hi : Int), ref09_outside n lo hi = !(decide (lo ≤ n) && decide (n ≤ hi)) := by
          intro n lo hi
          unfold ref09_outside
          rw [Bool.eq_iff_iff]
          simp only [Bool.or_eq_true, Bool.not_eq_true', decide_eq_true_eq, Bool.and_eq_false_iff, decide_eq_false_iff_not]
          omega
        show Option.bind (cond (ref09_outside (tA ts i).Index (yA l i).Index.Lo (yA l i).Index.Hi) (some true) (some (ref09_outside (tA ts i).Delivered (yA l i).Delivered.Lo (yA l i).Delivered.Hi))) _ = _
        have hc : cond (ref09_outside (tA ts i).Index (yA l i).Index.Lo (yA l i).Index.Hi) (some true) (some (ref09_outside (tA ts i).Delivered (yA l i).Delivered.Lo (yA l i).Delivered.Hi)) = some (!goodT l ts i) := by
          rw [ho, ho]
          unfold goodT inS
          cases (decide ((yA l i).Index.Lo ≤ (tA ts i).Index) && decide ((tA ts i).Index ≤ (yA l i).Index.Hi)) <;> rfl
        rw [hc, Option.bind_some]
        cases hbt : badT l ts i with
        | some r =>
          unfold badT at hbt
          cases hg : goodT l ts i with
          | true => rw [hg] at hbt; cases hbt
          | false =>
            rw [hg] at hbt
            obtain rfl := Option.some.inj hbt
            rfl
        | none =>
          have hto := good_ok hy hi hbt
          have hfar := debtS_far hy.b (sp := spA l) (ts := tA ts) hs (n := i) (by omega) (fun j hj => good_ok hy (by omega) (hno j hj))
          have hg : goodT l ts i = true := by
            unfold badT at hbt
            cases hg : goodT l ts i with
            | true => rfl
            | false => rw [hg] at hbt; cases hbt
          rw [hg, Bool.not_true, cond_false]
          show Option.bind (ref09_behind N (refB b) (debtS b (spA l) (tA ts) start i) (tA ts i).Index (tA ts i).Delivered (spA l i)) _ = _
          rw [behind_spec hN hy.b hto hfar, Option.bind_some]
          show Option.bind (room (outL b l (tA ts) start i ++ [debtS b (spA l) (tA ts) start (i + 1)]).length) _ = _
          rw [← outL_succ, room_ok (by rw [outL_len]; omega), Option.bind_some]
          show some (Step.cont (_, outL b l (tA ts) start i ++ [debtS b (spA l) (tA ts) start (i + 1)], _)) = _
          rw [← outL_succ]
          rfl) (by
        show ref09_Owed_b13 N (refB b) (l.map refY) (ts.map refT) _ _ (l.length : Int) = _
        unfold ref09_Owed_b13
        rw [List.length_map, ge_dec, cond_false]) l.length 0 N (by omega) (by omega) (fun j hj => by omega)
      show Option.bind (loopO _ N (debtS b (spA l) (tA ts) start 0, outL b l (tA ts) start 0, ((0 : Nat) : Int))) _ = _
      rw [this]
      cases firstG (badT l ts) 0 l.length <;> rfl
    · have hne : (((ts.length : Nat) : Int) != ((l.length : Nat) : Int)) = true := by rw [bne_iff_ne]; omega
      rw [hne, cond_true, if_neg he]
  · have : (chkY b ⟨start, start⟩ l != 0) = true := bne_iff_ne.2 h
    rw [if_neg h, this, cond_true]
end Go.Nilo
