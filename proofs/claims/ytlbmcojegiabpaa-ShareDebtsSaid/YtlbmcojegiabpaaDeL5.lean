/-
  What the plain functions compute, in plain arithmetic, part 5. Conditions: what each theorem names.
-/
import Derived.Test.YtlbmcojegiabpaaDeL4
set_option linter.unusedSimpArgs false
set_option linter.unusedVariables false
namespace Go.Nilo
/-! ### Conversions, and lists that are the same -/
theorem same_of {α : Type} {N : Nat} {l : List α} (hl : l.length ≤ 1000000) (hN : l.length < N) (b : Int → Option (Step Int Bool)) (hb : ∀ (i : Nat) (_ : i < l.length), b (i : Int) = some (.cont (((i + 1 : Nat) : Int)))) (he : b (l.length : Int) = some (.brk (l.length : Int))) :
    (cond (((l.length : Nat) : Int) != ((l.length : Nat) : Int)) (some false) (Option.bind (loopO b N 0) fun x7 => exK x7 (fun _ => some true) some)) = some true := by
  have h0 : ((((l.length : Nat) : Int)) != ((l.length : Nat) : Int)) = false := by simp
  rw [h0, cond_false, sameLoop l hl b hb he hN]
  rfl
theorem same_int {N : Nat} {l : List Int} (hl : l.length ≤ 1000000) (hN : l.length < N) : kit_Same_int N l l = some true := by
  unfold kit_Same_int
  refine same_of hl hN (fun s7 => kit_Same_int_b7 N l l s7) (fun i h => ?_) ?_
  · show kit_Same_int_b7 N l l (i : Int) = _
    unfold kit_Same_int_b7
    rw [lt_dec h, cond_true, getI_nat h, Option.bind_some, Option.bind_some, bne_self_eq_false, cond_false, W_succ (by omega)]
  · show kit_Same_int_b7 N l l (l.length : Int) = _
    unfold kit_Same_int_b7
    rw [ge_dec, cond_false]
theorem same_span {N : Nat} {l : List api_Span} (hl : l.length ≤ 1000000) (hN : l.length < N) : kit_Same_api_Span N l l = some true := by
  unfold kit_Same_api_Span
  refine same_of hl hN (fun s7 => kit_Same_api_Span_b7 N l l s7) (fun i h => ?_) ?_
  · show kit_Same_api_Span_b7 N l l (i : Int) = _
    unfold kit_Same_api_Span_b7
    rw [lt_dec h, cond_true, getI_nat h, Option.bind_some, Option.bind_some, beq_self_eq_true, beq_self_eq_true, W_succ (by omega)]
    rfl
  · show kit_Same_api_Span_b7 N l l (l.length : Int) = _
    unfold kit_Same_api_Span_b7
    rw [ge_dec, cond_false]
theorem same_point {N : Nat} {l : List share_Point} (hl : l.length ≤ 1000000) (hN : l.length < N) : kit_Same_share_Point N l l = some true := by
  unfold kit_Same_share_Point
  refine same_of hl hN (fun s7 => kit_Same_share_Point_b7 N l l s7) (fun i h => ?_) ?_
  · show kit_Same_share_Point_b7 N l l (i : Int) = _
    unfold kit_Same_share_Point_b7
    rw [lt_dec h, cond_true, getI_nat h, Option.bind_some, Option.bind_some, beq_self_eq_true, beq_self_eq_true, W_succ (by omega)]
    rfl
  · show kit_Same_share_Point_b7 N l l (l.length : Int) = _
    unfold kit_Same_share_Point_b7
    rw [ge_dec, cond_false]
theorem same_truth {N : Nat} {l : List share_Truth} (hl : l.length ≤ 1000000) (hN : l.length < N) : kit_Same_share_Truth N l l = some true := by
  unfold kit_Same_share_Truth
  refine same_of hl hN (fun s7 => kit_Same_share_Truth_b7 N l l s7) (fun i h => ?_) ?_
  · show kit_Same_share_Truth_b7 N l l (i : Int) = _
    unfold kit_Same_share_Truth_b7
    rw [lt_dec h, cond_true, getI_nat h, Option.bind_some, Option.bind_some, beq_self_eq_true, beq_self_eq_true, W_succ (by omega)]
    rfl
  · show kit_Same_share_Truth_b7 N l l (l.length : Int) = _
    unfold kit_Same_share_Truth_b7
    rw [ge_dec, cond_false]
theorem same_year {N : Nat} {l : List share_Year} (hl : l.length ≤ 1000000) (hN : l.length < N) : kit_Same_share_Year N l l = some true := by
  unfold kit_Same_share_Year
  refine same_of hl hN (fun s7 => kit_Same_share_Year_b7 N l l s7) (fun i h => ?_) ?_
  · show kit_Same_share_Year_b7 N l l (i : Int) = _
    unfold kit_Same_share_Year_b7
    rw [lt_dec h, cond_true, getI_nat h, Option.bind_some, Option.bind_some, W_succ (by omega)]
    simp only [beq_self_eq_true, Bool.and_self, Bool.not_true, cond_false]
  · show kit_Same_share_Year_b7 N l l (l.length : Int) = _
    unfold kit_Same_share_Year_b7
    rw [ge_dec, cond_false]

def refY (y : share_Year) : ref09_Year := ⟨y.Index, y.Delivered, y.Spill⟩
def refT (t : share_Truth) : ref09_Truth := ⟨t.Index, t.Delivered⟩
theorem take_map {α β : Type} {f : α → β} {l : List α} {i : Nat} (h : i < l.length) : (l.take (i + 1)).map f = (l.take i).map f ++ [f l[i]] := by
  rw [List.take_succ_eq_append_getElem h, List.map_append]
  rfl
theorem border_conv {N : Nat} {b : share_Border} (hl : b.Table.length ≤ 15) (hN : 60 ≤ N) : law09_Border N b = some (refB b) := by
  unfold law09_Border
  have := runS (ρ := ref09_Border) (fun i : Nat => ((i : Int), (b.Table.take i).map refP)) b.Table.length (fun s5 => law09_Border_b5 N b s5.1 s5.2) (fun i hi => by
    show law09_Border_b5 N b (i : Int) ((b.Table.take i).map refP) = _
    unfold law09_Border_b5
    rw [lt_dec hi, cond_true, getI_nat hi, Option.bind_some, room_ok (by simp; omega), Option.bind_some, W_succ (by omega), take_map hi]
    rfl) (by
    show law09_Border_b5 N b (b.Table.length : Int) _ = _
    unfold law09_Border_b5
    rw [ge_dec, cond_false]) (N := N) (by omega)
  show Option.bind (loopO _ N (((0 : Nat) : Int), (b.Table.take 0).map refP)) _ = _
  rw [this]
  show some (⟨(b.Table.take b.Table.length).map refP, b.Credit⟩ : ref09_Border) = _
  rw [List.take_length]
  rfl
theorem years_conv {N : Nat} {l : List share_Year} {ts : List share_Truth} (hl : l.length ≤ 45) (ht : ts.length ≤ 50) (hN : 60 ≤ N) : law09_years N l ts = some (l.map refY, ts.map refT) := by
  unfold law09_years
  have h1 := runS (ρ := List ref09_Year × List ref09_Truth) (fun i : Nat => ((l.take i).map refY, (i : Int))) l.length (fun s6 => law09_years_b6 N l s6.1 s6.2) (fun i hi => by
    show law09_years_b6 N l ((l.take i).map refY) (i : Int) = _
    unfold law09_years_b6
    rw [lt_dec hi, cond_true, getI_nat hi, Option.bind_some, room_ok (by simp; omega), Option.bind_some, W_succ (by omega), take_map hi]
    rfl) (by
    show law09_years_b6 N l _ (l.length : Int) = _
    unfold law09_years_b6
    rw [ge_dec, cond_false]) (N := N) (by omega)
  have h2 := runS (ρ := List ref09_Year × List ref09_Truth) (fun i : Nat => ((ts.take i).map refT, (i : Int))) ts.length (fun s9 => law09_years_b9 N ts s9.1 s9.2) (fun i hi => by
    show law09_years_b9 N ts ((ts.take i).map refT) (i : Int) = _
    unfold law09_years_b9
    rw [lt_dec hi, cond_true, getI_nat hi, Option.bind_some, room_ok (by simp; omega), Option.bind_some, W_succ (by omega), take_map hi]
    rfl) (by
    show law09_years_b9 N ts _ (ts.length : Int) = _
    unfold law09_years_b9
    rw [ge_dec, cond_false]) (N := N) (by omega)
  show Option.bind (loopO _ N ((l.take 0).map refY, ((0 : Nat) : Int))) _ = _
  rw [h1, Option.bind_some]
  show Option.bind (loopO _ N ((ts.take 0).map refT, ((0 : Nat) : Int))) _ = _
  rw [h2, List.take_length, Option.bind_some]
  show some ((l.take l.length).map refY, ts.map refT) = _
  rw [List.take_length]

/-! ### Which borders are right -/
def okP (p : share_Point) : Bool := decide (0 ≤ p.Index) && decide (p.Index ≤ 1000000000) && decide (0 ≤ p.Due) && decide (p.Due ≤ 1000000000)
def okW (n : Int) : Bool := decide (0 ≤ n) && decide (n ≤ 1000000000)
def badU (b : share_Border) (i : Nat) : Option Int := cond (decide (xI b (i + 1) ≤ xI b i) || decide (xD b (i + 1) < xD b i)) (some 9) none
def chkB (b : share_Border) : Int := if 2 ≤ b.Table.length ∧ b.Table.length ≤ 12 then (if b.Table.all okP && okW b.Credit then ((firstG (badU b) 0 (b.Table.length - 1)).getD 0) else 100) else 3
theorem every_point {N : Nat} (hN : 60 ≤ N) {l : List share_Point} (hl : l.length ≤ 15) : share_every_share_Point N l = some (l.all okP) := by
  have hf : ∀ p, share_every_share_Point_1 p = !okP p := by
    intro p
    unfold share_every_share_Point_1 share_CheckBorder_1 share_water share_in okP
    simp only [Bool.and_assoc]
  have hany : l.any share_every_share_Point_1 = !l.all okP := by
    rw [List.all_eq_not_any_not, Bool.not_not]
    congr 1
    exact funext hf
  unfold share_every_share_Point slices_ContainsFunc_Lshare_Point_share_Point slices_IndexFunc_Lshare_Point_share_Point
  rcases indexLoop share_every_share_Point_1 l (by omega) (fun s4 => slices_IndexFunc_Lshare_Point_share_Point_b4 N l s4) (fun x => rfl) l.length 0 N (by omega) (by omega) with ⟨k, a1, a2, a3⟩ | ⟨a1, a2⟩
  · rw [List.drop_zero, hany] at a3
    rw [show ((0 : Nat) : Int) = 0 from rfl] at a1
    rw [a1]
    have : l.all okP = false := by simpa using a3
    rw [this]
    simp [exK, a2]
  · rw [List.drop_zero, hany] at a2
    rw [show ((0 : Nat) : Int) = 0 from rfl] at a1
    rw [a1]
    have : l.all okP = true := by simpa using a2
    rw [this]
    simp [exK]
theorem cb_prog {N : Nat} (hN : 60 ≤ N) {b : share_Border} (hl : b.Table.length ≤ 15) : share_CheckBorder N b = some (chkB b) := by
  unfold share_CheckBorder chkB
  by_cases h : 2 ≤ b.Table.length ∧ b.Table.length ≤ 12
  · have e : (!share_in (b.Table.length : Int) 2 12) = false := by
      unfold share_in
      simp only [Bool.not_eq_false', Bool.and_eq_true, decide_eq_true_eq]
      omega
    rw [e, if_pos h, cond_false, every_point hN hl, Option.bind_some]
    have ew : share_water b.Credit = okW b.Credit := rfl
    rw [ew]
    cases b.Table.all okP with
    | false => rfl
    | true =>
      cases okW b.Credit with
      | false => rfl
      | true =>
        have hsub : subO b.Table 1 ((b.Table.length : Nat) : Int) = some (b.Table.drop 1) := by
          unfold subO
          rw [if_pos (by omega)]
          congr 1
          rw [show (1 : Int).toNat = 1 from rfl, show ((b.Table.length : Nat) : Int).toNat = b.Table.length by omega, List.take_of_length_le (by simp)]
        have hdl : (b.Table.drop 1).length = b.Table.length - 1 := by simp
        have := scanS (ρ := Int) (fun i : Nat => (i : Int)) (badU b) (b.Table.length - 1) (fun s9 => share_CheckBorder_b9 N b (b.Table.drop 1) s9) (fun i hi => by
          show share_CheckBorder_b9 N b (b.Table.drop 1) (i : Int) = _
          unfold share_CheckBorder_b9
          rw [hdl, lt_dec hi, cond_true, W_succ (by omega), getI_nat (by omega), Option.bind_some, getI_nat (by omega), Option.bind_some, get_getD (d := p0) (show i < b.Table.length by omega), get_getD (d := p0) (show i + 1 < b.Table.length by omega)]
          unfold badU xI xD
          cases (decide ((b.Table.getD (i + 1) p0).Index ≤ (b.Table.getD i p0).Index) || decide ((b.Table.getD (i + 1) p0).Due < (b.Table.getD i p0).Due)) <;> rfl) (by
          show share_CheckBorder_b9 N b (b.Table.drop 1) ((b.Table.length - 1 : Nat) : Int) = _
          unfold share_CheckBorder_b9
          rw [hdl, ge_dec, cond_false]) (b.Table.length - 1) 0 N (by omega) (by omega)
        show Option.bind (subO b.Table 1 ((b.Table.length : Nat) : Int)) (fun sub => Option.bind (loopO _ N ((0 : Nat) : Int)) _) = _
        rw [hsub, Option.bind_some, this]
        cases firstG (badU b) 0 (b.Table.length - 1) <;> rfl
  · have e : (!share_in (b.Table.length : Int) 2 12) = true := by
      unfold share_in
      simp only [Bool.not_eq_true', Bool.and_eq_false_iff, decide_eq_false_iff_not]
      omega
    rw [e, if_neg h, cond_true]
theorem okP_ref (p : share_Point) : (ref09_outside p.Index 0 1000000000 || ref09_outside p.Due 0 1000000000) = !okP p := by
  unfold ref09_outside okP
  rw [Bool.eq_iff_iff]
  simp only [Bool.or_eq_true, Bool.not_eq_true', decide_eq_true_eq, Bool.and_eq_false_iff, decide_eq_false_iff_not]
  omega
theorem cb_ref {N : Nat} (hN : 60 ≤ N) {b : share_Border} (hl : b.Table.length ≤ 15) : ref09_CheckBorder N (refB b) = some (chkB b) := by
  unfold ref09_CheckBorder chkB
  rw [refB_len]
  by_cases h : 2 ≤ b.Table.length ∧ b.Table.length ≤ 12
  · have e : (decide (((b.Table.length : Nat) : Int) < 2) || decide (12 < ((b.Table.length : Nat) : Int))) = false := by
      simp only [Bool.or_eq_false_iff, decide_eq_false_iff_not]
      omega
    rw [e, if_pos h, cond_false]
    have ew : ref09_outside (refB b).Credit 0 1000000000 = !okW b.Credit := by
      show ref09_outside b.Credit 0 1000000000 = _
      unfold ref09_outside okW
      rw [Bool.eq_iff_iff]
      simp only [Bool.or_eq_true, Bool.not_eq_true', decide_eq_true_eq, Bool.and_eq_false_iff, decide_eq_false_iff_not]
      omega
    have h1 := runS (ρ := Int) (fun i : Nat => (!(okW b.Credit && (b.Table.take i).all okP), (i : Int))) b.Table.length (fun s8 => ref09_CheckBorder_b8 N (refB b) s8.1 s8.2) (fun i hi => by
      show ref09_CheckBorder_b8 N (refB b) (!(okW b.Credit && (b.Table.take i).all okP)) (i : Int) = _
      unfold ref09_CheckBorder_b8
      rw [refB_len, lt_dec hi, cond_true, refB_get hi, W_succ (by omega), List.take_succ_eq_append_getElem hi, List.all_append, get_getD (d := p0) hi]
      have := okP_ref (b.Table.getD i p0)
      simp only [List.all_cons, List.all_nil, Bool.and_true, Option.bind_some]
      show Option.bind (cond _ (some true) (some (ref09_outside (b.Table.getD i p0).Index 0 1000000000))) (fun t => Option.bind (cond t (some true) (some (ref09_outside (b.Table.getD i p0).Due 0 1000000000))) _) = _
      revert this
      cases ref09_outside (b.Table.getD i p0).Index 0 1000000000 <;> cases ref09_outside (b.Table.getD i p0).Due 0 1000000000 <;> cases okP (b.Table.getD i p0) <;> cases okW b.Credit <;> cases (b.Table.take i).all okP <;> intro hh <;> first | rfl | cases hh) (by
      show ref09_CheckBorder_b8 N (refB b) _ (b.Table.length : Int) = _
      unfold ref09_CheckBorder_b8
      rw [refB_len, ge_dec, cond_false]) (N := N) (by omega)
    have e0 : ref09_outside (refB b).Credit 0 1000000000 = !(okW b.Credit && (b.Table.take 0).all okP) := by
      rw [ew, List.take_zero, List.all_nil, Bool.and_true]
    rw [e0]
    show Option.bind (loopO _ N (!(okW b.Credit && (b.Table.take 0).all okP), ((0 : Nat) : Int))) _ = _
    rw [h1, Option.bind_some, List.take_length, Bool.and_comm (b.Table.all okP)]
    cases (okW b.Credit && b.Table.all okP) with
    | false => rfl
    | true =>
      have := scanS (ρ := Int) (fun i : Nat => ((i + 1 : Nat) : Int)) (badU b) (b.Table.length - 1) (fun s14 => ref09_CheckBorder_b14 N (refB b) s14) (fun i hi => by
        show ref09_CheckBorder_b14 N (refB b) ((i + 1 : Nat) : Int) = _
        unfold ref09_CheckBorder_b14
        have w0 : W (((i + 1 : Nat) : Int) - 1) = (i : Int) := by rw [W_id (by omega) (by omega)]; push_cast; omega
        rw [refB_len, lt_dec (by omega), cond_true, w0, refB_get (by omega), Option.bind_some, refB_get (by omega), Option.bind_some, W_succ (by omega)]
        show Option.bind (cond (decide (xI b (i + 1) ≤ xI b i)) (some true) (some (decide (xD b (i + 1) < xD b i)))) _ = _
        unfold badU
        cases decide (xI b (i + 1) ≤ xI b i) <;> cases decide (xD b (i + 1) < xD b i) <;> rfl) (by
        show ref09_CheckBorder_b14 N (refB b) ((b.Table.length - 1 + 1 : Nat) : Int) = _
        unfold ref09_CheckBorder_b14
        rw [refB_len, show b.Table.length - 1 + 1 = b.Table.length by omega, ge_dec, cond_false]) (b.Table.length - 1) 0 N (by omega) (by omega)
      show Option.bind (loopO _ N ((0 + 1 : Nat) : Int)) _ = _
      rw [this]
      cases firstG (badU b) 0 (b.Table.length - 1) <;> rfl
  · have e : (decide (((b.Table.length : Nat) : Int) < 2) || decide (12 < ((b.Table.length : Nat) : Int))) = true := by
      simp only [Bool.or_eq_true, decide_eq_true_eq]
      omega
    rw [e, if_neg h, cond_true]
theorem firstG_none' {ρ : Type} {g : Nat → Option ρ} : ∀ (n i : Nat), firstG g i n = none → ∀ j, i ≤ j → j < i + n → g j = none
  | 0, i, _, j, _, _ => by omega
  | n + 1, i, h, j, h1, h2 => by
    unfold firstG at h
    cases hg : g i with
    | some r => rw [hg] at h; cases h
    | none =>
      rw [hg] at h
      by_cases hij : j = i
      · subst hij; exact hg
      · exact firstG_none' n (i + 1) h j (by omega) (by omega)
theorem badU_val {b : share_Border} : ∀ (n i : Nat), firstG (badU b) i n = none ∨ firstG (badU b) i n = some 9
  | 0, i => .inl rfl
  | n + 1, i => by
    unfold firstG
    have h : badU b i = none ∨ badU b i = some 9 := by
      unfold badU
      cases (decide (xI b (i + 1) ≤ xI b i) || decide (xD b (i + 1) < xD b i))
      · exact .inl rfl
      · exact .inr rfl
    rcases h with h | h
    · rw [h]; exact badU_val n (i + 1)
    · rw [h]; exact .inr rfl
theorem chkB_ok {b : share_Border} (h : chkB b = 0) : BOk b := by
  unfold chkB at h
  split at h
  · rename_i hh
    split at h
    · rename_i ha
      rw [Bool.and_eq_true] at ha
      have hp : ∀ j (hj : j < b.Table.length), 0 ≤ b.Table[j].Index ∧ b.Table[j].Index ≤ 1000000000 ∧ 0 ≤ b.Table[j].Due ∧ b.Table[j].Due ≤ 1000000000 := by
        intro j hj
        have := List.all_eq_true.1 ha.1 b.Table[j] (List.getElem_mem hj)
        unfold okP at this
        simp only [Bool.and_eq_true, decide_eq_true_eq] at this
        omega
      have hc : 0 ≤ b.Credit ∧ b.Credit ≤ 1000000000 := by
        have := ha.2
        unfold okW at this
        simpa only [Bool.and_eq_true, decide_eq_true_eq] using this
      rcases badU_val (b := b) (b.Table.length - 1) 0 with hn | hn
      · refine ⟨hh.1, hh.2, fun j hj => ⟨(hp j hj).1, (hp j hj).2.1⟩, fun j hj => ⟨(hp j hj).2.2.1, (hp j hj).2.2.2⟩, fun j hj => ?_, hc⟩
        have hu := firstG_none' _ _ hn j (by omega) (by omega)
        rw [get_getD (d := p0) hj, get_getD (d := p0) (show j < b.Table.length by omega)]
        unfold badU at hu
        cases hb : (decide (xI b (j + 1) ≤ xI b j) || decide (xD b (j + 1) < xD b j)) with
        | true => rw [hb] at hu; cases hu
        | false =>
          simp only [Bool.or_eq_false_iff, decide_eq_false_iff_not] at hb
          unfold xI xD at hb
          omega
      · rw [hn] at h
        cases h
    · omega
  · omega
end Go.Nilo
