/-
  What the plain functions compute, in plain arithmetic, part 10. Conditions: what each theorem names.
-/
import Derived.Test.YtbgjmnbgilddgaaCoL9
set_option linter.unusedSimpArgs false
set_option linter.unusedVariables false
namespace Go.Nilo
structure SOKs (l : List api_Span) : Prop where
  n1 : 1 ≤ l.length
  n2 : l.length ≤ 20
  s : ∀ j, j < l.length → -1000000000000 ≤ (sA l j).Lo ∧ (sA l j).Lo ≤ (sA l j).Hi ∧ (sA l j).Hi ≤ 1000000000000
theorem getI_sA {l : List api_Span} {i : Nat} (h : i < l.length) : getI l (i : Int) = some (sA l i) := by
  rw [getI_nat h, get_getD (d := s0) h]; rfl
theorem everySpan {N : Nat} {l : List api_Span} (hl : l.length ≤ 1000000) (hN : l.length < N) : gauge_every_api_Span N l = some (!(l.any gauge_every_api_Span_1)) := by
  unfold gauge_every_api_Span slices_ContainsFunc_Lapi_Span_api_Span slices_IndexFunc_Lapi_Span_api_Span
  rcases indexLoop gauge_every_api_Span_1 l (by omega) (fun s4 => slices_IndexFunc_Lapi_Span_api_Span_b4 N l s4) (fun x => rfl) l.length 0 N (by omega) hN with ⟨k, h1, h2, h3⟩ | ⟨h1, h2⟩
  · rw [List.drop_zero] at h3
    rw [show ((0 : Nat) : Int) = 0 from rfl] at h1
    rw [h1, h3]
    simp [exK, h2]
  · rw [List.drop_zero] at h2
    rw [show ((0 : Nat) : Int) = 0 from rfl] at h1
    rw [h1, h2]
    simp [exK]
theorem methods_ok {N : Nat} (hN : 40 ≤ N) {l : List api_Span} (h : SOKs l) : gauge_methods N l = some 0 := by
  have n1 := h.n1
  have n2 := h.n2
  unfold gauge_methods
  have hin : gauge_in ((l.length : Nat) : Int) 1 20 = true := by unfold gauge_in; simp; omega
  have hany : l.any gauge_every_api_Span_1 = false := by
    rw [List.any_eq_false]
    intro x hx
    obtain ⟨j, hj, rfl⟩ := List.getElem_of_mem hx
    have hs := h.s j hj
    rw [get_getD (d := s0) hj]
    unfold sA at hs
    generalize l.getD j s0 = y at hs ⊢
    unfold gauge_every_api_Span_1 gauge_methods_1 gauge_right gauge_in
    simp
    omega
  rw [hin, everySpan (by omega) (by omega), hany]
  rfl
theorem common_prog {N : Nat} (hN : 40 ≤ N) {l : List api_Span} (h : SOKs l) : gauge_Common N l = some (if comH l l.length < comL l l.length then (s0, 7) else (⟨comL l l.length, comH l l.length⟩, 0)) := by
  have n1 := h.n1
  have n2 := h.n2
  unfold gauge_Common
  rw [methods_ok hN h, Option.bind_some, show ((0 : Int) != 0) = false from rfl, cond_false, show (0 : Int) = ((0 : Nat) : Int) from rfl, getI_sA (by omega), Option.bind_some]
  have := runS (ρ := api_Span × Int) (fun i : Nat => ((i : Int), comL l i, comH l i)) l.length (fun s9 => gauge_Common_b9 N l s9.1 s9.2.1 s9.2.2) (fun i hi => by
    show gauge_Common_b9 N l (i : Int) (comL l i) (comH l i) = _
    unfold gauge_Common_b9
    rw [lt_dec hi, cond_true, getI_sA hi, Option.bind_some, W_succ (by omega)]
    rfl) (by
    show gauge_Common_b9 N l (l.length : Int) (comL l l.length) (comH l l.length) = _
    unfold gauge_Common_b9
    rw [ge_dec, cond_false]) (N := N) (by omega)
  rw [show loopO (fun s9 => gauge_Common_b9 N l s9.1 s9.2.1 s9.2.2) N (((0 : Nat) : Int), (sA l 0).Lo, (sA l 0).Hi) = _ from this, Option.bind_some]
  show cond (decide (comH l l.length < comL l l.length)) _ _ = _
  by_cases hc : comH l l.length < comL l l.length
  · rw [decide_eq_true hc, if_pos hc, cond_true]; rfl
  · rw [decide_eq_false hc, if_neg hc, cond_false]

def apG (l : List api_Span) (i k : Nat) : Option (Nat × Nat) := cond (ap l i k) (some (i, k)) none
def apR (l : List api_Span) (i : Nat) : Option (Nat × Nat) := firstG (apG l i) 0 l.length
def apF (l : List api_Span) : Option (Nat × Nat) := firstG (apR l) 0 l.length
def apV (l : List api_Span) : Int × Int × Int := match apF l with | some (i, k) => ((i : Int), (k : Int), 0) | none => (0, 0, 5)
theorem apart_prog {N : Nat} (hN : 40 ≤ N) {l : List api_Span} (h : SOKs l) : gauge_Apart N l = some (apV l) := by
  have n1 := h.n1
  have n2 := h.n2
  unfold gauge_Apart
  rw [methods_ok hN h, Option.bind_some, show ((0 : Int) != 0) = false from rfl, cond_false]
  have hin : ∀ i, i < l.length → loopO (fun s18 : Int => gauge_Apart_b18 N l (i : Int) (sA l i) s18) N 0 = some (match (apR l i).map (fun p => (Step.brk ((p.1 : Int), (p.2 : Int), (0 : Int), (p.1 : Int)) : Step (Int × Int × Int × Int) (Int × Int × Int))) with | some r => Ex.out r | none => Ex.go (l.length : Int)) := by
    intro i hi
    have := scanS (ρ := Step (Int × Int × Int × Int) (Int × Int × Int)) (fun k : Nat => (k : Int)) (fun k => (apG l i k).map (fun p => (Step.brk ((p.1 : Int), (p.2 : Int), (0 : Int), (p.1 : Int)) : Step (Int × Int × Int × Int) (Int × Int × Int)))) l.length (fun s18 : Int => gauge_Apart_b18 N l (i : Int) (sA l i) s18) (fun k hk => by
      show gauge_Apart_b18 N l (i : Int) (sA l i) (k : Int) = _
      unfold gauge_Apart_b18
      rw [lt_dec hk, cond_true, getI_sA hk, Option.bind_some, W_succ (by omega)]
      have e : decide ((i : Int) < (k : Int)) = decide (i < k) := by rw [Bool.eq_iff_iff, decide_eq_true_eq, decide_eq_true_eq]; omega
      rw [e]
      unfold apG ap
      cases decide (i < k) <;> cases decide ((sA l k).Hi < (sA l i).Lo) <;> cases decide ((sA l i).Hi < (sA l k).Lo) <;> rfl) (by
      show gauge_Apart_b18 N l (i : Int) (sA l i) (l.length : Int) = _
      unfold gauge_Apart_b18
      rw [ge_dec, cond_false]) l.length 0 N (by omega) (by omega)
    rw [firstG_map] at this
    have e : firstG (apG l i) 0 l.length = apR l i := rfl
    rw [e] at this
    refine (show loopO _ N ((0 : Nat) : Int) = _ from this).trans ?_
    cases apR l i <;> rfl
  have := scanE (ρ := Int × Int × Int) (fun i : Nat => ((0 : Int), (0 : Int), (5 : Int), (i : Int))) (fun i => (apR l i).map (fun p => (Sum.inl ((p.1 : Int), (p.2 : Int), (0 : Int), (p.1 : Int)) : (Int × Int × Int × Int) ⊕ (Int × Int × Int)))) l.length (fun s10 => gauge_Apart_b10 N l s10.1 s10.2.1 s10.2.2.1 s10.2.2.2) (fun i hi => by
    show gauge_Apart_b10 N l 0 0 5 (i : Int) = _
    unfold gauge_Apart_b10
    rw [lt_dec hi, cond_true, getI_sA hi, Option.bind_some, hin i hi, W_succ (by omega)]
    cases apR l i <;> rfl) (by
    show gauge_Apart_b10 N l 0 0 5 (l.length : Int) = _
    unfold gauge_Apart_b10
    rw [ge_dec, cond_false]) l.length 0 N (by omega) (by omega)
  show Option.bind (loopO _ N (0, 0, 5, ((0 : Nat) : Int))) _ = _
  rw [this, firstG_map]
  show _ = some (match apF l with | some (i, k) => ((i : Int), (k : Int), (0 : Int)) | none => (0, 0, 5))
  have e : firstG (apR l) 0 l.length = apF l := rfl
  rw [e]
  cases apF l <;> rfl
theorem apF_true {l : List api_Span} {F : Int} (h : ∀ j, j < l.length → (sA l j).Lo ≤ F ∧ F ≤ (sA l j).Hi) : apF l = none :=
  firstG_none _ _ (fun i _ hi => firstG_none _ _ (fun k _ hk => by
    unfold apG
    rw [ap_true (h i (by omega)) (h k (by omega))]; rfl))

/-! ### One more that meets none -/
theorem ap_lt {l : List api_Span} {i k : Nat} (hi : ¬ i < k) : ap l i k = false := by
  unfold ap
  rw [decide_eq_false hi]; rfl
theorem bad_apart {l : List api_Span} {i : Nat} {x : api_Span} {F : Int} (hl : 0 < l.length) (hi : i ≤ l.length) (h : ∀ j, j < l.length → (sA l j).Lo ≤ F ∧ F ≤ (sA l j).Hi) (hx : ∀ j, j < l.length → (sA l j).Hi < x.Lo) : apF (badL l i x) = some (0, max i 1) := by
  have hn : (badL l i x).length = l.length + 1 := bad_len hi
  have key : apR (badL l i x) 0 = some (0, max i 1) := by
    unfold apR
    refine firstG_some (k := max i 1) _ _ (by omega) (by omega) ?_ ?_
    · unfold apG
      have : ap (badL l i x) 0 (max i 1) = true := by
        unfold ap
        rw [decide_eq_true (show 0 < max i 1 by omega)]
        by_cases h0 : i = 0
        · subst h0
          have e0 : sA (badL l 0 x) 0 = x := bad_eq (by omega)
          have e1 : sA (badL l 0 x) (max 0 1) = sA l 0 := bad_gt (j := 0) (by omega) (by omega)
          rw [e0, e1, decide_eq_true (hx 0 hl)]
          rfl
        · have e0 : sA (badL l i x) 0 = sA l 0 := bad_lt hi (by omega)
          have e1 : sA (badL l i x) (max i 1) = x := by rw [show max i 1 = i by omega]; exact bad_eq hi
          rw [e0, e1, decide_eq_true (hx 0 hl), Bool.or_true]
          rfl
      rw [this]; rfl
    · intro j _ hj
      unfold apG
      have : ap (badL l i x) 0 j = false := by
        by_cases h0 : j = 0
        · subst h0; exact ap_lt (by omega)
        · have e0 : sA (badL l i x) 0 = sA l 0 := bad_lt hi (by omega)
          have e1 : sA (badL l i x) j = sA l j := bad_lt hi (by omega)
          have f0 := h 0 hl
          have f1 := h j (by omega)
          refine ap_true (F := F) ?_ ?_
          · rw [e0]; exact f0
          · rw [e1]; exact f1
      rw [this]; rfl
  unfold apF
  rw [hn]
  unfold firstG
  rw [key]
theorem bad_com {l : List api_Span} {i : Nat} {x : api_Span} (hl : 0 < l.length) (hi : i ≤ l.length) (hx : ∀ j, j < l.length → (sA l j).Hi < x.Lo) : comH (badL l i x) (badL l i x).length < comL (badL l i x) (badL l i x).length := by
  have hn : (badL l i x).length = l.length + 1 := bad_len hi
  have h1 := com_in (l := badL l i x) (badL l i x).length i (by omega)
  rw [bad_eq hi] at h1
  by_cases h0 : i = 0
  · have h2 := com_in (l := badL l i x) (badL l i x).length 1 (by omega)
    have e : sA (badL l i x) 1 = sA l 0 := bad_gt (j := 0) hi (by omega)
    rw [e] at h2
    have := hx 0 hl
    omega
  · have h2 := com_in (l := badL l i x) (badL l i x).length 0 (by omega)
    have e : sA (badL l i x) 0 = sA l 0 := bad_lt hi (by omega)
    rw [e] at h2
    have := hx 0 hl
    omega
end Go.Nilo
