/-
  What the plain functions compute, in plain arithmetic, part 8. Conditions: what each theorem names.
-/
import Derived.Test.YtlbmcojegiabpaaLeL7
set_option linter.unusedSimpArgs false
set_option linter.unusedVariables false
namespace Go.Nilo
theorem awake_true : law09_awake 60 = some true := by decide +kernel
theorem same_spec {N : Nat} (hN : 60 ≤ N) {l : List api_Span} (hl : l.length ≤ 50) : kit_Same_api_Span N l l = some true := by
  obtain ⟨s, h1, -⟩ := loopInv (fun s7 => kit_Same_api_Span_b7 N l l s7) (fun i s => s = (i : Int)) l.length
    (by
      rintro i s hi rfl
      refine ⟨((i + 1 : Nat) : Int), ?_, rfl⟩
      unfold kit_Same_api_Span_b7
      rw [show decide ((i : Int) < ((l.length : Nat) : Int)) = true by simp; omega, getI_nat hi]
      simp only [cond_true, Option.bind_some, beq_self_eq_true, Bool.and_self, Bool.not_true, cond_false, W_succ (i := i) (by omega)])
    (by
      rintro s rfl
      unfold kit_Same_api_Span_b7
      rw [show decide (((l.length : Nat) : Int) < ((l.length : Nat) : Int)) = false by simp]
      rfl)
    l.length 0 0 N (by omega) (by omega) rfl
  unfold kit_Same_api_Span
  rw [h1]
  simp only [bne_self_eq_false, cond_false, Option.bind_some, exK]

theorem debtS_congr {b : share_Border} {years years' : List share_Year} {ts ts' : Nat → share_Truth} {s : Int} : ∀ n, (∀ j, j < n → ts j = ts' j ∧ years.getD j y0 = years'.getD j y0) → debtS b years ts s n = debtS b years' ts' s n
  | 0, _ => rfl
  | n + 1, h => by rw [debtS, debtS, debtS_congr n (fun j hj => h j (by omega)), (h n (by omega)).1, (h n (by omega)).2]
theorem debtS_shift {b : share_Border} {years years' : List share_Year} {ts ts' : Nat → share_Truth} {s : Int} (k : Nat) : ∀ n, (∀ j, j < n → ts' j = ts (k + j) ∧ years'.getD j y0 = years.getD (k + j) y0) → debtS b years' ts' (debtS b years ts s k) n = debtS b years ts s (k + n)
  | 0, _ => rfl
  | n + 1, h => by rw [debtS, debtS_shift k n (fun j hj => h j (by omega)), (h n (by omega)).1, (h n (by omega)).2, ← Nat.add_assoc, debtS]
theorem getD_drop' {α : Type} {l : List α} {k j : Nat} {d : α} : (l.drop k).getD j d = l.getD (k + j) d := by simp [List.getD, List.getElem?_drop]
theorem getD_take' {α : Type} {l : List α} {k j : Nat} {d : α} (h : j < k) : (l.take k).getD j d = l.getD j d := by simp [List.getD, h]
theorem ext_getD {α : Type} {l m : List α} {d : α} (hl : l.length = m.length) (h : ∀ j, j < l.length → l.getD j d = m.getD j d) : l = m := by
  apply List.ext_getElem hl
  intro j h1 h2
  rw [get_getD (d := d) h1, get_getD (d := d) h2, h j h1]
theorem getD_app_l {α : Type} {l m : List α} {j : Nat} {d : α} (h : j < l.length) : (l ++ m).getD j d = l.getD j d := by simp [List.getD, List.getElem?_append_left h]
theorem getD_app_r {α : Type} {l m : List α} {j : Nat} {d : α} : (l ++ m).getD (l.length + j) d = m.getD j d := by rw [List.getD, List.getElem?_append_right (by omega), Nat.add_sub_cancel_left, List.getD]

theorem fine_ok {l f : List share_Year} (hy : ∀ y ∈ l, YOk y) (hF : Narrow l f) : ∀ y ∈ f, YOk y := by
  intro y hm
  obtain ⟨j, hj, rfl⟩ := List.getElem_of_mem hm
  have hj' : j < l.length := by rw [← hF.ll]; exact hj
  have a := hF.i j hj'
  have c := hF.d j hj'
  have y1 := (yget hy hj').i
  have y2 := (yget hy hj').d
  rw [get_getD (d := y0) hj]
  exact ⟨by omega, by omega⟩
theorem better_in {l : List share_Year} {t b : List share_Truth} (hy : ∀ y ∈ l, YOk y) (hw : Within l t) (hB : Better l t b) : Within l b := by
  refine ⟨hB.ll, fun j hj => ⟨?_, ?_⟩, fun j hj => ?_, fun j hj => ?_⟩
  · have := hB.i j hj; have := (yget hy hj).i; have := hw.i j hj; omega
  · have := hB.d j hj; have := (yget hy hj).d; have := hw.d j hj; omega
  · have := hB.i j hj; have := hw.i j hj; omega
  · have := hB.d j hj; have := hw.d j hj; omega

theorem less_loop {N : Nat} (hN : 60 ≤ N) {s t : List api_Span} {y x : List Int} (hl : s.length ≤ 12) (ht : t.length = s.length) (hx : x.length = s.length) (hy : y.length = s.length)
    (h1 : ∀ j, j < s.length → (s.getD j ⟨0, 0⟩).Lo ≤ (t.getD j ⟨0, 0⟩).Lo ∧ (t.getD j ⟨0, 0⟩).Hi ≤ (s.getD j ⟨0, 0⟩).Hi) (h2 : ∀ j, j < s.length → y.getD j 0 ≤ x.getD j 0) :
    ∃ z, loopO (fun s20 => law09_ShareLess_b20 N (s, 0) (x, 0) (y, 0) s20.1 s20.2.1 s20.2.2) N (s, t, 0) = some (.go (s, t, z)) := by
  obtain ⟨⟨a1, a2, z⟩, h1, h2, h3, -⟩ := loopInv (fun s20 => law09_ShareLess_b20 N (s, 0) (x, 0) (y, 0) s20.1 s20.2.1 s20.2.2)
    (fun i st => st.1 = s ∧ st.2.1 = t ∧ st.2.2 = (i : Int)) s.length
    (by
      rintro i ⟨a1, a2, z⟩ hi ⟨p1, p2, p3⟩
      dsimp only at p1 p2 p3 ⊢
      subst a1 a2 z
      refine ⟨(s, t, ((i + 1 : Nat) : Int)), ?_, rfl, rfl, rfl⟩
      have g1 := h1 i hi
      have g2 := h2 i hi
      unfold law09_ShareLess_b20
      dsimp only
      have e1 : getI s (i : Int) = some (s.getD i ⟨0, 0⟩) := by rw [getI_nat hi, get_getD (d := ⟨0, 0⟩) hi]
      have e2 : getI t (i : Int) = some (t.getD i ⟨0, 0⟩) := by rw [getI_nat (by omega), get_getD (d := ⟨0, 0⟩) (by omega)]
      have e3 : getI x (i : Int) = some (x.getD i 0) := getI_getD (by omega)
      have e4 : getI y (i : Int) = some (y.getD i 0) := getI_getD (by omega)
      rw [show decide ((i : Int) < ((s.length : Nat) : Int)) = true by simp; omega, e1, e2, e3, e4]
      have d1 : decide ((t.getD i ⟨0, 0⟩).Lo < (s.getD i ⟨0, 0⟩).Lo) = false := by simp only [decide_eq_false_iff_not]; omega
      have d2 : decide ((s.getD i ⟨0, 0⟩).Hi < (t.getD i ⟨0, 0⟩).Hi) = false := by simp only [decide_eq_false_iff_not]; omega
      have d3 : decide (x.getD i 0 < y.getD i 0) = false := by simp only [decide_eq_false_iff_not]; omega
      simp only [cond_true, cond_false, Option.bind_some, d1, d2, d3, W_succ (i := i) (by omega)])
    (by
      rintro ⟨a1, a2, z⟩ ⟨p1, p2, p3⟩
      dsimp only at p1 p2 p3 ⊢
      subst p3
      unfold law09_ShareLess_b20
      rw [show decide (((s.length : Nat) : Int) < ((s.length : Nat) : Int)) = false by simp]
      rfl)
    s.length 0 (s, t, 0) N (by omega) (by omega) ⟨rfl, rfl, rfl⟩
  dsimp only at h2 h3
  subst h2 h3
  exact ⟨z, h1⟩

theorem Due_spec {N : Nat} (hN : 60 ≤ N) {b : share_Border} (h : BOk b) {t : Int} (ht : 0 ≤ t ∧ t ≤ 1000000) : share_Due N b t = some (dueF b.Table t, 0) := by
  have hw : share_water t = true := by unfold share_water share_in; simp; omega
  unfold share_Due
  rw [border_spec hN h]
  simp only [Option.bind_some, bne_self_eq_false, cond_false, hw, Bool.not_true, due_spec hN h ht]
end Go.Nilo
