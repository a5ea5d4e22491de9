/-
  What the plain functions compute, in plain arithmetic, part 4. Conditions: what each theorem names.
-/
import Derived.Test.YtlbmcojegiabpaaLeL3
set_option linter.unusedSimpArgs false
set_option linter.unusedVariables false
namespace Go.Nilo
theorem due_spec {N : Nat} (hN : 60 ≤ N) {b : share_Border} (h : BOk b) {t : Int} (ht : 0 ≤ t ∧ t ≤ 1000000) : share_Border_due N b t = some (dueF b.Table t) := by
  have hl := h.l2
  have hl' := h.l12
  have hi : slices_IndexFunc_Lshare_Point_share_Point_s2 N b.Table t = some (if b.Table.findIdx (isBeyond t) < b.Table.length then ((b.Table.findIdx (isBeyond t) : Nat) : Int) else -1) := by
    unfold slices_IndexFunc_Lshare_Point_share_Point_s2
    rcases firstLoop (isBeyond t) b.Table (by omega) (fun s4 => slices_IndexFunc_Lshare_Point_share_Point_s2_b4 N b.Table t s4) (fun x => rfl) b.Table.length 0 N (by omega) (by omega) (fun j _ hj => by omega) with ⟨h1, h2⟩ | ⟨h1, h2⟩
    · rw [show ((0 : Nat) : Int) = 0 from rfl] at h2
      rw [h2, if_pos h1]
      rfl
    · rw [show ((0 : Nat) : Int) = 0 from rfl] at h2
      rw [h2, if_neg (by omega)]
      rfl
  unfold share_Border_due
  rw [hi]
  by_cases hk : b.Table.findIdx (isBeyond t) < b.Table.length
  · rw [if_pos hk]
    by_cases h0 : b.Table.findIdx (isBeyond t) = 0
    · have e0 : (((b.Table.findIdx (isBeyond t) : Nat) : Int) == 0) = true := by rw [h0]; rfl
      simp only [Option.bind_some, e0, cond_true]
      unfold dueF
      rw [dif_neg (by omega), if_pos h0, show (0 : Int) = ((0 : Nat) : Int) from rfl, getI_nat (by omega), get_getD (d := ⟨0, 0⟩) (by omega)]
      rfl
    · have e0 : (((b.Table.findIdx (isBeyond t) : Nat) : Int) == 0) = false := by simp; omega
      have e1 : (((b.Table.findIdx (isBeyond t) : Nat) : Int) == -1) = false := by simp
      have wk : W (((b.Table.findIdx (isBeyond t) : Nat) : Int) - 1) = ((b.Table.findIdx (isBeyond t) - 1 : Nat) : Int) := by rw [W_id (by omega) (by omega)]; omega
      have hu := h.up (b.Table.findIdx (isBeyond t) - 1) (by omega)
      simp only [show b.Table.findIdx (isBeyond t) - 1 + 1 = b.Table.findIdx (isBeyond t) by omega] at hu
      have x1 := at_idx hk
      have x0 := ahead_idx (b := b) (t := t) (j := b.Table.findIdx (isBeyond t) - 1) (by omega) (by omega)
      have i0 := h.i (b.Table.findIdx (isBeyond t) - 1) (by omega)
      have i1 := h.i (b.Table.findIdx (isBeyond t)) hk
      have d0 := h.d (b.Table.findIdx (isBeyond t) - 1) (by omega)
      have d1 := h.d (b.Table.findIdx (isBeyond t)) hk
      have hs := seg_bd hu.1 hu.2 x0 x1
      have hm := mul_bd (a := b.Table[b.Table.findIdx (isBeyond t)].Due - b.Table[b.Table.findIdx (isBeyond t) - 1].Due) (b := t - b.Table[b.Table.findIdx (isBeyond t) - 1].Index) (A := 1000000) (B := 1000000) (by omega) (by omega) (by omega) (by omega)
      simp only [Option.bind_some, e0, e1, cond_false, wk]
      rw [getI_nat (by omega), getI_nat hk]
      simp only [Option.bind_some]
      rw [W_id (n := b.Table[b.Table.findIdx (isBeyond t)].Index - b.Table[b.Table.findIdx (isBeyond t) - 1].Index) (by omega) (by omega),
        W_id (n := b.Table[b.Table.findIdx (isBeyond t)].Due - b.Table[b.Table.findIdx (isBeyond t) - 1].Due) (by omega) (by omega),
        W_id (n := t - b.Table[b.Table.findIdx (isBeyond t) - 1].Index) (by omega) (by omega)]
      rw [W_id (n := (b.Table[b.Table.findIdx (isBeyond t)].Due - b.Table[b.Table.findIdx (isBeyond t) - 1].Due) * (t - b.Table[b.Table.findIdx (isBeyond t) - 1].Index)) (by omega) (by omega), tdiv_div hm.1]
      rw [W_id (n := (b.Table[b.Table.findIdx (isBeyond t)].Due - b.Table[b.Table.findIdx (isBeyond t) - 1].Due) * (t - b.Table[b.Table.findIdx (isBeyond t) - 1].Index) / (b.Table[b.Table.findIdx (isBeyond t)].Index - b.Table[b.Table.findIdx (isBeyond t) - 1].Index)) (by omega) (by omega), W_id (by omega) (by omega)]
      have hz : nz (b.Table[b.Table.findIdx (isBeyond t)].Index - b.Table[b.Table.findIdx (isBeyond t) - 1].Index) = some () := by unfold nz; rw [if_neg (by omega)]
      rw [hz]
      unfold dueF
      rw [dif_pos ⟨by omega, hk⟩]
      rfl
  · rw [if_neg hk]
    have wk : W (((b.Table.length : Nat) : Int) - 1) = ((b.Table.length - 1 : Nat) : Int) := by rw [W_id (by omega) (by omega)]; omega
    simp only [Option.bind_some, show ((-1 : Int) == 0) = false from rfl, show ((-1 : Int) == -1) = true from rfl, cond_true, cond_false, wk]
    rw [getI_nat (by omega)]
    unfold dueF
    rw [dif_neg (by omega), if_neg (by omega), get_getD (d := ⟨0, 0⟩) (by omega)]
    rfl

/-- A debt goes on by a year. -/
def nextD (b : share_Border) (d : Int) (t : share_Truth) (spill : Bool) : Int := cond spill 0 (max (0 - b.Credit) (d + dueF b.Table t.Index - t.Delivered))
def MapOk (T : List share_Point) (mp : Int → Option Int) : Prop := ∀ k v, mp k = some v → v = dueF T k
structure TOk (t : share_Truth) : Prop where
  i : 0 ≤ t.Index ∧ t.Index ≤ 1000000
  d : 0 ≤ t.Delivered ∧ t.Delivered ≤ 1000000
theorem goes_spec {N : Nat} (hN : 60 ≤ N) {b : share_Border} (h : BOk b) {t : share_Truth} (ht : TOk t) {spill : Bool} {mp : Int → Option Int} (hm : MapOk b.Table mp) {d : Int} (hd : d.natAbs ≤ 1000000000) :
    ∃ mp', share_Border_goes_1 N t spill mp b d = some (nextD b d t spill, mp', nextD b d t spill) ∧ MapOk b.Table mp' := by
  have hb := (due_bd h t.Index).2.2
  have hc := h.c
  have hti := ht.i
  have htd := ht.d
  have w1 : W (0 - b.Credit) = 0 - b.Credit := W_id (by omega) (by omega)
  have w2 : W (d + dueF b.Table t.Index) = d + dueF b.Table t.Index := W_id (by omega) (by omega)
  have w3 : W (d + dueF b.Table t.Index - t.Delivered) = d + dueF b.Table t.Index - t.Delivered := W_id (by omega) (by omega)
  have hj : ∀ mp', share_Border_goes_1_j3 N t spill b d (dueF b.Table t.Index) mp' = some (nextD b d t spill, mp', nextD b d t spill) := by
    intro mp'
    unfold share_Border_goes_1_j3 share_Border_goes_1_j5 nextD
    rw [w1, w2, w3]
    cases spill <;> rfl
  unfold share_Border_goes_1
  cases hmk : mp t.Index with
  | none =>
    refine ⟨setM mp t.Index (dueF b.Table t.Index), ?_, ?_⟩
    · simp only [Option.isSome_none, Bool.not_false, cond_true, due_spec hN h hti, Option.bind_some, hj]
    · intro k v hk
      unfold setM at hk
      by_cases hkt : k = t.Index
      · rw [if_pos hkt] at hk
        cases hk
        rw [hkt]
      · rw [if_neg hkt] at hk
        exact hm k v hk
  | some v =>
    refine ⟨mp, ?_, hm⟩
    have := hm _ _ hmk
    simp only [Option.isSome_some, Bool.not_true, cond_false, Option.getD_some, this, hj]

structure YOk (y : share_Year) : Prop where
  i : 0 ≤ y.Index.Lo ∧ y.Index.Lo ≤ y.Index.Hi ∧ y.Index.Hi ≤ 1000000
  d : 0 ≤ y.Delivered.Lo ∧ y.Delivered.Lo ≤ y.Delivered.Hi ∧ y.Delivered.Hi ≤ 1000000
def t0 : share_Truth := ⟨0, 0⟩
def y0 : share_Year := ⟨⟨0, 0⟩, ⟨0, 0⟩, false⟩
/-- The debts, year by year. -/
def debtS (b : share_Border) (years : List share_Year) (ts : Nat → share_Truth) (start : Int) : Nat → Int
  | 0 => start
  | n + 1 => nextD b (debtS b years ts start n) (ts n) (years.getD n y0).Spill
theorem debtS_bd {b : share_Border} (h : BOk b) {years : List share_Year} {ts : Nat → share_Truth} {start : Int} {B : Nat} (hs : start.natAbs ≤ B) : ∀ n, (∀ j, j < n → TOk (ts j)) → (debtS b years ts start n).natAbs ≤ B + 1000000 * (n + 1)
  | 0, _ => by unfold debtS; omega
  | n + 1, ht => by
    have ih := debtS_bd h (years := years) hs n (fun j hj => ht j (by omega))
    have hb := (due_bd h (ts n).Index).2.2
    have hc := h.c
    have htd := (ht n (by omega)).d
    rw [debtS]
    unfold nextD
    cases (years.getD n y0).Spill
    · rw [cond_false]; omega
    · rw [cond_true]; omega
theorem nextD_mono {b : share_Border} (h : BOk b) {d d' : Int} {t t' : share_Truth} {s : Bool} (hd : d ≤ d') (hi : t.Index ≤ t'.Index) (hv : t'.Delivered ≤ t.Delivered) : nextD b d t s ≤ nextD b d' t' s := by
  have := due_mono h hi
  unfold nextD
  cases s
  · rw [cond_false, cond_false]; omega
  · exact Int.le_refl _
theorem debtS_mono {b : share_Border} (h : BOk b) {years : List share_Year} {ts ts' : Nat → share_Truth} {s s' : Int} (hs : s ≤ s') : ∀ n, (∀ j, j < n → (ts j).Index ≤ (ts' j).Index ∧ (ts' j).Delivered ≤ (ts j).Delivered) → debtS b years ts s n ≤ debtS b years ts' s' n
  | 0, _ => hs
  | n + 1, ht => by
    rw [debtS, debtS]
    exact nextD_mono h (debtS_mono h hs n (fun j hj => ht j (by omega))) (ht n (by omega)).1 (ht n (by omega)).2

theorem everyPoint {N : Nat} {l : List share_Point} (hl : l.length ≤ 40) (hN : 60 ≤ N) (h : ∀ x ∈ l, share_every_share_Point_1 x = false) : share_every_share_Point N l = some true := by
  unfold share_every_share_Point slices_ContainsFunc_Lshare_Point_share_Point slices_IndexFunc_Lshare_Point_share_Point
  rcases indexLoop share_every_share_Point_1 l (by omega) (fun s4 => slices_IndexFunc_Lshare_Point_share_Point_b4 N l s4) (fun x => rfl) l.length 0 N (by omega) (by omega) with ⟨k, h1, h2, h3⟩ | ⟨h1, h2⟩
  · rw [List.drop_zero, List.any_eq_true] at h3
    obtain ⟨x, hx, hfx⟩ := h3
    rw [h x hx] at hfx
    cases hfx
  · rw [show ((0 : Nat) : Int) = 0 from rfl] at h1
    rw [h1]
    simp [exK]
theorem everyYear {N : Nat} {l : List share_Year} (hl : l.length ≤ 40) (hN : 60 ≤ N) (h : ∀ x ∈ l, share_every_share_Year_1 x = false) : share_every_share_Year N l = some true := by
  unfold share_every_share_Year slices_ContainsFunc_Lshare_Year_share_Year slices_IndexFunc_Lshare_Year_share_Year
  rcases indexLoop share_every_share_Year_1 l (by omega) (fun s4 => slices_IndexFunc_Lshare_Year_share_Year_b4 N l s4) (fun x => rfl) l.length 0 N (by omega) (by omega) with ⟨k, h1, h2, h3⟩ | ⟨h1, h2⟩
  · rw [List.drop_zero, List.any_eq_true] at h3
    obtain ⟨x, hx, hfx⟩ := h3
    rw [h x hx] at hfx
    cases hfx
  · rw [show ((0 : Nat) : Int) = 0 from rfl] at h1
    rw [h1]
    simp [exK]
theorem border_spec {N : Nat} (hN : 60 ≤ N) {b : share_Border} (h : BOk b) : share_CheckBorder N b = some 0 := by
  have hl := h.l2
  have hl' := h.l12
  have hc := h.c
  have h1 : share_in ((b.Table.length : Nat) : Int) 2 12 = true := by unfold share_in; simp; omega
  have h2 : share_water b.Credit = true := by unfold share_water share_in; simp; omega
  have h3 := everyPoint (N := N) (l := b.Table) (by omega) hN (by
    intro x hx
    obtain ⟨j, hj, rfl⟩ := List.getElem_of_mem hx
    have a := h.i j hj
    have c := h.d j hj
    unfold share_every_share_Point_1 share_CheckBorder_1 share_water share_in
    simp; omega)
  have h4 : subO b.Table 1 ((b.Table.length : Nat) : Int) = some (b.Table.drop 1) := by
    unfold subO
    rw [if_pos (by omega)]
    simp only [Int.toNat_one, Int.toNat_natCast]
    rw [List.take_of_length_le (by simp)]
  have hdl : (b.Table.drop 1).length = b.Table.length - 1 := by simp
  obtain ⟨x, h5, -⟩ := loopInv (fun s9 => share_CheckBorder_b9 N b (b.Table.drop 1) s9) (fun i s => s = (i : Int)) (b.Table.length - 1)
    (by
      rintro i x hi rfl
      refine ⟨((i + 1 : Nat) : Int), ?_, rfl⟩
      have hu := h.up i (by omega)
      unfold share_CheckBorder_b9
      have hlt : decide ((i : Int) < (((b.Table.drop 1).length : Nat) : Int)) = true := by rw [hdl]; simp; omega
      rw [hlt, getI_nat (by omega), W_succ (by omega), getI_nat (by omega)]
      have d1 : decide (b.Table[i + 1].Index ≤ (b.Table[i]'(by omega)).Index) = false := by simp only [decide_eq_false_iff_not]; omega
      have d2 : decide (b.Table[i + 1].Due < (b.Table[i]'(by omega)).Due) = false := by simp only [decide_eq_false_iff_not]; omega
      simp only [cond_true, Option.bind_some, d1, d2, Bool.or_false, cond_false])
    (by
      rintro x rfl
      unfold share_CheckBorder_b9
      rw [hdl, show decide (((b.Table.length - 1 : Nat) : Int) < ((b.Table.length - 1 : Nat) : Int)) = false by simp]
      rfl)
    (b.Table.length - 1) 0 0 N (by omega) (by omega) rfl
  unfold share_CheckBorder
  rw [h1, h3, h2]
  simp only [Bool.not_true, cond_false, Option.bind_some, Bool.or_false, h4]
  rw [h5]
  rfl
theorem asked_spec {N : Nat} (hN : 60 ≤ N) {b : share_Border} (h : BOk b) {lo hi : Int} (hs : -1000000000 ≤ lo ∧ lo ≤ hi ∧ hi ≤ 1000000000) {years : List share_Year} (hl : years.length ≤ 40) (hy : ∀ y ∈ years, YOk y) : share_asked N b ⟨lo, hi⟩ years = some 0 := by
  have h1 : share_in lo (-1000000000) hi = true := by unfold share_in; simp; omega
  have h2 : decide (1000000000 < hi) = false := by simp; omega
  have h3 : decide (40 < ((years.length : Nat) : Int)) = false := by simp; omega
  have h4 := everyYear (N := N) hl hN (by
    intro y hy'
    obtain ⟨a, c⟩ := hy y hy'
    unfold share_every_share_Year_1 share_asked_1 share_waters share_water share_in
    simp; omega)
  unfold share_asked
  rw [border_spec hN h]
  simp only [Option.bind_some, bne_self_eq_false, cond_false, h1, h2, h3, h4, Bool.not_true, Bool.or_false]
end Go.Nilo
