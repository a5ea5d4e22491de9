/-
  What the plain functions compute, in plain arithmetic, part 11. Conditions: what each theorem names.
-/
import Derived.Test.YtbgjmnbgilddgaaMiL10
set_option linter.unusedSimpArgs false
set_option linter.unusedVariables false
namespace Go.Nilo
/-! ### Sites -/
structure StOk (s : gauge_Site) : Prop where
  l : 0 ≤ s.Left
  r : s.Right ≤ 10000
  lr : s.Left < s.Right
  g : 1 ≤ s.Gap ∧ s.Gap ≤ 10000
  t : 0 ≤ s.Step_ ∧ s.Step_ ≤ 2000
  n : s.Points.length ≤ 12
  p : ∀ i, i < s.Points.length → s.Left < (s.Points.getD i p0).At ∧ (s.Points.getD i p0).At < s.Right ∧ 0 ≤ (s.Points.getD i p0).Depth ∧ (s.Points.getD i p0).Depth ≤ 2000 ∧ 0 ≤ (s.Points.getD i p0).Cost ∧ (s.Points.getD i p0).Cost ≤ 1000
  up : ∀ i, i + 1 < s.Points.length → (s.Points.getD i p0).At < (s.Points.getD (i + 1) p0).At
theorem everyPoint {N : Nat} {g : gauge_Site} {l : List gauge_Point} (hl : l.length ≤ 1000000) (hN : l.length < N) : gauge_every_gauge_Point N l g = some (!(l.any fun v => gauge_every_gauge_Point_1 v g)) := by
  unfold gauge_every_gauge_Point slices_ContainsFunc_Lgauge_Point_gauge_Point slices_IndexFunc_Lgauge_Point_gauge_Point
  rcases indexLoop (fun v => gauge_every_gauge_Point_1 v g) l (by omega) (fun s4 => slices_IndexFunc_Lgauge_Point_gauge_Point_b4 N l g s4) (fun x => rfl) l.length 0 N (by omega) hN with ⟨k, h1, h2, h3⟩ | ⟨h1, h2⟩
  · rw [List.drop_zero] at h3
    rw [show ((0 : Nat) : Int) = 0 from rfl] at h1
    rw [h1, h3]
    simp [exK, h2]
  · rw [List.drop_zero] at h2
    rw [show ((0 : Nat) : Int) = 0 from rfl] at h1
    rw [h1, h2]
    simp [exK]
theorem getI_pt {s : gauge_Site} {i : Nat} (h : i < s.Points.length) : getI s.Points (i : Int) = some (s.Points.getD i p0) := by
  rw [getI_nat h, get_getD (d := p0) h]
theorem site_ok {N : Nat} (hN : 40 ≤ N) {s : gauge_Site} (h : StOk s) : gauge_CheckSite N s = some 0 := by
  have hl := h.l
  have hr := h.r
  have hlr := h.lr
  have hg := h.g
  have ht := h.t
  have hn := h.n
  have hsh : gauge_shore s.Left s.Right = true := by
    have w : W (s.Right - 1) = s.Right - 1 := W_id (by omega) (by omega)
    unfold gauge_shore gauge_in
    rw [w]
    simp; omega
  have hig : gauge_in s.Gap 1 10000 = true := by unfold gauge_in; simp; omega
  have hit : gauge_in s.Step_ 0 2000 = true := by unfold gauge_in; simp; omega
  have hev : (s.Points.any fun v => gauge_every_gauge_Point_1 v s) = false := by
    rw [List.any_eq_false]
    intro v hv
    obtain ⟨j, hj, rfl⟩ := List.getElem_of_mem hv
    have hp := h.p j hj
    rw [get_getD (d := p0) hj]
    generalize s.Points.getD j p0 = y at hp ⊢
    have w1 : W (s.Left + 1) = s.Left + 1 := W_id (by omega) (by omega)
    have w2 : W (s.Right - 1) = s.Right - 1 := W_id (by omega) (by omega)
    unfold gauge_every_gauge_Point_1 gauge_CheckSite_1 gauge_in
    rw [w1, w2]
    simp; omega
  have hri : gauge_rising_s2 N ((s.Points.length : Nat) : Int) s = some true := by
    unfold gauge_rising_s2
    by_cases h0 : s.Points.length = 0
    · have := runS (ρ := Bool) (fun i : Nat => (1 : Int)) 0 (fun s4 => gauge_rising_s2_b4 N ((s.Points.length : Nat) : Int) s s4) (fun i hi => by omega) (by
        show gauge_rising_s2_b4 N ((s.Points.length : Nat) : Int) s 1 = _
        unfold gauge_rising_s2_b4
        rw [decide_eq_false (by omega), cond_false]) 0 0 N (by omega) (by omega)
      rw [this]
      rfl
    · have := runS (ρ := Bool) (fun i : Nat => ((i + 1 : Nat) : Int)) (s.Points.length - 1) (fun s4 => gauge_rising_s2_b4 N ((s.Points.length : Nat) : Int) s s4) (fun i hi => by
        show gauge_rising_s2_b4 N ((s.Points.length : Nat) : Int) s ((i + 1 : Nat) : Int) = _
        have hu := h.up i (by omega)
        unfold gauge_rising_s2_b4 gauge_CheckSite_2
        rw [lt_dec (by omega), cond_true, getI_pt (by omega), W_id (n := ((i + 1 : Nat) : Int) - 1) (by omega) (by omega), show ((i + 1 : Nat) : Int) - 1 = (i : Int) by omega, getI_pt (by omega)]
        simp only [Option.bind_some]
        rw [decide_eq_false (by omega), cond_false, W_succ (by omega)]) (by
        show gauge_rising_s2_b4 N ((s.Points.length : Nat) : Int) s ((s.Points.length - 1 + 1 : Nat) : Int) = _
        unfold gauge_rising_s2_b4
        rw [show s.Points.length - 1 + 1 = s.Points.length by omega, ge_dec, cond_false]) (s.Points.length - 1) 0 N (by omega) (by omega)
      rw [show loopO (fun s4 => gauge_rising_s2_b4 N ((s.Points.length : Nat) : Int) s s4) N 1 = _ from this]
      rfl
  unfold gauge_CheckSite
  rw [decide_eq_false (by omega), cond_false, hsh, hig, hit, everyPoint (by omega) (by omega), hev]
  simp only [Bool.not_true, Bool.or_self, cond_false, Bool.not_false, Option.bind_some, hri]

/-! ### Stations and steps -/
def stA (s : gauge_Site) (i : Nat) : gauge_Point := if i = 0 then ⟨s.Left, 0, 0⟩ else if i = s.Points.length + 1 then ⟨s.Right, 0, 0⟩ else s.Points.getD (i - 1) p0
def sB (s : gauge_Site) (a b : Nat) : Bool := decide ((stA s b).At - (stA s a).At ≤ s.Gap) && decide (max ((stA s a).Depth - (stA s b).Depth) ((stA s b).Depth - (stA s a).Depth) ≤ s.Step_)
def wt (s : gauge_Site) (i : Nat) : Int := if 1 ≤ i ∧ i ≤ s.Points.length then 1 else 0
theorem stA_bd {s : gauge_Site} (h : StOk s) {i : Nat} (hi : i ≤ s.Points.length + 1) : 0 ≤ (stA s i).At ∧ (stA s i).At ≤ 10000 ∧ 0 ≤ (stA s i).Depth ∧ (stA s i).Depth ≤ 2000 ∧ 0 ≤ (stA s i).Cost ∧ (stA s i).Cost ≤ 1000 := by
  have hl := h.l
  have hr := h.r
  have hlr := h.lr
  unfold stA
  by_cases h0 : i = 0
  · rw [if_pos h0]; dsimp only; omega
  · rw [if_neg h0]
    by_cases h1 : i = s.Points.length + 1
    · rw [if_pos h1]; dsimp only; omega
    · rw [if_neg h1]
      have := h.p (i - 1) (by omega)
      omega
theorem station_spec {N : Nat} {w : gauge_work} (h : StOk w.Site) {i : Nat} (hi : i ≤ w.Site.Points.length + 1) : gauge_work_station N w (i : Int) = some (stA w.Site i) := by
  have hn := h.n
  unfold gauge_work_station stA
  rw [W_succ (by omega)]
  by_cases h0 : i = 0
  · subst h0; rfl
  · rw [if_neg h0, show ((i : Int) == 0) = false from by rw [beq_eq_false_iff_ne]; omega, cond_false]
    by_cases h1 : i = w.Site.Points.length + 1
    · rw [if_pos h1, ← h1, beq_self_eq_true, cond_true]
    · rw [if_neg h1, show ((i : Int) == ((w.Site.Points.length + 1 : Nat) : Int)) = false from by rw [beq_eq_false_iff_ne]; omega, cond_false, W_id (by omega) (by omega), show (i : Int) - 1 = ((i - 1 : Nat) : Int) by omega, getI_pt (by omega)]
      rfl
theorem steps_spec {N : Nat} {w : gauge_work} (h : StOk w.Site) {a b : Nat} (ha : a ≤ w.Site.Points.length + 1) (hb : b ≤ w.Site.Points.length + 1) : gauge_work_steps N w (a : Int) (b : Int) = some (sB w.Site a b) := by
  have h1 := stA_bd h ha
  have h2 := stA_bd h hb
  unfold gauge_work_steps sB
  rw [station_spec h ha, station_spec h hb, Option.bind_some, Option.bind_some, W_id (by omega) (by omega), W_id (by omega) (by omega), W_id (by omega) (by omega)]

/-! ### Ways -/
inductive Pth (s : gauge_Site) : Nat → Nat → Int → Int → Prop
  | nil {a : Nat} : a ≤ s.Points.length + 1 → Pth s a a 0 0
  | cons {a b d : Nat} {c p : Int} : a < b → b ≤ s.Points.length + 1 → sB s a b = true → Pth s b d c p → Pth s a d (c + (stA s b).Cost) (p + wt s b)
def lexle (c p c' p' : Int) : Prop := c < c' ∨ c = c' ∧ p ≤ p'
theorem wt_bd {s : gauge_Site} {i : Nat} : 0 ≤ wt s i ∧ wt s i ≤ 1 := by unfold wt; split <;> omega
theorem pth_bd {s : gauge_Site} (h : StOk s) {a d : Nat} {c p : Int} (w : Pth s a d c p) : a ≤ d ∧ d ≤ s.Points.length + 1 ∧ 0 ≤ c ∧ c ≤ 1000 * ((d : Int) - a) ∧ 0 ≤ p ∧ p ≤ (d : Int) - a := by
  induction w with
  | nil h => omega
  | cons h1 h2 h3 _ ih =>
    rename_i b _ _ _ _
    have := stA_bd h h2
    have := wt_bd (s := s) (i := b)
    omega
theorem pth_last {s : gauge_Site} {c p : Int} (w : Pth s (s.Points.length + 1) (s.Points.length + 1) c p) : c = 0 ∧ p = 0 := by
  generalize he : s.Points.length + 1 = e at w
  cases w with
  | nil h => exact ⟨rfl, rfl⟩
  | cons h1 h2 _ _ => omega
theorem pth_snoc {s : gauge_Site} {a b d : Nat} {c p : Int} (w : Pth s a b c p) (h1 : b < d) (h2 : d ≤ s.Points.length + 1) (h3 : sB s b d = true) : Pth s a d (c + (stA s d).Cost) (p + wt s d) := by
  induction w with
  | nil h =>
    exact Pth.cons h1 h2 h3 (Pth.nil h2)
  | cons g1 g2 g3 _ ih =>
    rename_i a b' _ c p _
    have := Pth.cons g1 g2 g3 (ih h1 h3)
    rw [show c + (stA s d).Cost + (stA s b').Cost = c + (stA s b').Cost + (stA s d).Cost by omega, show p + wt s d + wt s b' = p + wt s b' + wt s d by omega] at this
    exact this

/-! ### A site from the other bank -/
def mirP (s : gauge_Site) (v : gauge_Point) : gauge_Point := ⟨s.Left + s.Right - v.At, v.Depth, v.Cost⟩
def mirS (s : gauge_Site) : gauge_Site := ⟨s.Left, s.Right, s.Gap, s.Step_, s.Points.reverse.map (mirP s)⟩
theorem mirS_len {s : gauge_Site} : (mirS s).Points.length = s.Points.length := by simp [mirS]
theorem mirS_get {s : gauge_Site} {i : Nat} (hi : i < s.Points.length) : (mirS s).Points.getD i p0 = mirP s (s.Points.getD (s.Points.length - 1 - i) p0) := by
  have h1 : i < (mirS s).Points.length := by rw [mirS_len]; exact hi
  rw [← get_getD h1, ← get_getD (d := p0) (show s.Points.length - 1 - i < s.Points.length by omega)]
  simp [mirS]
theorem mirS_ok {s : gauge_Site} (h : StOk s) : StOk (mirS s) := by
  have hl := h.l
  have hr := h.r
  refine ⟨h.l, h.r, h.lr, h.g, h.t, by rw [mirS_len]; exact h.n, ?_, ?_⟩
  · intro i hi
    rw [mirS_len] at hi
    rw [mirS_get hi]
    have := h.p (s.Points.length - 1 - i) (by omega)
    show s.Left < s.Left + s.Right - _ ∧ s.Left + s.Right - _ < s.Right ∧ 0 ≤ (s.Points.getD _ p0).Depth ∧ (s.Points.getD _ p0).Depth ≤ 2000 ∧ 0 ≤ (s.Points.getD _ p0).Cost ∧ (s.Points.getD _ p0).Cost ≤ 1000
    omega
  · intro i hi
    rw [mirS_len] at hi
    rw [mirS_get (by omega), mirS_get (by omega)]
    have := h.up (s.Points.length - 1 - (i + 1)) (by omega)
    rw [show s.Points.length - 1 - (i + 1) + 1 = s.Points.length - 1 - i by omega] at this
    show s.Left + s.Right - _ < s.Left + s.Right - _
    omega
theorem mirS_st {s : gauge_Site} {i : Nat} (hi : i ≤ s.Points.length + 1) : stA (mirS s) (s.Points.length + 1 - i) = ⟨s.Left + s.Right - (stA s i).At, (stA s i).Depth, (stA s i).Cost⟩ := by
  unfold stA
  rw [mirS_len]
  by_cases h0 : i = 0
  · subst h0
    rw [if_neg (by omega), if_pos (by omega), if_pos rfl]
    show (⟨s.Right, 0, 0⟩ : gauge_Point) = ⟨s.Left + s.Right - s.Left, 0, 0⟩
    rw [show s.Left + s.Right - s.Left = s.Right by omega]
  · rw [if_neg h0]
    by_cases h1 : i = s.Points.length + 1
    · rw [if_pos (by omega), if_pos h1]
      show (⟨s.Left, 0, 0⟩ : gauge_Point) = ⟨s.Left + s.Right - s.Right, 0, 0⟩
      rw [show s.Left + s.Right - s.Right = s.Left by omega]
    · rw [if_neg (by omega), if_neg (by omega), if_neg h1, mirS_get (by omega), show s.Points.length - 1 - (s.Points.length + 1 - i - 1) = i - 1 by omega]
      rfl
theorem mirS_wt {s : gauge_Site} {i : Nat} (hi : i ≤ s.Points.length + 1) : wt (mirS s) (s.Points.length + 1 - i) = wt s i := by
  unfold wt
  rw [mirS_len]
  by_cases h : 1 ≤ i ∧ i ≤ s.Points.length
  · rw [if_pos h, if_pos (by omega)]
  · rw [if_neg h, if_neg (by omega)]
theorem mirS_step {s : gauge_Site} {a b : Nat} (ha : a ≤ s.Points.length + 1) (hb : b ≤ s.Points.length + 1) : sB (mirS s) (s.Points.length + 1 - b) (s.Points.length + 1 - a) = sB s a b := by
  unfold sB
  rw [mirS_st ha, mirS_st hb]
  congr 1
  · show decide (s.Left + s.Right - (stA s a).At - (s.Left + s.Right - (stA s b).At) ≤ s.Gap) = _
    rw [Bool.eq_iff_iff, decide_eq_true_eq, decide_eq_true_eq]
    omega
  · show decide (max ((stA s b).Depth - (stA s a).Depth) ((stA s a).Depth - (stA s b).Depth) ≤ s.Step_) = _
    rw [Int.max_comm]
theorem mir_pth {s : gauge_Site} {a d : Nat} {c p : Int} (w : Pth s a d c p) : Pth (mirS s) (s.Points.length + 1 - d) (s.Points.length + 1 - a) (c + (stA s a).Cost - (stA s d).Cost) (p + wt s a - wt s d) := by
  induction w with
  | nil h =>
    rename_i a
    rw [show (0 : Int) + (stA s a).Cost - (stA s a).Cost = 0 by omega, show (0 : Int) + wt s a - wt s a = 0 by omega]
    exact Pth.nil (by rw [mirS_len]; omega)
  | cons h1 h2 h3 w ih =>
    rename_i a b d c p
    have hm := mirS_step (s := s) (a := a) (b := b) (by omega) h2
    have := pth_snoc ih (d := s.Points.length + 1 - a) (by omega) (by rw [mirS_len]; omega) (by rw [hm]; exact h3)
    rw [mirS_st (by omega), mirS_wt (by omega)] at this
    dsimp only at this
    rw [show c + (stA s b).Cost - (stA s d).Cost + (stA s a).Cost = c + (stA s b).Cost + (stA s a).Cost - (stA s d).Cost by omega, show p + wt s b - wt s d + wt s a = p + wt s b + wt s a - wt s d by omega] at this
    exact this
theorem mir_way {s : gauge_Site} {c p : Int} (w : Pth s 0 (s.Points.length + 1) c p) : Pth (mirS s) 0 (s.Points.length + 1) c p := by
  have := mir_pth w
  have e0 : (stA s 0).Cost = 0 := rfl
  have e1 : (stA s (s.Points.length + 1)).Cost = 0 := by unfold stA; rw [if_neg (by omega), if_pos rfl]
  have f0 : wt s 0 = 0 := by unfold wt; rw [if_neg (by omega)]
  have f1 : wt s (s.Points.length + 1) = 0 := by unfold wt; rw [if_neg (by omega)]
  rw [e0, e1, f0, f1, Nat.sub_self, Nat.sub_zero] at this
  rw [show c + 0 - 0 = c by omega, show p + 0 - 0 = p by omega] at this
  exact this
theorem mirS_mirS {s : gauge_Site} : mirS (mirS s) = s := by
  unfold mirS mirP
  cases s with
  | mk l r g t ps =>
    simp only [gauge_Site.mk.injEq, true_and]
    rw [← List.map_reverse, List.reverse_reverse, List.map_map]
    conv => rhs; rw [← List.map_id ps]
    refine List.map_congr_left fun x _ => ?_
    cases x
    simp
    omega
end Go.Nilo
