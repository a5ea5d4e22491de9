/-
  What the plain functions compute, in plain arithmetic, part 5. Conditions: what each theorem names.
-/
import Derived.Test.YtakhbnnlhoninaaGreatGlL4
set_option linter.unusedSimpArgs false
set_option linter.unusedVariables false
namespace Go.Nilo
structure VOk (l r : Int) (v : gauge_Vertical) : Prop where
 a : l < v.At
 b : v.At < r
 d : Spn v.Depth 2000
 d0 : 0 ≤ v.Depth.Lo
 s : Spn v.Speed 5000
structure GOk (g : gauge_Gauging) : Prop where
 l : 0 ≤ g.Left
 r : g.Right ≤ 10000
 n : 1 ≤ g.Verticals.length
 n' : g.Verticals.length ≤ 30
 v : ∀ v ∈ g.Verticals,VOk g.Left g.Right v
 up : ∀ i,(h : i + 1 < g.Verticals.length) → (g.Verticals[i]'(by omega)).At < g.Verticals[i + 1].At

theorem VOk.every {g : gauge_Gauging} (hg : 0 ≤ g.Left ∧ g.Right ≤ 10000) {v : gauge_Vertical} (h : VOk g.Left g.Right v) : gauge_every_gauge_Vertical_1 v g = false := by
 obtain ⟨h1,h2,⟨d1,d2,d3⟩,d0,⟨s1,s2,s3⟩⟩ := h
 have w1 : W (g.Left + 1) = g.Left + 1 := W_id (by omega) (by omega)
 have w2 : W (g.Right - 1) = g.Right - 1 := W_id (by omega) (by omega)
 unfold gauge_every_gauge_Vertical_1 gauge_Check_1 gauge_right gauge_in
 rw [w1,w2]
 simp; omega
theorem everyVertical {N : Nat} {g : gauge_Gauging} {l : List gauge_Vertical} (hl : l.length ≤ 1000000) (hN : l.length < N) : gauge_every_gauge_Vertical N l g = some (!(l.any fun v => gauge_every_gauge_Vertical_1 v g)) := by
 unfold gauge_every_gauge_Vertical slices_ContainsFunc_Lgauge_Vertical_gauge_Vertical slices_IndexFunc_Lgauge_Vertical_gauge_Vertical
 rcases indexLoop (fun v => gauge_every_gauge_Vertical_1 v g) l (by omega) (fun s4 => slices_IndexFunc_Lgauge_Vertical_gauge_Vertical_b4 N l g s4) (fun x => rfl) l.length 0 N (by omega) hN with ⟨k,h1,h2,h3⟩ | ⟨h1,h2⟩
 ·rw [List.drop_zero] at h3
  rw [show ((0 : Nat) : Int) = 0 from rfl] at h1
  rw [h1,h3]
  simp [exK,h2]
 ·rw [List.drop_zero] at h2
  rw [show ((0 : Nat) : Int) = 0 from rfl] at h1
  rw [h1,h2]
  simp [exK]
theorem getI_sub {α : Type} {l : List α} {i : Nat} (h : i < l.length) (h0 : 1 ≤ i) (hl : l.length ≤ 1000000) : getI l (W ((i : Int) - 1)) = some (l[i - 1]'(by omega)) := by
 rw [W_id (by omega) (by omega),show (i : Int) - 1 = ((i - 1 : Nat) : Int) by omega,getI_nat (by omega)]
theorem check_ok {N : Nat} (hN : 40 ≤ N) {g : gauge_Gauging} (h : GOk g) : gauge_Check N g = some 0 := by
 have hn := h.n
 have hn' := h.n'
 have hl := h.l
 have hr := h.r
 have h0 := h.v g.Verticals[0] (List.getElem_mem _)
 have hin : gauge_in ((g.Verticals.length : Nat) : Int) 1 30 = true := by unfold gauge_in; simp; omega
 have a0 := h0.a
 have b0 := h0.b
 have hsh : gauge_shore g.Left g.Right = true := by
  have w : W (g.Right - 1) = g.Right - 1 := W_id (by omega) (by omega)
  unfold gauge_shore gauge_in
  rw [w]
  simp; omega
 have hev : (g.Verticals.any fun v => gauge_every_gauge_Vertical_1 v g) = false := by
  rw [List.any_eq_false]
  intro v hv
  simp [(h.v v hv).every ⟨hl,hr⟩]
 have hri : gauge_rising N ((g.Verticals.length : Nat) : Int) g = some true := by
  unfold gauge_rising
  obtain ⟨s,h1,h2⟩ := loopInv (fun s4 => gauge_rising_b4 N ((g.Verticals.length : Nat) : Int) g s4) (fun i s => s = ((i + 1 : Nat) : Int)) (g.Verticals.length - 1)
   (by
    rintro i s hi rfl
    have hu := h.up i (by omega)
    refine ⟨((i + 1 + 1 : Nat) : Int),?_,rfl⟩
    unfold gauge_rising_b4 gauge_Check_2
    have hlt : decide (((i + 1 : Nat) : Int) < ((g.Verticals.length : Nat) : Int)) = true := by simp; omega
    rw [hlt,getI_nat (by omega),getI_sub (by omega) (by omega) (by omega),W_succ (by omega)]
    have hd : decide (g.Verticals[i + 1].At ≤ (g.Verticals[i]'(by omega)).At) = false := by simp; omega
    simp only [cond_true,Option.bind_some,Nat.add_sub_cancel,hd,cond_false])
   (by
    rintro s rfl
    unfold gauge_rising_b4
    have hlt : decide (((g.Verticals.length - 1 + 1 : Nat) : Int) < ((g.Verticals.length : Nat) : Int)) = false := by simp; omega
    rw [hlt]
    rfl)
   (g.Verticals.length - 1) 0 1 N (by omega) (by omega) (by simp)
  rw [h1]
  rfl
 unfold gauge_Check
 rw [hin,hsh,everyVertical (by omega) (by omega),hev,hri]
 rfl
def wd (g : gauge_Gauging) (i : Nat) : Int :=
 (if h : i + 1 < g.Verticals.length then g.Verticals[i + 1].At else g.Right) - (if h : 0 < i ∧ i - 1 < g.Verticals.length then (g.Verticals[i - 1]'h.2).At else g.Left)
theorem wd_bd {g : gauge_Gauging} (h : GOk g) {i : Nat} (hi : i < g.Verticals.length) : 0 ≤ wd g i ∧ wd g i ≤ 10000 := by
 have hv := h.v g.Verticals[i] (List.getElem_mem _)
 have hl := h.l
 have hr := h.r
 have a := hv.a
 have b := hv.b
 unfold wd
 split
 ·rename_i h1
  have hu := h.up i h1
  have hv1 := h.v g.Verticals[i + 1] (List.getElem_mem _)
  have a1 := hv1.a
  have b1 := hv1.b
  split
  ·rename_i h2
   have hu2 := h.up (i - 1) (by omega)
   have hv2 := h.v (g.Verticals[i - 1]'h2.2) (List.getElem_mem _)
   have a2 := hv2.a
   have b2 := hv2.b
   simp only [show i - 1 + 1 = i by omega] at hu2
   omega
  ·omega
 ·split
  ·rename_i h2
   have hv2 := h.v (g.Verticals[i - 1]'h2.2) (List.getElem_mem _)
   have a2 := hv2.a
   have b2 := hv2.b
   omega
  ·omega

theorem widths_inv {N : Nat} (hN : 40 ≤ N) {g : gauge_Gauging} (h : GOk g) {σ : Type} (y : σ → (gauge_Vertical × Int) → Option (σ × Bool)) (Inv : Nat → σ → Prop)
  (hstep : ∀ i s,(hi : i < g.Verticals.length) → Inv i s → ∃ s',y s (g.Verticals[i],wd g i) = some (s',true) ∧ Inv (i + 1) s') (s0 : σ) (h0 : Inv 0 s0) :
  ∃ s',gauge_Gauging_widths_1 N g y s0 = some s' ∧ Inv g.Verticals.length s' := by
 have hn' := h.n'
 obtain ⟨⟨x,s⟩,h1,rfl,h2⟩ := loopInv (fun s3 => gauge_Gauging_widths_1_b3 N g y s3.1 s3.2) (fun i s => s.1 = (i : Int) ∧ Inv i s.2) g.Verticals.length
  (by
   rintro i ⟨x,s⟩ hi ⟨rfl,hs⟩
   dsimp only at hs ⊢
   obtain ⟨s',h3,h4⟩ := hstep i s hi hs
   refine ⟨(((i + 1 : Nat) : Int),s'),?_,rfl,h4⟩
   have hb := wd_bd h hi
   have hlt : decide ((i : Int) < ((g.Verticals.length : Nat) : Int)) = true := by simp; omega
   have hw : W (wd g i) = wd g i := W_id (by omega) (by omega)
   unfold gauge_Gauging_widths_1_b3
   rw [hlt,getI_nat hi]
   simp only [cond_true,Option.bind_some]
   unfold gauge_Gauging_widths_1_j9 gauge_Gauging_widths_1_j10
   rw [W_succ (by omega)]
   unfold wd at hw h3
   by_cases hi0 : 0 < i
   ·have hd : decide (0 < (i : Int)) = true := by simp; omega
    rw [hd,getI_sub hi (by omega) (by omega)]
    rw [dif_pos (show 0 < i ∧ i - 1 < g.Verticals.length by omega)] at hw h3
    simp only [cond_true,Option.bind_some]
    by_cases h5 : i + 1 < g.Verticals.length
    ·have hd2 : decide (((i + 1 : Nat) : Int) < ((g.Verticals.length : Nat) : Int)) = true := by simp; omega
     rw [dif_pos h5] at hw h3
     rw [hd2,getI_nat h5]
     simp only [cond_true,Option.bind_some,hw,h3,Bool.not_true,cond_false]
    ·have hd2 : decide (((i + 1 : Nat) : Int) < ((g.Verticals.length : Nat) : Int)) = false := by simp; omega
     rw [dif_neg h5] at hw h3
     rw [hd2]
     simp only [cond_false,Option.bind_some,hw,h3,Bool.not_true]
   ·have hd : decide (0 < (i : Int)) = false := by simp; omega
    rw [hd]
    rw [dif_neg (show ¬ (0 < i ∧ i - 1 < g.Verticals.length) by omega)] at hw h3
    simp only [cond_false]
    by_cases h5 : i + 1 < g.Verticals.length
    ·have hd2 : decide (((i + 1 : Nat) : Int) < ((g.Verticals.length : Nat) : Int)) = true := by simp; omega
     rw [dif_pos h5] at hw h3
     rw [hd2,getI_nat h5]
     simp only [cond_true,Option.bind_some,hw,h3,Bool.not_true,cond_false]
    ·have hd2 : decide (((i + 1 : Nat) : Int) < ((g.Verticals.length : Nat) : Int)) = false := by simp; omega
     rw [dif_neg h5] at hw h3
     rw [hd2]
     simp only [cond_false,Option.bind_some,hw,h3,Bool.not_true])
  (by
   rintro ⟨x,s⟩ ⟨rfl,-⟩
   dsimp only
   unfold gauge_Gauging_widths_1_b3
   simp)
  g.Verticals.length 0 (0,s0) N (by omega) (by omega) ⟨rfl,h0⟩
 refine ⟨s,?_,h2⟩
 unfold gauge_Gauging_widths_1
 rw [h1]
 rfl
end Go.Nilo
