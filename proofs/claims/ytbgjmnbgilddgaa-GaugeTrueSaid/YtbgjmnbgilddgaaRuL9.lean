/-
  What the plain functions compute, in plain arithmetic, part 9. Conditions: what each theorem names.
-/
import Derived.Test.YtbgjmnbgilddgaaRuL8
set_option linter.unusedSimpArgs false
set_option linter.unusedVariables false
namespace Go.Nilo
theorem gEta (g : gauge_Gauging) : (⟨g.Left, g.Right, g.Verticals⟩ : gauge_Gauging) = g := rfl
theorem real_in_flow {g : gauge_Gauging} {ds ss : List Int} (ht : TrueOf g ds ss) : sumBy (·.Lo) (pans g) ≤ realSum g ds ss g.Verticals.length ∧ realSum g ds ss g.Verticals.length ≤ sumBy (·.Hi) (pans g) := real_in ht _ (Nat.le_refl _)

theorem loop16 {N : Nat} (hN : 60 ≤ N) {g : gauge_Gauging} (h : GOk g) {tries : List Int} (ht : Bytes tries) {u m : Int} {k : Nat} (hs : SOk u m k) (hk : k ≤ 10000) {q : Int × Int} {z : Int} :
    ∃ u' m', loopO (fun s16 => law03_GaugeTrue_b16 N tries (g, q) (⟨sumBy (·.Lo) (pans g), sumBy (·.Hi) (pans g)⟩, z) s16.1 s16.2.1 s16.2.2.1 s16.2.2.2) N (0, g.Verticals, u, m) = some (.go (5, g.Verticals, u', m')) := by
  obtain ⟨⟨x, vs, u', m'⟩, h1, rfl, rfl, hS⟩ := loopInv (fun s16 => law03_GaugeTrue_b16 N tries (g, q) (⟨sumBy (·.Lo) (pans g), sumBy (·.Hi) (pans g)⟩, z) s16.1 s16.2.1 s16.2.2.1 s16.2.2.2)
    (fun i s => s.1 = (i : Int) ∧ s.2.1 = g.Verticals ∧ SOk s.2.2.1 s.2.2.2 (k + 60 * i)) 5
    (by
      rintro i ⟨x, vs, u', m'⟩ hi ⟨rfl, rfl, hS⟩
      dsimp only at hS ⊢
      obtain ⟨ds, ss, u1, m1, e1, hT, s1⟩ := loop53 hN h ht hS (by omega)
      have hr := real_spec (N := N) (by omega) h hT
      have hin := real_in_flow hT
      refine ⟨(((i + 1 : Nat) : Int), g.Verticals, u1, m1), ?_, rfl, rfl, s1⟩
      unfold law03_GaugeTrue_b16
      have hlt : decide ((i : Int) < 5) = true := by simp; omega
      rw [hlt]
      simp only [cond_true]
      rw [e1]
      simp only [Option.bind_some, exK, gEta, hr]
      have d1 : decide (realSum g ds ss g.Verticals.length < sumBy (·.Lo) (pans g)) = false := by simp only [decide_eq_false_iff_not]; omega
      have d2 : decide (sumBy (·.Hi) (pans g) < realSum g ds ss g.Verticals.length) = false := by simp only [decide_eq_false_iff_not]; omega
      rw [d1, d2, W_succ (by omega)]
      rfl)
    (by
      rintro ⟨x, vs, u', m'⟩ ⟨rfl, -⟩
      dsimp only
      unfold law03_GaugeTrue_b16
      simp)
    5 0 (0, g.Verticals, u, m) N (by omega) (by omega) ⟨rfl, rfl, hs⟩
  exact ⟨u', m', h1⟩

theorem loop19 {N : Nat} (hN : 60 ≤ N) {g : gauge_Gauging} (h : GOk g) {q : Int × Int} {z : Int} :
    loopO (fun s19 => law03_GaugeTrue_b19 N (g, q) (⟨sumBy (·.Lo) (pans g), sumBy (·.Hi) (pans g)⟩, z) s19.1 s19.2.1 s19.2.2) N (pans g, 0, g.Verticals) = some (.go (pans g, 2, g.Verticals)) := by
  have hb : ∀ e : Bool, gauge_Real N g (pickD e g g.Verticals.length) (pickS e g g.Verticals.length) = some (sumBy (pE e) (pans g), 0) := by
    intro e
    rw [real_spec (by omega) h (pick_true h), pick_real h]
  obtain ⟨⟨l, x, vs⟩, h1, rfl, rfl, rfl⟩ := loopInv (fun s19 => law03_GaugeTrue_b19 N (g, q) (⟨sumBy (·.Lo) (pans g), sumBy (·.Hi) (pans g)⟩, z) s19.1 s19.2.1 s19.2.2)
    (fun i s => s.1 = pans g ∧ s.2.1 = (i : Int) ∧ s.2.2 = g.Verticals) 2
    (by
      rintro i ⟨l, x, vs⟩ hi ⟨rfl, rfl, rfl⟩
      refine ⟨(pans g, ((i + 1 : Nat) : Int), g.Verticals), ?_, rfl, rfl, rfl⟩
      dsimp only
      unfold law03_GaugeTrue_b19
      have hlt : decide ((i : Int) < 2) = true := by simp; omega
      rw [hlt]
      simp only [cond_true]
      obtain rfl | rfl : i = 0 ∨ i = 1 := by omega
      · rw [show getI [false, true] ((0 : Nat) : Int) = some false from rfl]
        simp only [Option.bind_some, loop29 hN h, exK, gEta, hb, cond_false]
        unfold law03_GaugeTrue_j32
        have e1 : sumBy (pE false) (pans g) = sumBy (·.Lo) (pans g) := rfl
        rw [e1, W_succ (by omega)]
        simp
      · rw [show getI [false, true] ((1 : Nat) : Int) = some true from rfl]
        simp only [Option.bind_some, loop29 hN h, exK, gEta, hb, cond_true]
        unfold law03_GaugeTrue_j32
        have e1 : sumBy (pE true) (pans g) = sumBy (·.Hi) (pans g) := rfl
        rw [e1, W_succ (by omega)]
        simp)
    (by
      rintro ⟨l, x, vs⟩ ⟨rfl, rfl, rfl⟩
      dsimp only
      unfold law03_GaugeTrue_b19
      simp)
    2 0 (pans g, 0, g.Verticals) N (by omega) (by omega) ⟨rfl, rfl, rfl⟩
  exact h1

theorem true_true {numbers errors tries : List Int} (hn : Bytes numbers) (he : Bytes errors) (ht : Bytes tries) : law03_GaugeTrue 60 numbers errors tries = some true := by
  have s0 : SOk 0 0 0 := ⟨by omega, by omega, by omega, by omega⟩
  obtain ⟨r, n, u1, m1, e1, hr, n1, n2, -⟩ := section_spec (N := 60) (by omega) hn s0 (by omega) (most := 12) (by omega)
  obtain ⟨g, u2, m2, e2, hg, -, -, hV, hT, -⟩ := gauged_spec (N := 60) (by omega) he s0 (by omega) hr n1 (by omega)
  have hf := flow_spec (N := 60) (by omega) hg
  have hp := panels_spec (N := 60) (by omega) hg
  have hR := real_spec (N := 60) (by omega) hg hT
  have hin := real_in_flow hT
  obtain ⟨u3, m3, h16⟩ := loop16 (N := 60) (by omega) hg ht s0 (by omega) (q := (u2, m2)) (z := 0)
  have h19 := loop19 (N := 60) (by omega) hg (q := (u2, m2)) (z := 0)
  unfold law03_GaugeTrue kit_New
  simp only [Option.bind_some, e1, e2, hf, hp]
  have hl : (((pans g).length : Nat) : Int) = ((r.At.length : Nat) : Int) := by rw [pans_len, hV.l, hr.al]
  rw [hl]
  simp only [bne_self_eq_false, Bool.or_false, cond_false, hR, Option.bind_some]
  have d1 : decide (realSum g r.Depth r.Speeds g.Verticals.length < sumBy (·.Lo) (pans g)) = false := by simp only [decide_eq_false_iff_not]; omega
  have d2 : decide (sumBy (·.Hi) (pans g) < realSum g r.Depth r.Speeds g.Verticals.length) = false := by simp only [decide_eq_false_iff_not]; omega
  rw [d1, d2]
  simp only [Bool.or_false, cond_false]
  rw [h16]
  simp only [Option.bind_some, exK]
  rw [h19]
  simp only [Option.bind_some, exK, awake_true]
end Go.Nilo
