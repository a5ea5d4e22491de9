/-
  What the plain functions compute, in plain arithmetic, part 19. Conditions: what each theorem names.
-/
import Derived.Test.YtepopogbmjfpeaaMeL18
set_option linter.unusedSimpArgs false
set_option linter.unusedVariables false
namespace Go.Nilo
def gOf (at_ : Int) (s : api_Span) : shift_Gauging := ⟨1, at_, ⟨max 0 s.Lo, min s.Hi 1000000000⟩⟩
theorem pass_one {N : Nat} (hN : 700 ≤ N) {l : List shift_Mark} (hl : ROk l) {at_ now F : Int} (hat : 0 ≤ at_ ∧ at_ ≤ 100) (hnow : -20 ≤ now ∧ now ≤ 20) (hmean : mean l (at_ - now) = ⟨F, 1⟩) {s : api_Span} (h0 : 0 ≤ F) (h1 : s.Lo ≤ F) (h2 : F ≤ s.Hi) (h3 : s.Hi ≤ 1000000000) :
    shift_Passes N ⟨l, [gOf at_ s]⟩ = some ([pspan l (gOf at_ s)], 0) ∧ spanOk (pspan l (gOf at_ s)) = true ∧ (pspan l (gOf at_ s)).Lo ≤ now ∧ now ≤ (pspan l (gOf at_ s)).Hi := by
  have hp : passP l (gOf at_ s) now = true := by
    unfold passP gOf
    dsimp only
    rw [hmean, Bool.and_eq_true, decide_eq_true_eq, decide_eq_true_eq]
    dsimp only
    omega
  obtain ⟨p1, p2, p3⟩ := pspan_in hp (by omega) (by omega)
  have hr : RecOk ⟨l, [gOf at_ s]⟩ := by
    refine ⟨hl, by simp, by simp, fun g hg => ?_, fun i hi => by simp at hi⟩
    simp only [List.mem_singleton] at hg
    subst hg
    unfold gOf
    exact ⟨⟨by dsimp only; omega, by dsimp only; omega⟩, ⟨by dsimp only; omega, by dsimp only; omega⟩, by dsimp only; omega, by dsimp only; omega, by dsimp only; omega⟩
  have hall : (passes ⟨l, [gOf at_ s]⟩).all spanOk = true := by
    show ([pspan l (gOf at_ s)]).all spanOk = true
    rw [List.all_cons, p1]
    rfl
  exact ⟨Passes_ok hN hr hall, p1, p2, p3⟩
theorem meas_j21 {N : Nat} (hN : 700 ≤ N) {l : List shift_Mark} (hl : ROk l) {by_ stage F : Int} (hby : 0 ≤ by_ ∧ by_ ≤ 255) (hst : 0 ≤ stage ∧ stage ≤ 255) (hmean : mean l (stage % 60 - (by_ % 40 - 20)) = ⟨F, 1⟩) {a b : api_Span} (h0 : 0 ≤ F) (h1 : a.Lo ≤ b.Lo) (h2 : b.Lo ≤ F) (h3 : F ≤ b.Hi) (h4 : b.Hi ≤ a.Hi) (h5 : a.Hi ≤ 1000000000) :
    law05_ShiftMeasured_j21 N by_ stage (a, 0) (b, 0) l = some true := by
  have es : (W stage).tmod 60 = stage % 60 := by rw [W_sm (by omega) (by omega), tmod_mod hst.1]
  have eb : W (((W by_).tmod 40) - 20) = by_ % 40 - 20 := by rw [W_sm (n := by_) (by omega) (by omega), tmod_mod hby.1, W_sm (by omega) (by omega)]
  obtain ⟨a1, a2, a3, a4⟩ := pass_one hN hl (at_ := stage % 60) (now := by_ % 40 - 20) (by omega) (by omega) hmean (s := a) h0 (by omega) (by omega) h5
  obtain ⟨b1, b2, b3, b4⟩ := pass_one hN hl (at_ := stage % 60) (now := by_ % 40 - 20) (by omega) (by omega) hmean (s := b) h0 h2 h3 (by omega)
  obtain ⟨-, w1, w2⟩ := pspan_wide hl (g := gOf (stage % 60) b) (g' := gOf (stage % 60) a) rfl (by unfold gOf; dsimp only; omega) (by unfold gOf; dsimp only; omega) b2
  have hstep : ∀ (s : api_Span) (sp : List api_Span) (i : Nat), i < 2 → sp.length ≤ 2 → getI [a, b] (i : Int) = some s → shift_Passes N ⟨l, [gOf (stage % 60) s]⟩ = some ([pspan l (gOf (stage % 60) s)], 0) → (pspan l (gOf (stage % 60) s)).Lo ≤ by_ % 40 - 20 → by_ % 40 - 20 ≤ (pspan l (gOf (stage % 60) s)).Hi →
      law05_ShiftMeasured_b25 N by_ stage (a, 0) (b, 0) l sp (i : Int) = some (.cont (sp ++ [pspan l (gOf (stage % 60) s)], ((i + 1 : Nat) : Int))) := fun s sp i hi hsp hg hp hlo hhi => by
    unfold law05_ShiftMeasured_b25
    show cond (decide ((i : Int) < 2)) (Option.bind (getI [a, b] (i : Int)) _) _ = _
    rw [dT (by omega), cond_true, hg, Option.bind_some, show law05_span N (max 0 s.Lo) (min s.Hi 1000000000) = some ⟨max 0 s.Lo, min s.Hi 1000000000⟩ from rfl, Option.bind_some, es]
    show Option.bind (shift_Passes N ⟨l, [gOf (stage % 60) s]⟩) _ = _
    rw [hp, Option.bind_some, eb]
    generalize pspan l (gOf (stage % 60) s) = p at *
    show Option.bind (cond (((0 : Int) != 0) || (((1 : Nat) : Int) != 1)) (some true) (some (decide (by_ % 40 - 20 < p.Lo)))) (fun t_3 => Option.bind (cond t_3 (some true) (some (decide (p.Hi < by_ % 40 - 20)))) _) = _
    rw [dF (by omega), dF (by omega), W_succ (by omega)]
    show Option.bind (room (sp ++ [p]).length) _ = _
    rw [room_ok (by simp; omega), Option.bind_some]
  unfold law05_ShiftMeasured_j21
  have := runS (ρ := Bool) (fun i : Nat => ((([pspan l (gOf (stage % 60) a), pspan l (gOf (stage % 60) b)].take i, (i : Int)) : List api_Span × Int))) 2 (fun s25 : List api_Span × Int => law05_ShiftMeasured_b25 N by_ stage (a, 0) (b, 0) l s25.1 s25.2) (fun i hi => by
    rcases (show i = 0 ∨ i = 1 by omega) with rfl | rfl
    · exact hstep a [] 0 (by omega) (by simp) rfl a1 a3 a4
    · exact hstep b [pspan l (gOf (stage % 60) a)] 1 (by omega) (by simp) rfl b1 b3 b4) (by
    show law05_ShiftMeasured_b25 N by_ stage (a, 0) (b, 0) l _ ((2 : Nat) : Int) = _
    unfold law05_ShiftMeasured_b25
    rfl) (N := N) (by omega)
  show Option.bind (loopO (fun s25 : List api_Span × Int => law05_ShiftMeasured_b25 N by_ stage (a, 0) (b, 0) l s25.1 s25.2) N ([pspan l (gOf (stage % 60) a), pspan l (gOf (stage % 60) b)].take 0, ((0 : Nat) : Int))) _ = _
  rw [this, Option.bind_some]
  generalize pspan l (gOf (stage % 60) a) = p at *
  generalize pspan l (gOf (stage % 60) b) = q at *
  show Option.bind (some q) (fun e_1 => Option.bind (some p) fun e_2 => Option.bind (cond (decide (e_2.Lo ≤ e_1.Lo)) (Option.bind (some q) fun e_3 => Option.bind (some p) fun e_4 => some (decide (e_3.Hi ≤ e_4.Hi))) (some false)) fun t_1 => Option.bind (cond t_1 (Option.bind (law05_awake N) fun r_9 => some r_9) (some false)) fun t_2 => some t_2) = _
  simp only [Option.bind_some]
  rw [dT w1, dT w2, awake_true hN]
  rfl
theorem rok_two {A F : Int} (hA : -100 ≤ A ∧ A ≤ 100) (hF : 0 ≤ F ∧ F ≤ 900000000) : ROk [⟨A, F⟩, ⟨A + 50, F + 100000⟩] := by
  refine ⟨by simp, by simp, fun i hi => ?_, fun i hi => ?_, fun i hi => ?_, fun i hi => ?_⟩
  · have hi' : i < 2 := hi
    rcases (show i = 0 ∨ i = 1 by omega) with rfl | rfl
    · show -2000 ≤ A ∧ A ≤ 2000
      omega
    · show -2000 ≤ A + 50 ∧ A + 50 ≤ 2000
      omega
  · have hi' : i < 2 := hi
    rcases (show i = 0 ∨ i = 1 by omega) with rfl | rfl
    · show 0 ≤ F ∧ F ≤ 1000000000
      omega
    · show 0 ≤ F + 100000 ∧ F + 100000 ≤ 1000000000
      omega
  · have hi' : i + 1 < 2 := hi
    obtain rfl : i = 0 := by omega
    show A < A + 50
    omega
  · have hi' : i + 1 < 2 := hi
    obtain rfl : i = 0 := by omega
    show F < F + 100000
    omega
theorem rok_three {A F G : Int} (hA : -100 ≤ A ∧ A ≤ 100) (hF : 0 ≤ F ∧ F ≤ 900000000) (hG : 0 ≤ G ∧ G < F) : ROk [⟨A - 50, G⟩, ⟨A, F⟩, ⟨A + 50, F + 100000⟩] := by
  refine ⟨by simp, by simp, fun i hi => ?_, fun i hi => ?_, fun i hi => ?_, fun i hi => ?_⟩
  · have hi' : i < 3 := hi
    rcases (show i = 0 ∨ i = 1 ∨ i = 2 by omega) with rfl | rfl | rfl
    · show -2000 ≤ A - 50 ∧ A - 50 ≤ 2000
      omega
    · show -2000 ≤ A ∧ A ≤ 2000
      omega
    · show -2000 ≤ A + 50 ∧ A + 50 ≤ 2000
      omega
  · have hi' : i < 3 := hi
    rcases (show i = 0 ∨ i = 1 ∨ i = 2 by omega) with rfl | rfl | rfl
    · show 0 ≤ G ∧ G ≤ 1000000000
      omega
    · show 0 ≤ F ∧ F ≤ 1000000000
      omega
    · show 0 ≤ F + 100000 ∧ F + 100000 ≤ 1000000000
      omega
  · have hi' : i + 1 < 3 := hi
    rcases (show i = 0 ∨ i = 1 by omega) with rfl | rfl
    · show A - 50 < A
      omega
    · show A < A + 50
      omega
  · have hi' : i + 1 < 3 := hi
    rcases (show i = 0 ∨ i = 1 by omega) with rfl | rfl
    · show G < F
      omega
    · show F < F + 100000
      omega
theorem measured_law {N : Nat} (hN : 700 ≤ N) {numbers errors better : List Int} (hn : Bytes numbers) (he : Bytes errors) (hb : Bytes better) {by_ stage : Int} (hby : 0 ≤ by_ ∧ by_ ≤ 255) (hst : 0 ≤ stage ∧ stage ≤ 255) : law05_ShiftMeasured N numbers errors better by_ stage = some true := by
  have s0 : SOk 0 0 0 := ⟨by decide, by decide, by decide, by decide⟩
  obtain ⟨r, n, u1, m1, e1, hr, n1, n6, t1⟩ := section_spec (N := N) (by omega) hn s0 (by omega) (most := 6) (by omega)
  obtain ⟨z, sp, e2, spl, spg⟩ := b6_loop (N := N) (by omega) (r := (r, u1, m1)) (n := n) (by omega) hr.sl
  have hr' : RvOk ⟨r.Left, r.Right, r.At, r.Depth, sp⟩ n := ⟨hr.al, hr.dl, spl, hr.l0, hr.r1, hr.w, hr.a, hr.up, hr.d, fun j hj => by
    have := hr.s j hj
    have e : sp.getD j 0 = max 0 (r.Speeds.getD j 0) := spg j hj
    show -40 ≤ sp.getD j 0 ∧ sp.getD j 0 ≤ 400
    rw [e]
    omega⟩
  obtain ⟨g, u2, m2, e3, hg, gl, gr, hV, hT, t2⟩ := gauged_spec (N := N) (by omega) he s0 (by omega) hr' n1 (by omega)
  have hT' : TrueOf g r.Depth sp := hT
  have gn : g.Verticals.length = n := hV.l
  have e4 : law03_CopyGauging N g = some g := by
    unfold law03_CopyGauging kit_Copy_gauge_Vertical
    rw [room_ok (by omega)]
    rfl
  obtain ⟨xs, i, u3, m3, e5, hF, hX⟩ := b12_loop (N := N) (by omega) hg (r := (r, u1, m1)) hT' hb s0 (by omega)
  have e6 := real_spec (N := N) (by omega) hg hT'
  have e7 := flow_spec (N := N) (by omega) hg
  have hgx := fine_ok hg hF
  have e8 := flow_spec (N := N) (by omega) hgx
  have f1 := flow_sub hF
  have f2 := real_in_flow hX
  have hxl : xs.length = g.Verticals.length := hF.l
  have hreal : realSum ⟨g.Left, g.Right, xs⟩ r.Depth sp xs.length = realSum g r.Depth sp g.Verticals.length := by
    unfold realSum
    rw [hxl]
    refine sumBy_congr fun j hj => ?_
    unfold realAt
    rw [fine_wd hF (List.mem_range.1 hj)]
  have f3 : 0 ≤ realSum g r.Depth sp g.Verticals.length := by
    unfold realSum
    have : sumBy (fun _ => (0 : Int)) (List.range g.Verticals.length) ≤ sumBy (realAt g r.Depth sp) (List.range g.Verticals.length) := sumBy_le fun j hj => by
      have hj' := List.mem_range.1 hj
      have hw := wd_bd hg hj'
      have hd := hr.d j (by omega)
      have e : sp.getD j 0 = max 0 (r.Speeds.getD j 0) := spg j (by omega)
      unfold realAt
      rw [e]
      exact Int.mul_nonneg (Int.mul_nonneg hw.1 hd.1) (by omega)
    have e : sumBy (fun _ => (0 : Int)) (List.range g.Verticals.length) = 0 := by
      unfold sumBy
      generalize List.range g.Verticals.length = l
      induction l with
      | nil => rfl
      | cons x l ih => simpa using ih
    omega
  have f4 : sumBy (·.Hi) (pans g) ≤ 500000000 := by
    have : sumBy (·.Hi) (pans g) ≤ ((pans g).length : Int) * 81496800 := sum_le _ fun s hs => by
      unfold pans at hs
      obtain ⟨j, hj, rfl⟩ := List.mem_map.1 hs
      have hj' := List.mem_range.1 hj
      have hw := wd_bd hg hj'
      have hw2 := wd_bd2 hg hj'
      have hrw := hr.w
      have hv := hg.v (g.Verticals.getD j v0) (by rw [← get_getD hj']; exact List.getElem_mem _)
      obtain ⟨-, -, -, p4, -, -, -, p8, p9, p10⟩ := hV.v j (by omega)
      have q1 := hv.d.le
      have q2 := hv.s.le
      have g1 : g.Left = r.Left := gl
      have g2 : g.Right = r.Right := gr
      exact pan_hi ⟨hw.1, by omega⟩ ⟨p4, q1, p8⟩ ⟨p9, q2, p10⟩
    rw [pans_len] at this
    omega
  have f5 : sumBy (·.Lo) (pans ⟨g.Left, g.Right, xs⟩) ≤ realSum g r.Depth sp g.Verticals.length ∧ realSum g r.Depth sp g.Verticals.length ≤ sumBy (·.Hi) (pans ⟨g.Left, g.Right, xs⟩) := by
    rw [← hreal]
    exact f2
  unfold law05_ShiftMeasured
  rw [show kit_New N numbers = some (0, 0) from rfl, Option.bind_some]
  show Option.bind (law03_Section N ⟨numbers, 0, 0⟩ 6) _ = _
  rw [e1, Option.bind_some, show kit_New N errors = some (0, 0) from rfl, Option.bind_some]
  show Option.bind (loopO (fun s6 : Int × List Int => law05_ShiftMeasured_b6 N (r, u1, m1) s6.1 s6.2) N (0, r.Speeds)) _ = _
  rw [e2, Option.bind_some]
  show Option.bind (law03_Gauged N ⟨errors, 0, 0⟩ ⟨r.Left, r.Right, r.At, r.Depth, sp⟩) _ = _
  rw [e3, Option.bind_some, show kit_New N better = some (0, 0) from rfl, Option.bind_some]
  show Option.bind (law03_CopyGauging N g) _ = _
  rw [e4, Option.bind_some]
  show Option.bind (loopO (fun s12 : Int × Int × Int × List gauge_Vertical => law05_ShiftMeasured_b12 N better (r, u1, m1) g s12.1 s12.2.1 s12.2.2.1 s12.2.2.2) N (0, 0, 0, g.Verticals)) _ = _
  rw [e5, Option.bind_some]
  show Option.bind (gauge_Real N g r.Depth sp) (fun r_6 => Option.bind (gauge_Flow N g) fun r_7 => Option.bind (gauge_Flow N ⟨g.Left, g.Right, xs⟩) _) = _
  rw [e6, Option.bind_some, e7, Option.bind_some, e8, Option.bind_some]
  generalize realSum g r.Depth sp g.Verticals.length = F at *
  have f1a := f1.1
  have f1b := f1.2
  have f5a := f5.1
  have f5b := f5.2
  have ea : (⟨sumBy (·.Lo) (pans g), sumBy (·.Hi) (pans g)⟩ : api_Span).Lo = sumBy (·.Lo) (pans g) := rfl
  generalize sumBy (fun x : api_Span => x.Lo) (pans g) = aLo at *
  generalize sumBy (fun x : api_Span => x.Hi) (pans g) = aHi at *
  generalize sumBy (fun x : api_Span => x.Lo) (pans ⟨g.Left, g.Right, xs⟩) = bLo at *
  generalize sumBy (fun x : api_Span => x.Hi) (pans ⟨g.Left, g.Right, xs⟩) = bHi at *
  have es : (W stage).tmod 60 = stage % 60 := by rw [W_sm (by omega) (by omega), tmod_mod hst.1]
  have eb : W (((W by_).tmod 40) - 20) = by_ % 40 - 20 := by rw [W_sm (n := by_) (by omega) (by omega), tmod_mod hby.1, W_sm (by omega) (by omega)]
  obtain ⟨A, hA⟩ : ∃ A, A = stage % 60 - (by_ % 40 - 20) := ⟨_, rfl⟩
  show cond ((((((0 : Int) != 0 || (0 : Int) != 0) || (0 : Int) != 0) || (decide (F < 0))) || (decide (aHi < aLo))) || (decide (bHi < bLo))) _ (cond (decide (0 < F)) (Option.bind (slices_Insert_Lshift_Mark_shift_Mark N [⟨W ((W stage).tmod 60 - W ((W by_).tmod 40 - 20)), F⟩, ⟨W (W ((W stage).tmod 60 - W ((W by_).tmod 40 - 20)) + 50), W (F + 100000)⟩] 0 [⟨W (W ((W stage).tmod 60 - W ((W by_).tmod 40 - 20)) - 50), W (F - min F 100000)⟩]) fun r_12 => law05_ShiftMeasured_j21 N by_ stage (⟨aLo, aHi⟩, 0) (⟨bLo, bHi⟩, 0) r_12) (law05_ShiftMeasured_j21 N by_ stage (⟨aLo, aHi⟩, 0) (⟨bLo, bHi⟩, 0) [⟨W ((W stage).tmod 60 - W ((W by_).tmod 40 - 20)), F⟩, ⟨W (W ((W stage).tmod 60 - W ((W by_).tmod 40 - 20)) + 50), W (F + 100000)⟩])) = _
  rw [dF (show ¬ F < 0 by omega), dF (show ¬ aHi < aLo by omega), dF (show ¬ bHi < bLo by omega), es, eb, ← hA, W_sm (n := A) (by omega) (by omega), W_sm (n := A + 50) (by omega) (by omega), W_sm (n := A - 50) (by omega) (by omega), W_sm (n := F + 100000) (by omega) (by omega), W_sm (n := F - min F 100000) (by omega) (by omega)]
  show cond (decide (0 < F)) _ _ = _
  by_cases hF0 : 0 < F
  · have hins : slices_Insert_Lshift_Mark_shift_Mark N [⟨A, F⟩, ⟨A + 50, F + 100000⟩] 0 [⟨A - 50, F - min F 100000⟩] = some [⟨A - 50, F - min F 100000⟩, ⟨A, F⟩, ⟨A + 50, F + 100000⟩] := rfl
    rw [dT hF0, cond_true, hins, Option.bind_some]
    have hl := rok_three (A := A) (F := F) (G := F - min F 100000) (by omega) (by omega) (by omega)
    have hm := mean_mark hl (i := 1) (by simp)
    exact meas_j21 hN hl hby hst (F := F) (by rw [← hA]; exact hm) (by omega) f1a f5a f5b f1b (by dsimp only; omega)
  · rw [dF hF0, cond_false]
    have hl := rok_two (A := A) (F := F) (by omega) (by omega)
    have hm := mean_mark hl (i := 0) (by simp)
    exact meas_j21 hN hl hby hst (F := F) (by rw [← hA]; exact hm) (by omega) f1a f5a f5b f1b (by dsimp only; omega)
end Go.Nilo
