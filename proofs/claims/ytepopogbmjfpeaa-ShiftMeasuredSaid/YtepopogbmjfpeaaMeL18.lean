/-
  What the plain functions compute, in plain arithmetic, part 18. Conditions: what each theorem names.
-/
import Derived.Test.YtepopogbmjfpeaaMeL17
set_option linter.unusedSimpArgs false
set_option linter.unusedVariables false
namespace Go.Nilo
theorem SOk.mono {u m : Int} {k k' : Nat} (h : SOk u m k) (hk : k ≤ k') : SOk u m k' := ⟨h.u0, by have := h.u1; omega, h.m0, h.m1⟩
theorem wd_bd2 {g : gauge_Gauging} (h : GOk g) {i : Nat} (hi : i < g.Verticals.length) : wd g i ≤ g.Right - g.Left := by
  have hv := h.v g.Verticals[i] (List.getElem_mem _)
  have a := hv.a
  have b := hv.b
  unfold wd
  split
  · rename_i h1
    have hv1 := h.v g.Verticals[i + 1] (List.getElem_mem _)
    have a1 := hv1.a
    have b1 := hv1.b
    split
    · rename_i h2
      have hv2 := h.v (g.Verticals[i - 1]'h2.2) (List.getElem_mem _)
      have a2 := hv2.a
      have b2 := hv2.b
      omega
    · omega
  · split
    · rename_i h2
      have hv2 := h.v (g.Verticals[i - 1]'h2.2) (List.getElem_mem _)
      have a2 := hv2.a
      have b2 := hv2.b
      omega
    · omega
theorem pan_hi {w : Int} {v : gauge_Vertical} (hw : 0 ≤ w ∧ w ≤ 630) (hd : 0 ≤ v.Depth.Lo ∧ v.Depth.Lo ≤ v.Depth.Hi ∧ v.Depth.Hi ≤ 308) (hs : -420 ≤ v.Speed.Lo ∧ v.Speed.Lo ≤ v.Speed.Hi ∧ v.Speed.Hi ≤ 420) : (pan v w).Hi ≤ 81496800 := by
  have h1 := mn_le (a := ⟨w, w⟩) (b := v.Depth) (A := 630) (B := 308) ⟨Int.le_refl _, by dsimp only; omega, by dsimp only; omega⟩ ⟨hd.2.1, by omega, by omega⟩
  have s1 : Spn ⟨mn ⟨w, w⟩ v.Depth, mx ⟨w, w⟩ v.Depth⟩ 194040 := ⟨h1.2.2, h1.1, h1.2.1⟩
  have h2 := mn_le (b := v.Speed) (B := 420) s1 ⟨hs.2.1, by omega, by omega⟩
  unfold pan
  dsimp only
  omega
theorem sum_le {α : Type} {f : α → Int} {B : Int} : ∀ (l : List α), (∀ x ∈ l, f x ≤ B) → sumBy f l ≤ (l.length : Int) * B
  | [], _ => by simp [sumBy]
  | x :: l, h => by
    have h1 := sum_le l fun y hy => h y (List.mem_cons_of_mem _ hy)
    have h2 := h x List.mem_cons_self
    have e : sumBy f (x :: l) = f x + sumBy f l := by simp [sumBy]
    rw [e, List.length_cons]
    push_cast
    rw [Int.add_mul]
    omega
theorem pspan_in {l : List shift_Mark} {g : shift_Gauging} {x : Int} (h : passP l g x = true) (h1 : -300 ≤ x) (h2 : x ≤ 300) : spanOk (pspan l g) = true ∧ (pspan l g).Lo ≤ x ∧ x ≤ (pspan l g).Hi := by
  rcases spanN_spec (passP l g) 601 with ⟨a, b, c, d, e, f⟩ | ⟨a, b, c⟩
  · exact ⟨dT a, f x h1 (by omega) h⟩
  · rw [c x h1 (by omega)] at h
    cases h
theorem pass_wide {l : List shift_Mark} (hr : ROk l) {g g' : shift_Gauging} (hst : g'.Stage = g.Stage) (h1 : g'.Flow.Lo ≤ g.Flow.Lo) (h2 : g.Flow.Hi ≤ g'.Flow.Hi) {x : Int} (h : passP l g x = true) : passP l g' x = true := by
  unfold passP at h ⊢
  rw [hst]
  obtain ⟨a, -, -, -, -⟩ := mean_val hr (g.Stage - x)
  rw [Bool.and_eq_true, decide_eq_true_eq, decide_eq_true_eq] at h ⊢
  have k1 := Int.mul_le_mul_of_nonneg_right h1 (show 0 ≤ (mean l (g.Stage - x)).D by omega)
  have k2 := Int.mul_le_mul_of_nonneg_right h2 (show 0 ≤ (mean l (g.Stage - x)).D by omega)
  omega
theorem pspan_wide {l : List shift_Mark} (hr : ROk l) {g g' : shift_Gauging} (hst : g'.Stage = g.Stage) (h1 : g'.Flow.Lo ≤ g.Flow.Lo) (h2 : g.Flow.Hi ≤ g'.Flow.Hi) (h : spanOk (pspan l g) = true) :
    spanOk (pspan l g') = true ∧ (pspan l g').Lo ≤ (pspan l g).Lo ∧ (pspan l g).Hi ≤ (pspan l g').Hi := by
  rcases spanN_spec (passP l g) 601 with ⟨a, b, c, d, e, -⟩ | ⟨a, b, -⟩
  · have p1 := pspan_in (pass_wide hr hst h1 h2 b) (by omega) (by omega)
    have p2 := pspan_in (pass_wide hr hst h1 h2 c) (by omega) (by omega)
    exact ⟨p1.1, p1.2.1, p2.2.2⟩
  · unfold spanOk pspan at h
    rw [decide_eq_true_eq] at h
    exfalso
    show False
    have h' : (spanN (passP l g) 601).1 ≤ (spanN (passP l g) 601).2 := h
    omega
theorem mean_mark {l : List shift_Mark} (hl : ROk l) {i : Nat} (hi : i < l.length) : mean l (mS l i) = ⟨mF l i, 1⟩ := by
  have hf : 0 ≤ mF l i ∧ mF l i ≤ 1000000000 := hl.fl i hi
  rw [← red_one hf.1]
  symm
  refine mean_uniq hl (by omega) hf.1 ?_
  by_cases h : i + 1 < l.length
  · refine .inr (.inr ⟨i, h, Int.le_refl _, Int.le_of_lt (hl.su i h), ?_⟩)
    show mF l i * _ = _
    rw [Int.sub_self, Int.mul_zero, Int.add_zero, Int.mul_one]
  · refine .inr (.inl ⟨?_, ?_⟩)
    · rw [show i = l.length - 1 by omega]
      exact Int.le_refl _
    · rw [show i = l.length - 1 by omega]
      simp [mF]

/-- What is read better: depths. -/
theorem b12_loop {N : Nat} (hN : 60 ≤ N) {g : gauge_Gauging} (h : GOk g) {r : law03_River × Int × Int} {sp : List Int} (ht : TrueOf g r.1.Depth sp) {better : List Int} (hb : Bytes better) {u m : Int} {k : Nat} (hs : SOk u m k) (hk : k ≤ 10000) :
    ∃ xs i u' m', loopO (fun s12 : Int × Int × Int × List gauge_Vertical => law05_ShiftMeasured_b12 N better r g s12.1 s12.2.1 s12.2.2.1 s12.2.2.2) N (0, u, m, g.Verticals) = some (.go (i, u', m', xs)) ∧ FInv g.Verticals xs ∧ TrueOf ⟨g.Left, g.Right, xs⟩ r.1.Depth sp := by
  have hn' := h.n'
  have hd0 : ∀ j, j < g.Verticals.length → In (r.1.Depth.getD j 0) (g.Verticals.getD j v0).Depth := fun j hj => by
    rw [← get_getD hj]
    exact ht.d j hj
  have hs0 : ∀ j, j < g.Verticals.length → In (sp.getD j 0) (g.Verticals.getD j v0).Speed := fun j hj => by
    rw [← get_getD hj]
    exact ht.s j hj
  obtain ⟨⟨x, u', m', xs⟩, h1, hx, hI, hT, hS⟩ := loopInv (fun s12 : Int × Int × Int × List gauge_Vertical => law05_ShiftMeasured_b12 N better r g s12.1 s12.2.1 s12.2.2.1 s12.2.2.2)
    (fun i s => s.1 = (i : Int) ∧ FInv g.Verticals s.2.2.2 ∧ (∀ j, j < g.Verticals.length → In (r.1.Depth.getD j 0) (s.2.2.2.getD j v0).Depth ∧ In (sp.getD j 0) (s.2.2.2.getD j v0).Speed) ∧ SOk s.2.1 s.2.2.1 (k + i)) g.Verticals.length
    (by
      rintro i ⟨x, v, w, xs⟩ hi ⟨rfl, hI, hT, hS⟩
      dsimp only at hI hT hS ⊢
      obtain ⟨a, u1, m1, e1, a0, a1, s1⟩ := next_spec (N := N) hb (n := 2) hS (by omega)
      have hl := hI.l
      have hti := (hT i hi).1
      have hd1 : getI r.1.Depth (i : Int) = some (r.1.Depth.getD i 0) := getI_getD (by rw [ht.dl]; exact hi)
      have hstart : law05_ShiftMeasured_b12 N better r g (i : Int) v w xs = (cond (a == 0) (law05_ShiftMeasured_j38 N (i : Int) u1 m1 (xs.set i ⟨(xs.getD i v0).At, ⟨r.1.Depth.getD i 0, r.1.Depth.getD i 0⟩, (xs.getD i v0).Speed⟩)) (law05_ShiftMeasured_j38 N (i : Int) u1 m1 xs)) := by
        unfold law05_ShiftMeasured_b12
        rw [lt_dec hi, cond_true, getI_d v0 (by omega), Option.bind_some, hd1]
        simp only [Option.bind_some]
        rw [dT hti.1, cond_true, dT hti.2, cond_true, e1]
        simp only [Option.bind_some, Int.toNat_natCast, law05_span]
      rw [hstart]
      cases ha : (a == 0) with
      | true =>
        refine ⟨(((i + 1 : Nat) : Int), u1, m1, xs.set i ⟨(xs.getD i v0).At, ⟨r.1.Depth.getD i 0, r.1.Depth.getD i 0⟩, (xs.getD i v0).Speed⟩), ?_, rfl, ?_, ?_, s1⟩
        · unfold law05_ShiftMeasured_j38
          rw [cond_true, W_succ (by omega)]
        · exact hI.set hi (hI.v i hi).1 ⟨(hd0 i hi).1, Int.le_refl _, (hd0 i hi).2⟩ (hI.v i hi).2.2
        · intro j hj
          rw [getD_set (by omega)]
          split
          · rename_i e
            subst e
            exact ⟨⟨Int.le_refl _, Int.le_refl _⟩, (hT j hj).2⟩
          · exact hT j hj
      | false =>
        refine ⟨(((i + 1 : Nat) : Int), u1, m1, xs), ?_, rfl, hI, hT, s1⟩
        unfold law05_ShiftMeasured_j38
        rw [cond_false, W_succ (by omega)])
    (by
      rintro ⟨x, v, w, xs⟩ ⟨rfl, -⟩
      dsimp only
      unfold law05_ShiftMeasured_b12
      rw [ge_dec, cond_false])
    g.Verticals.length 0 (0, u, m, g.Verticals) N (by omega) (by omega) ⟨rfl, ⟨rfl, fun j hj => by
      have hv := h.v (g.Verticals.getD j v0) (by rw [← get_getD hj]; exact List.getElem_mem _)
      exact ⟨rfl, Sub.refl hv.d.le, Sub.refl hv.s.le⟩⟩, fun j hj => ⟨hd0 j hj, hs0 j hj⟩, hs⟩
  dsimp only at hI hT hS
  have hl := hI.l
  refine ⟨xs, x, u', m', h1, hI, ⟨by rw [ht.dl]; exact hl.symm, by rw [ht.sl]; exact hl.symm, fun i hi => ?_, fun i hi => ?_⟩⟩
  · have hi' : i < xs.length := hi
    show In (r.1.Depth.getD i 0) (xs[i]).Depth
    rw [get_getD (d := v0)]
    exact (hT i (by omega)).1
  · have hi' : i < xs.length := hi
    show In (sp.getD i 0) (xs[i]).Speed
    rw [get_getD (d := v0)]
    exact (hT i (by omega)).2
/-- Speeds that are none below 0. -/
theorem b6_loop {N : Nat} (hN : 60 ≤ N) {r : law03_River × Int × Int} {n : Nat} (hn : n ≤ 50) (hS : r.1.Speeds.length = n) :
    ∃ z sp, loopO (fun s6 : Int × List Int => law05_ShiftMeasured_b6 N r s6.1 s6.2) N (0, r.1.Speeds) = some (.go (z, sp)) ∧ sp.length = n ∧ ∀ j, j < n → sp.getD j 0 = max 0 (r.1.Speeds.getD j 0) := by
  obtain ⟨⟨x, sp⟩, h1, hx, hl, hD, -⟩ := loopInv (fun s6 : Int × List Int => law05_ShiftMeasured_b6 N r s6.1 s6.2)
    (fun i s => s.1 = (i : Int) ∧ s.2.length = n ∧ (∀ j, j < i → s.2.getD j 0 = max 0 (r.1.Speeds.getD j 0)) ∧ ∀ j, i ≤ j → s.2.getD j 0 = r.1.Speeds.getD j 0) n
    (by
      rintro i ⟨x, l⟩ hi ⟨rfl, hl, hD, hR⟩
      dsimp only at hl hD hR ⊢
      refine ⟨(((i + 1 : Nat) : Int), l.set i (max 0 (r.1.Speeds.getD i 0))), ?_, rfl, by simp [hl], fun j hj => ?_, fun j hj => ?_⟩
      · unfold law05_ShiftMeasured_b6
        rw [hS, lt_dec hi, cond_true, getI_d 0 (by omega), Option.bind_some, Option.bind_some, hR i (Nat.le_refl _), W_succ (by omega), Int.toNat_natCast]
      · dsimp only
        rw [getD_set (by omega)]
        split
        · rename_i e
          subst e
          rfl
        · exact hD j (by omega)
      · dsimp only
        rw [getD_set (by omega), if_neg (by omega)]
        exact hR j (by omega))
    (by
      rintro ⟨x, l⟩ ⟨rfl, -⟩
      dsimp only
      unfold law05_ShiftMeasured_b6
      rw [hS, ge_dec, cond_false])
    n 0 (0, r.1.Speeds) N (by omega) (by omega) ⟨rfl, hS, fun j hj => absurd hj (Nat.not_lt_zero _), fun j _ => rfl⟩
  exact ⟨x, sp, h1, hl, hD⟩
end Go.Nilo
