/-
  What the plain functions compute, in plain arithmetic, part 8. Conditions: what each theorem names.
-/
import Derived.Test.YtbgjmnbgilddgaaRuL7
set_option linter.unusedSimpArgs false
set_option linter.unusedVariables false
namespace Go.Nilo
theorem sumBy_map {α β : Type} (f : β → Int) (h : α → β) (l : List α) : sumBy f (l.map h) = sumBy (fun x => f (h x)) l := by unfold sumBy; rw [List.map_map]; rfl
theorem sumBy_congr {α : Type} {f g : α → Int} {l : List α} (h : ∀ x ∈ l, f x = g x) : sumBy f l = sumBy g l := by
  unfold sumBy
  rw [List.map_congr_left h]

/-! ### The slowest and the fastest truth -/
def pS (e : Bool) (v : gauge_Vertical) : Int := cond e v.Speed.Hi v.Speed.Lo
def pD (e : Bool) (v : gauge_Vertical) : Int := cond (decide (0 < pS e v) == e) v.Depth.Hi v.Depth.Lo
def pE (e : Bool) (s : api_Span) : Int := cond e s.Hi s.Lo
theorem pick_end {e : Bool} {v : gauge_Vertical} {w : Int} (hd : v.Depth.Lo ≤ v.Depth.Hi) (hs : v.Speed.Lo ≤ v.Speed.Hi) (h0 : 0 ≤ v.Depth.Lo) (hw : 0 ≤ w) : w * pD e v * pS e v = pE e (pan v w) := by
  have a1 : 0 ≤ w * v.Depth.Lo := Int.mul_nonneg hw h0
  have a2 : w * v.Depth.Lo ≤ w * v.Depth.Hi := Int.mul_le_mul_of_nonneg_left hd hw
  have hmn : mn ⟨w, w⟩ v.Depth = w * v.Depth.Lo := by unfold mn; dsimp only; omega
  have hmx : mx ⟨w, w⟩ v.Depth = w * v.Depth.Hi := by unfold mx; dsimp only; omega
  unfold pE pan
  rw [hmn, hmx]
  generalize hA : w * v.Depth.Lo = A at *
  generalize hB : w * v.Depth.Hi = B at *
  have b1 : A * v.Speed.Lo ≤ A * v.Speed.Hi := Int.mul_le_mul_of_nonneg_left hs a1
  have b2 : B * v.Speed.Lo ≤ B * v.Speed.Hi := Int.mul_le_mul_of_nonneg_left hs (by omega)
  cases e with
  | false =>
    have hps : pS false v = v.Speed.Lo := rfl
    by_cases hc : 0 < v.Speed.Lo
    · have hpd : pD false v = v.Depth.Lo := by unfold pD; rw [hps]; simp [hc]
      have c1 : A * v.Speed.Lo ≤ B * v.Speed.Lo := Int.mul_le_mul_of_nonneg_right a2 (by omega)
      have c2 : A * v.Speed.Hi ≤ B * v.Speed.Hi := Int.mul_le_mul_of_nonneg_right a2 (by omega)
      rw [hps, hpd, hA]
      show A * v.Speed.Lo = mn ⟨A, B⟩ v.Speed
      unfold mn; dsimp only; omega
    · have hpd : pD false v = v.Depth.Hi := by unfold pD; rw [hps]; simp [hc]
      have c1 : B * v.Speed.Lo ≤ A * v.Speed.Lo := Int.mul_le_mul_of_nonpos_right a2 (by omega)
      rw [hps, hpd, hB]
      show B * v.Speed.Lo = mn ⟨A, B⟩ v.Speed
      unfold mn; dsimp only; omega
  | true =>
    have hps : pS true v = v.Speed.Hi := rfl
    by_cases hc : 0 < v.Speed.Hi
    · have hpd : pD true v = v.Depth.Hi := by unfold pD; rw [hps]; simp [hc]
      have c1 : A * v.Speed.Hi ≤ B * v.Speed.Hi := Int.mul_le_mul_of_nonneg_right a2 (by omega)
      rw [hps, hpd, hB]
      show B * v.Speed.Hi = mx ⟨A, B⟩ v.Speed
      unfold mx; dsimp only; omega
    · have hpd : pD true v = v.Depth.Lo := by unfold pD; rw [hps]; simp [hc]
      have c1 : B * v.Speed.Hi ≤ A * v.Speed.Hi := Int.mul_le_mul_of_nonpos_right a2 (by omega)
      rw [hps, hpd, hA]
      show A * v.Speed.Hi = mx ⟨A, B⟩ v.Speed
      unfold mx; dsimp only; omega
theorem pick_in {e : Bool} {l r : Int} {v : gauge_Vertical} (h : VOk l r v) : In (pD e v) v.Depth ∧ In (pS e v) v.Speed := by
  have h1 := h.d.le
  have h2 := h.s.le
  unfold In pD pS
  refine ⟨?_, ?_⟩
  · cases (decide (0 < (cond e v.Speed.Hi v.Speed.Lo)) == e) <;> dsimp only [cond] <;> omega
  · cases e <;> dsimp only [cond] <;> omega

def pickD (e : Bool) (g : gauge_Gauging) (n : Nat) : List Int := (List.range n).map fun i => pD e (g.Verticals.getD i v0)
def pickS (e : Bool) (g : gauge_Gauging) (n : Nat) : List Int := (List.range n).map fun i => pS e (g.Verticals.getD i v0)
theorem getD_range {f : Nat → Int} {n i : Nat} (h : i < n) : ((List.range n).map f).getD i 0 = f i := by simp [List.getD, h]
theorem pick_true {e : Bool} {g : gauge_Gauging} (h : GOk g) : TrueOf g (pickD e g g.Verticals.length) (pickS e g g.Verticals.length) := by
  refine ⟨by simp [pickD], by simp [pickS], ?_, ?_⟩
  · intro i hi
    unfold pickD
    rw [getD_range hi, ← get_getD hi]
    exact (pick_in (h.v _ (List.getElem_mem _))).1
  · intro i hi
    unfold pickS
    rw [getD_range hi, ← get_getD hi]
    exact (pick_in (h.v _ (List.getElem_mem _))).2
theorem pick_real {e : Bool} {g : gauge_Gauging} (h : GOk g) : realSum g (pickD e g g.Verticals.length) (pickS e g g.Verticals.length) g.Verticals.length = sumBy (pE e) (pans g) := by
  unfold realSum pans
  rw [sumBy_map]
  apply sumBy_congr
  intro i hi
  have hi := List.mem_range.1 hi
  have hv := h.v g.Verticals[i] (List.getElem_mem _)
  unfold realAt pickD pickS
  rw [getD_range hi, getD_range hi, ← get_getD hi, panI_eq hi]
  exact pick_end hv.d.le hv.s.le hv.d0 (wd_bd h hi).1

/-! ### The loops of the statement -/
theorem pans_len {g : gauge_Gauging} : (pans g).length = g.Verticals.length := by simp [pans]
theorem pE_bd {e : Bool} {s : api_Span} {A : Nat} (h : Spn s A) : (pE e s).natAbs ≤ A := by
  unfold pE
  cases e
  · exact h.lo
  · exact h.hi
theorem loop29 {N : Nat} (hN : 60 ≤ N) {g : gauge_Gauging} (h : GOk g) (e : Bool) :
    loopO (fun s29 => law03_GaugeTrue_b29 N g.Verticals e s29.1 s29.2.1 s29.2.2.1 s29.2.2.2.1 s29.2.2.2.2.1 s29.2.2.2.2.2) N (pans g, ([] : List Int), ([] : List Int), 0, g.Verticals, 0)
      = some (.go (pans g, pickD e g g.Verticals.length, pickS e g g.Verticals.length, sumBy (pE e) (pans g), g.Verticals, (g.Verticals.length : Int))) := by
  have hn' := h.n'
  obtain ⟨⟨l, ds, ss, sum, vs, x⟩, h1, hl, hd, hs, hsum, -, hv, hx⟩ := loopInv (fun s29 => law03_GaugeTrue_b29 N g.Verticals e s29.1 s29.2.1 s29.2.2.1 s29.2.2.2.1 s29.2.2.2.2.1 s29.2.2.2.2.2)
    (fun i s => s.1 = pans g ∧ s.2.1 = pickD e g i ∧ s.2.2.1 = pickS e g i ∧ s.2.2.2.1 = sumBy (pE e) ((pans g).take i) ∧ s.2.2.2.1.natAbs ≤ i * 100000000000 ∧ s.2.2.2.2.1 = g.Verticals ∧ s.2.2.2.2.2 = (i : Int)) g.Verticals.length
    (by
      rintro i ⟨l, ds, ss, sum, vs, x⟩ hi ⟨rfl, rfl, rfl, h4, h5, rfl, rfl⟩
      dsimp only at h4 h5 hi ⊢
      have hi' : i < (pans g).length := by rw [pans_len]; exact hi
      have hp := panI_bd h hi
      have hpe : (pans g)[i] = panI g i := by simp [pans]
      have hb := pE_bd (e := e) hp
      have hlt : decide ((i : Int) < ((g.Verticals.length : Nat) : Int)) = true := by simp; omega
      have hw : W (sum + pE e (panI g i)) = sum + pE e (panI g i) := W_id (by omega) (by omega)
      refine ⟨(pans g, pickD e g (i + 1), pickS e g (i + 1), sum + pE e (panI g i), g.Verticals, ((i + 1 : Nat) : Int)), ?_, rfl, rfl, rfl, ?_, by dsimp only; omega, rfl, rfl⟩
      · have gd : pickD e g (i + 1) = pickD e g i ++ [pD e g.Verticals[i]] := by unfold pickD; rw [List.range_succ, List.map_append, List.map_cons, List.map_nil, get_getD (d := v0) hi]
        have gs : pickS e g (i + 1) = pickS e g i ++ [pS e g.Verticals[i]] := by unfold pickS; rw [List.range_succ, List.map_append, List.map_cons, List.map_nil, get_getD (d := v0) hi]
        have r1 : room (pickD e g i ++ [pD e g.Verticals[i]]).length = some () := room_ok (by simp [pickD]; omega)
        have r2 : room (pickS e g i ++ [pS e g.Verticals[i]]).length = some () := room_ok (by simp [pickS]; omega)
        rw [gd, gs, ← hw]
        unfold law03_GaugeTrue_b29
        rw [hlt, getI_nat hi, getI_nat hi', hpe]
        cases e with
        | false =>
          simp only [cond_true, cond_false, Option.bind_some]
          unfold law03_GaugeTrue_j41 law03_GaugeTrue_j43
          cases hc : (decide (0 < g.Verticals[i].Speed.Lo) == false) with
          | true =>
            have hD : pD false g.Verticals[i] = g.Verticals[i].Depth.Hi := by unfold pD pS; simp only [cond_false]; rw [hc]; rfl
            rw [hD] at r1 ⊢
            simp only [cond_true, r1, Option.bind_some, W_succ (i := i) (by omega)]
            have r2' : room (pickS false g i ++ [g.Verticals[i].Speed.Lo]).length = some () := r2
            rw [r2']
            rfl
          | false =>
            have hD : pD false g.Verticals[i] = g.Verticals[i].Depth.Lo := by unfold pD pS; simp only [cond_false]; rw [hc]; rfl
            rw [hD] at r1 ⊢
            simp only [cond_false, r1, Option.bind_some, W_succ (i := i) (by omega)]
            have r2' : room (pickS false g i ++ [g.Verticals[i].Speed.Lo]).length = some () := r2
            rw [r2']
            rfl
        | true =>
          simp only [cond_true, Option.bind_some]
          unfold law03_GaugeTrue_j41 law03_GaugeTrue_j43
          cases hc : (decide (0 < g.Verticals[i].Speed.Hi) == true) with
          | true =>
            have hD : pD true g.Verticals[i] = g.Verticals[i].Depth.Hi := by unfold pD pS; simp only [cond_true]; rw [hc]; rfl
            rw [hD] at r1 ⊢
            simp only [cond_true, r1, Option.bind_some, W_succ (i := i) (by omega)]
            have r2' : room (pickS true g i ++ [g.Verticals[i].Speed.Hi]).length = some () := r2
            rw [r2']
            rfl
          | false =>
            have hD : pD true g.Verticals[i] = g.Verticals[i].Depth.Lo := by unfold pD pS; simp only [cond_true]; rw [hc]; rfl
            rw [hD] at r1 ⊢
            simp only [cond_false, r1, Option.bind_some, W_succ (i := i) (by omega)]
            have r2' : room (pickS true g i ++ [g.Verticals[i].Speed.Hi]).length = some () := r2
            rw [r2']
            rfl
      · dsimp only; rw [sumBy_take _ _ _ hi', h4, hpe])
    (by
      rintro ⟨l, ds, ss, sum, vs, x⟩ ⟨rfl, rfl, rfl, h4, h5, rfl, rfl⟩
      dsimp only
      unfold law03_GaugeTrue_b29
      simp)
    g.Verticals.length 0 (pans g, [], [], 0, g.Verticals, 0) N (by omega) (by omega) ⟨rfl, rfl, rfl, rfl, by simp, rfl, rfl⟩
  dsimp only at hl hd hs hsum hv hx
  rw [h1, hl, hd, hs, hsum, hv, hx, ← pans_len, List.take_length]

structure TryInv (g : gauge_Gauging) (i : Nat) (ds ss : List Int) : Prop where
  dl : ds.length = i
  sl : ss.length = i
  d : ∀ j, (h : j < g.Verticals.length) → j < i → In (ds.getD j 0) g.Verticals[j].Depth
  s : ∀ j, (h : j < g.Verticals.length) → j < i → In (ss.getD j 0) g.Verticals[j].Speed
theorem loop53 {N : Nat} (hN : 60 ≤ N) {g : gauge_Gauging} (h : GOk g) {tries : List Int} (ht : Bytes tries) {u m : Int} {k : Nat} (hs : SOk u m k) (hk : k ≤ 100000) :
    ∃ ds ss u' m', loopO (fun s53 => law03_GaugeTrue_b53 N tries g.Verticals s53.1 s53.2.1 s53.2.2.1 s53.2.2.2.1 s53.2.2.2.2.1 s53.2.2.2.2.2) N (([] : List Int), ([] : List Int), g.Verticals, 0, u, m)
      = some (.go (ds, ss, g.Verticals, (g.Verticals.length : Int), u', m')) ∧ TrueOf g ds ss ∧ SOk u' m' (k + 60) := by
  have hn' := h.n'
  obtain ⟨⟨ds, ss, v1, x, u', m'⟩, h1, rfl, hx, hI, hS⟩ := loopInv (fun s53 => law03_GaugeTrue_b53 N tries g.Verticals s53.1 s53.2.1 s53.2.2.1 s53.2.2.2.1 s53.2.2.2.2.1 s53.2.2.2.2.2)
    (fun i s => s.2.2.1 = g.Verticals ∧ s.2.2.2.1 = (i : Int) ∧ TryInv g i s.1 s.2.1 ∧ SOk s.2.2.2.2.1 s.2.2.2.2.2 (k + 2 * i)) g.Verticals.length
    (by
      rintro i ⟨ds, ss, v1, x, u', m'⟩ hi ⟨rfl, rfl, hI, hS⟩
      dsimp only at hI hS hi ⊢
      have hv := h.v g.Verticals[i] (List.getElem_mem _)
      have d1 := hv.d.lo
      have d2 := hv.d.hi
      have d3 := hv.s.lo
      have d4 := hv.s.hi
      obtain ⟨a, u1, m1, e1, p1, q1, s1⟩ := within_spec (N := N) ht (lo := g.Verticals[i].Depth.Lo) (hi := g.Verticals[i].Depth.Hi) hS (by omega) (by omega) (by omega) hv.d.le
      obtain ⟨b, u2, m2, e2, p2, q2, s2⟩ := within_spec (N := N) ht (lo := g.Verticals[i].Speed.Lo) (hi := g.Verticals[i].Speed.Hi) s1 (by omega) (by omega) (by omega) hv.s.le
      have hlt : decide ((i : Int) < ((g.Verticals.length : Nat) : Int)) = true := by simp; omega
      refine ⟨(ds ++ [a], ss ++ [b], g.Verticals, ((i + 1 : Nat) : Int), u2, m2), ?_, rfl, rfl, ⟨by simp [hI.dl], by simp [hI.sl], ?_, ?_⟩, s2⟩
      · unfold law03_GaugeTrue_b53
        rw [hlt, getI_nat hi]
        simp only [cond_true, Option.bind_some, e1, e2, W_succ (i := i) (by omega)]
        rw [room_ok (by simp [hI.dl]; omega), room_ok (by simp [hI.sl]; omega)]
        rfl
      · intro j hj hji
        by_cases hlt : j < i
        · rw [getD_lt (by rw [hI.dl]; exact hlt)]; exact hI.d j hj hlt
        · obtain rfl : j = ds.length := by rw [hI.dl]; omega
          rw [getD_eq]
          obtain rfl : i = ds.length := hI.dl.symm
          exact ⟨p1, q1⟩
      · intro j hj hji
        by_cases hlt : j < i
        · rw [getD_lt (by rw [hI.sl]; exact hlt)]; exact hI.s j hj hlt
        · obtain rfl : j = ss.length := by rw [hI.sl]; omega
          rw [getD_eq]
          obtain rfl : i = ss.length := hI.sl.symm
          exact ⟨p2, q2⟩)
    (by
      rintro ⟨ds, ss, v1, x, u', m'⟩ ⟨rfl, rfl, -⟩
      dsimp only
      unfold law03_GaugeTrue_b53
      simp)
    g.Verticals.length 0 ([], [], g.Verticals, 0, u, m) N (by omega) (by omega) ⟨rfl, rfl, ⟨rfl, rfl, by intro j _ hj; omega, by intro j _ hj; omega⟩, hs⟩
  dsimp only at hx hI hS
  subst hx
  exact ⟨ds, ss, u', m', h1, ⟨hI.dl, hI.sl, fun i hi => hI.d i hi hi, fun i hi => hI.s i hi hi⟩, ⟨hS.u0, by have := hS.u1; push_cast at this ⊢; omega, hS.m0, hS.m1⟩⟩
end Go.Nilo
