/-
  What the plain functions compute, in plain arithmetic, part 9. Conditions: what each theorem names.
-/
import Derived.Test.YtbgjmnbgilddgaaBeL8
set_option linter.unusedSimpArgs false
set_option linter.unusedVariables false
namespace Go.Nilo
/-- A span within another one. -/
structure Sub (a b : api_Span) : Prop where
  l : b.Lo ≤ a.Lo
  m : a.Lo ≤ a.Hi
  h : a.Hi ≤ b.Hi
theorem Sub.lo {a b : api_Span} (h : Sub a b) : In a.Lo b := ⟨h.l, Int.le_trans h.m h.h⟩
theorem Sub.hi {a b : api_Span} (h : Sub a b) : In a.Hi b := ⟨Int.le_trans h.l h.m, h.h⟩
theorem Sub.refl {a : api_Span} (h : a.Lo ≤ a.Hi) : Sub a a := ⟨Int.le_refl _, h, Int.le_refl _⟩
theorem Sub.trans {a b c : api_Span} (h : Sub a b) (h' : Sub b c) : Sub a c := ⟨Int.le_trans h'.l h.l, h.m, Int.le_trans h.h h'.h⟩
theorem Sub.spn {a b : api_Span} {A : Nat} (h : Sub a b) (hb : Spn b A) : Spn a A := by
  obtain ⟨l, m, h'⟩ := h
  obtain ⟨x, y, z⟩ := hb
  exact ⟨m, by omega, by omega⟩
theorem times_sub {a b a' b' : api_Span} (ha : Sub a' a) (hb : Sub b' b) : Sub ⟨mn a' b', mx a' b'⟩ ⟨mn a b, mx a b⟩ := by
  have h1 := in_times ha.lo hb.lo
  have h2 := in_times ha.lo hb.hi
  have h3 := in_times ha.hi hb.lo
  have h4 := in_times ha.hi hb.hi
  have e1 : mn a' b' = min (min (min (a'.Lo * b'.Lo) (a'.Lo * b'.Hi)) (a'.Hi * b'.Lo)) (a'.Hi * b'.Hi) := rfl
  have e2 : mx a' b' = max (max (max (a'.Lo * b'.Lo) (a'.Lo * b'.Hi)) (a'.Hi * b'.Lo)) (a'.Hi * b'.Hi) := rfl
  refine ⟨?_, ?_, ?_⟩ <;> dsimp only <;> omega
theorem pan_sub {v v' : gauge_Vertical} {w : Int} (hd : Sub v'.Depth v.Depth) (hs : Sub v'.Speed v.Speed) : Sub (pan v' w) (pan v w) := by
  have h1 := times_sub (a := ⟨w, w⟩) (Sub.refl (Int.le_refl _)) hd
  exact times_sub h1 hs
structure LegSub (g' g : gauge_Leg) : Prop where
  x : Sub g'.X g.X
  y : Sub g'.Y g.Y
  d : Sub g'.Depth g.Depth
  e : Sub g'.East g.East
  n : Sub g'.North g.North
theorem leg_sub {g g' : gauge_Leg} (h : LegSub g' g) : legLo g ≤ legLo g' ∧ legHi g' ≤ legHi g := by
  have h1 := times_sub h.e h.y
  have h2 := times_sub h.n h.x
  have h3 : Sub (crossS g') (crossS g) := by
    obtain ⟨a1, a2, a3⟩ := h1
    obtain ⟨b1, b2, b3⟩ := h2
    dsimp only at a1 a2 a3 b1 b2 b3
    unfold crossS
    exact ⟨by dsimp only; omega, by dsimp only; omega, by dsimp only; omega⟩
  have h4 := times_sub h.d h3
  exact ⟨h4.l, h4.h⟩
theorem LegSub.ok {g g' : gauge_Leg} (h : LegSub g' g) (hg : LegOk g) : LegOk g' :=
  ⟨h.x.spn hg.x, h.y.spn hg.y, h.d.spn hg.d, Int.le_trans hg.d0 h.d.l, h.e.spn hg.e, h.n.spn hg.n⟩

theorem narrow_spec {N : Nat} {bytes : List Int} (hb : Bytes bytes) {u m : Int} {k : Nat} (hs : SOk u m k) (hk : k + 1 ≤ 1000000) {s : api_Span} (h0 : -1000000000000000 ≤ s.Lo) (h1 : s.Hi ≤ 1000000000000000) (hle : s.Lo ≤ s.Hi) :
    ∃ s' u' m', law03_GaugeBetter_1 N s ⟨bytes, u, m⟩ = some (s', u', m') ∧ Sub s' s ∧ SOk u' m' (k + 2) := by
  obtain ⟨a, u1, m1, e1, a1, b1, s1⟩ := within_spec (N := N) hb (lo := s.Lo) (hi := s.Hi) hs (by omega) h0 h1 hle
  obtain ⟨b, u2, m2, e2, a2, b2, s2⟩ := within_spec (N := N) hb (lo := a) (hi := s.Hi) s1 (by omega) (by omega) h1 b1
  refine ⟨⟨a, b⟩, u2, m2, ?_, ⟨a1, a2, b2⟩, s2⟩
  unfold law03_GaugeBetter_1
  rw [e1]
  simp only [Option.bind_some, e2]

/-! ### A section that is read better -/
structure FInv (vs xs : List gauge_Vertical) : Prop where
  l : xs.length = vs.length
  v : ∀ j, j < vs.length → (xs.getD j v0).At = (vs.getD j v0).At ∧ Sub (xs.getD j v0).Depth (vs.getD j v0).Depth ∧ Sub (xs.getD j v0).Speed (vs.getD j v0).Speed
theorem getD_set {α : Type} {l : List α} {i j : Nat} {x d : α} (hi : i < l.length) : (l.set i x).getD j d = if j = i then x else l.getD j d := by
  by_cases h : j = i
  · subst h; simp [List.getD, hi]
  · rw [if_neg h]; simp [List.getD, Ne.symm h]
theorem FInv.set {vs xs : List gauge_Vertical} (h : FInv vs xs) {i : Nat} (hi : i < vs.length) {v : gauge_Vertical} (ha : v.At = (vs.getD i v0).At) (hd : Sub v.Depth (vs.getD i v0).Depth) (hs : Sub v.Speed (vs.getD i v0).Speed) : FInv vs (xs.set i v) := by
  refine ⟨by simp [h.l], fun j hj => ?_⟩
  rw [getD_set (by rw [h.l]; exact hi)]
  split
  · rename_i e; subst e; exact ⟨ha, hd, hs⟩
  · exact h.v j hj

theorem fine_loop {N : Nat} (hN : 60 ≤ N) {g : gauge_Gauging} (h : GOk g) {better : List Int} (hb : Bytes better) {u m : Int} {k : Nat} (hs : SOk u m k) (hk : k ≤ 100000) :
    ∃ xs u' m', loopO (fun s9 => law03_GaugeBetter_b9 N better g s9.1 s9.2.1 s9.2.2.1 s9.2.2.2) N (g.Verticals, 0, u, m) = some (.go (xs, (g.Verticals.length : Int), u', m')) ∧ FInv g.Verticals xs ∧ SOk u' m' (k + 180) := by
  have hn' := h.n'
  obtain ⟨⟨xs, x, u', m'⟩, h1, hx, hI, hS⟩ := loopInv (fun s9 => law03_GaugeBetter_b9 N better g s9.1 s9.2.1 s9.2.2.1 s9.2.2.2)
    (fun i s => s.2.1 = (i : Int) ∧ FInv g.Verticals s.1 ∧ SOk s.2.2.1 s.2.2.2 (k + 6 * i)) g.Verticals.length
    (by
      rintro i ⟨xs, x, u', m'⟩ hi ⟨rfl, hI, hS⟩
      dsimp only at hI hS ⊢
      have hxi : i < xs.length := by rw [hI.l]; exact hi
      have hv := h.v g.Verticals[i] (List.getElem_mem _)
      rw [get_getD (d := v0) hi] at hv
      obtain ⟨p1, p2, p3⟩ := hI.v i hi
      have q1 := p2.spn hv.d
      have q2 := p3.spn hv.s
      have d1 := q1.lo
      have d2 := q1.hi
      have d3 := q2.lo
      have d4 := q2.hi
      have hlt : decide ((i : Int) < ((g.Verticals.length : Nat) : Int)) = true := by simp; omega
      have hget : getI xs (i : Int) = some (xs.getD i v0) := by rw [getI_nat hxi, get_getD (d := v0) hxi]
      obtain ⟨r, u1, m1, e1, -, -, s1⟩ := next_spec (N := N) hb (n := 2) hS (by omega)
      -- the speed, behind the depth
      have hspeed : ∀ (ys : List gauge_Vertical) (u2 m2 : Int) (k2 : Nat), FInv g.Verticals ys → (ys.getD i v0).Speed = (xs.getD i v0).Speed → SOk u2 m2 k2 → k2 + 3 ≤ k + 6 * (i + 1) →
          ∃ s', law03_GaugeBetter_j47 N better (i : Int) (xs.getD i v0) ys u2 m2 = some (.cont s') ∧ s'.2.1 = ((i + 1 : Nat) : Int) ∧ FInv g.Verticals s'.1 ∧ SOk s'.2.2.1 s'.2.2.2 (k + 6 * (i + 1)) := by
        intro ys u2 m2 k2 hY hsp hS2 hk2
        obtain ⟨r', u3, m3, e3, -, -, s3⟩ := next_spec (N := N) hb (n := 2) hS2 (by omega)
        have hyi : i < ys.length := by rw [hY.l]; exact hi
        have hget2 : getI ys (i : Int) = some (ys.getD i v0) := by rw [getI_nat hyi, get_getD (d := v0) hyi]
        have up : ∀ {a b : Int} {c d : Nat}, SOk a b c → c ≤ d → SOk a b d := fun h hcd => ⟨h.u0, by have := h.u1; omega, h.m0, h.m1⟩
        unfold law03_GaugeBetter_j47 law03_GaugeBetter_j45
        rw [e3]
        simp only [Option.bind_some]
        cases hr : (r' == 0) with
        | true =>
          obtain ⟨s', u4, m4, e4, hsub, s4⟩ := narrow_spec (N := N) hb s3 (by omega) (s := (xs.getD i v0).Speed) (by omega) (by omega) q2.le
          simp only [cond_true, e4, Option.bind_some, hget2, W_succ (i := i) (by omega), Int.toNat_natCast]
          obtain ⟨y1, y2, y3⟩ := hY.v i hi
          exact ⟨_, rfl, rfl, hY.set hi y1 y2 (hsub.trans p3), up s4 (by omega)⟩
        | false =>
          simp only [cond_false, W_succ (i := i) (by omega)]
          exact ⟨_, rfl, rfl, hY, up s3 (by omega)⟩
      unfold law03_GaugeBetter_b9
      rw [hlt, hget, e1]
      simp only [cond_true, Option.bind_some]
      cases hr : (r == 0) with
      | true =>
        obtain ⟨s', u2, m2, e2, hsub, s2⟩ := narrow_spec (N := N) hb s1 (by omega) (s := (xs.getD i v0).Depth) (by omega) (by omega) q1.le
        simp only [cond_true, e2, Option.bind_some, Int.toNat_natCast]
        exact hspeed _ _ _ _ (hI.set hi p1 (hsub.trans p2) p3) (by rw [getD_set hxi, if_pos rfl]) s2 (by omega)
      | false =>
        simp only [cond_false]
        exact hspeed _ _ _ _ hI rfl s1 (by omega))
    (by
      rintro ⟨xs, x, u', m'⟩ ⟨rfl, -⟩
      dsimp only
      unfold law03_GaugeBetter_b9
      rw [show decide (((g.Verticals.length : Nat) : Int) < ((g.Verticals.length : Nat) : Int)) = false by simp]
      rfl)
    g.Verticals.length 0 (g.Verticals, 0, u, m) N (by omega) (by omega) ⟨rfl, ⟨rfl, fun j hj => by
      have hv := h.v g.Verticals[j] (List.getElem_mem _)
      rw [get_getD (d := v0) hj] at hv
      exact ⟨rfl, Sub.refl hv.d.le, Sub.refl hv.s.le⟩⟩, hs⟩
  dsimp only at hx hI hS
  subst hx
  exact ⟨xs, u', m', h1, hI, ⟨hS.u0, by have := hS.u1; omega, hS.m0, hS.m1⟩⟩

/-- A gauging that is read better is allowed, its panels lie within. -/
theorem fine_ok {g : gauge_Gauging} (h : GOk g) {xs : List gauge_Vertical} (hI : FInv g.Verticals xs) : GOk ⟨g.Left, g.Right, xs⟩ := by
  have hl := hI.l
  refine ⟨h.l, h.r, by dsimp only; rw [hl]; exact h.n, by dsimp only; rw [hl]; exact h.n', ?_, ?_⟩
  · intro v hv
    obtain ⟨j, hj, rfl⟩ := List.getElem_of_mem hv
    dsimp only at hj ⊢
    have hj' : j < g.Verticals.length := by omega
    obtain ⟨p1, p2, p3⟩ := hI.v j hj'
    have hv := h.v g.Verticals[j] (List.getElem_mem _)
    rw [get_getD (d := v0) hj'] at hv
    rw [get_getD (d := v0) hj]
    exact ⟨by rw [p1]; exact hv.a, by rw [p1]; exact hv.b, p2.spn hv.d, Int.le_trans hv.d0 p2.l, p3.spn hv.s⟩
  · intro i hi
    dsimp only at hi ⊢
    have hi' : i + 1 < g.Verticals.length := by omega
    have hu := h.up i hi'
    rw [get_getD (d := v0) (by omega), get_getD (d := v0) hi'] at hu
    rw [get_getD (d := v0) (by omega), get_getD (d := v0) hi, (hI.v i (by omega)).1, (hI.v (i + 1) hi').1]
    exact hu
theorem fine_wd {g : gauge_Gauging} {xs : List gauge_Vertical} (hI : FInv g.Verticals xs) {i : Nat} (hi : i < g.Verticals.length) : wd ⟨g.Left, g.Right, xs⟩ i = wd g i := by
  have hl := hI.l
  have hat : ∀ j, j < g.Verticals.length → ∀ h1 : j < xs.length, ∀ h2 : j < g.Verticals.length, (xs[j]'h1).At = (g.Verticals[j]'h2).At := by
    intro j hj h1 h2
    rw [get_getD (d := v0) h1, get_getD (d := v0) h2]
    exact (hI.v j hj).1
  unfold wd
  dsimp only
  by_cases h1 : i + 1 < g.Verticals.length
  · rw [dif_pos h1, dif_pos (show i + 1 < xs.length by omega), hat (i + 1) h1]
    by_cases h2 : 0 < i ∧ i - 1 < g.Verticals.length
    · rw [dif_pos h2, dif_pos (show 0 < i ∧ i - 1 < xs.length by omega), hat (i - 1) h2.2]
    · rw [dif_neg h2, dif_neg (show ¬ (0 < i ∧ i - 1 < xs.length) by omega)]
  · rw [dif_neg h1, dif_neg (show ¬ i + 1 < xs.length by omega)]
    by_cases h2 : 0 < i ∧ i - 1 < g.Verticals.length
    · rw [dif_pos h2, dif_pos (show 0 < i ∧ i - 1 < xs.length by omega), hat (i - 1) h2.2]
    · rw [dif_neg h2, dif_neg (show ¬ (0 < i ∧ i - 1 < xs.length) by omega)]
theorem fine_pan {g : gauge_Gauging} {xs : List gauge_Vertical} (hI : FInv g.Verticals xs) {i : Nat} (hi : i < g.Verticals.length) : Sub (panI ⟨g.Left, g.Right, xs⟩ i) (panI g i) := by
  unfold panI
  rw [fine_wd hI hi]
  obtain ⟨-, p2, p3⟩ := hI.v i hi
  exact pan_sub p2 p3
end Go.Nilo
