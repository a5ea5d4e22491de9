/-
  What the plain functions compute, in plain arithmetic, part 17. Conditions: what each theorem names.
-/
import Derived.Test.YtepopogbmjfpeaaMeL16
set_option linter.unusedSimpArgs false
set_option linter.unusedVariables false
namespace Go.Nilo




structure RvOk (r : law03_River) (n : Nat) : Prop where
  al : r.At.length = n
  dl : r.Depth.length = n
  sl : r.Speeds.length = n
  l0 : 0 ≤ r.Left
  r1 : r.Right ≤ 10000
  w : r.Right ≤ r.Left + 630
  a : ∀ i, i < n → r.Left < r.At.getD i 0 ∧ r.At.getD i 0 < r.Right
  up : ∀ i, i + 1 < n → r.At.getD i 0 < r.At.getD (i + 1) 0
  d : ∀ i, i < n → 0 ≤ r.Depth.getD i 0 ∧ r.Depth.getD i 0 ≤ 299
  s : ∀ i, i < n → -40 ≤ r.Speeds.getD i 0 ∧ r.Speeds.getD i 0 ≤ 400

structure SecInv (left : Int) (i : Nat) (at' : Int) (A D S : List Int) : Prop where
  al : A.length = i
  dl : D.length = i
  sl : S.length = i
  b : left ≤ at' ∧ at' ≤ left + 90 * i
  a : ∀ j, j < i → left < A.getD j 0 ∧ A.getD j 0 ≤ at'
  up : ∀ j, j + 1 < i → A.getD j 0 < A.getD (j + 1) 0
  d : ∀ j, j < i → 0 ≤ D.getD j 0 ∧ D.getD j 0 ≤ 299
  s : ∀ j, j < i → -40 ≤ S.getD j 0 ∧ S.getD j 0 ≤ 400
theorem SecInv.step {left : Int} {i : Nat} {at' r d s : Int} {A D S : List Int} (h : SecInv left i at' A D S) (hr : 1 ≤ r ∧ r ≤ 90) (hd : 0 ≤ d ∧ d ≤ 299) (hs : -40 ≤ s ∧ s ≤ 400) :
    SecInv left (i + 1) (at' + r) (A ++ [at' + r]) (D ++ [d]) (S ++ [s]) := by
  obtain ⟨al, dl, sl, b, a, up, d', s'⟩ := h
  refine ⟨by simp [al], by simp [dl], by simp [sl], by omega, ?_, ?_, ?_, ?_⟩
  · intro j hj
    by_cases hji : j < i
    · rw [getD_lt (by omega)]; have := a j hji; omega
    · obtain rfl : j = A.length := by omega
      rw [getD_eq]; omega
  · intro j hj
    by_cases hji : j + 1 < i
    · rw [getD_lt (by omega), getD_lt (by omega)]; exact up j hji
    · obtain rfl : i = j + 1 := by omega
      rw [getD_lt (by omega), show j + 1 = A.length by omega, getD_eq]
      have := a j (by omega)
      omega
  · intro j hj
    by_cases hji : j < i
    · rw [getD_lt (by omega)]; exact d' j hji
    · obtain rfl : j = D.length := by omega
      rw [getD_eq]; exact hd
  · intro j hj
    by_cases hji : j < i
    · rw [getD_lt (by omega)]; exact s' j hji
    · obtain rfl : j = S.length := by omega
      rw [getD_eq]; exact hs

theorem section_spec {N : Nat} (hN : 60 ≤ N) {bytes : List Int} (hb : Bytes bytes) {u m : Int} {k : Nat} (hs : SOk u m k) (hk : k ≤ 100000) {most : Int} (hm : 1 ≤ most ∧ most ≤ 6) :
    ∃ r n u' m', law03_Section N ⟨bytes, u, m⟩ most = some (r, u', m') ∧ RvOk r n ∧ 1 ≤ n ∧ (n : Int) ≤ most ∧ SOk u' m' (k + 100) := by
  obtain ⟨left, u1, m1, e1, a1, b1, s1⟩ := next_spec (N := N) hb (n := 50) hs (by omega)
  obtain ⟨n', u2, m2, e2, a2, b2, s2⟩ := within_spec (N := N) hb (lo := 1) (hi := most) s1 (by omega) (by omega) (by omega) (by omega)
  obtain ⟨n, rfl⟩ : ∃ k : Nat, n' = (k : Int) := ⟨n'.toNat, by omega⟩
  obtain ⟨⟨at', x, v, w, A, D, S⟩, h1, hx, hI, hS⟩ := loopInv (fun s6 => law03_Section_b6 N ⟨bytes, u, m⟩ ((n : Int), u2, m2) s6.1 s6.2.1 s6.2.2.1 s6.2.2.2.1 s6.2.2.2.2.1 s6.2.2.2.2.2.1 s6.2.2.2.2.2.2)
    (fun i s => s.2.1 = (i : Int) ∧ SecInv left i s.1 s.2.2.2.2.1 s.2.2.2.2.2.1 s.2.2.2.2.2.2 ∧ SOk s.2.2.1 s.2.2.2.1 (k + 2 + 3 * i)) n
    (by
      rintro i ⟨at', x, v, w, A, D, S⟩ hi ⟨rfl, hI, hS⟩
      dsimp only at hI hS ⊢
      obtain ⟨r, u3, m3, e3, a3, b3, s3⟩ := within_spec (N := N) hb (lo := 1) (hi := 90) hS (by omega) (by omega) (by omega) (by omega)
      obtain ⟨d, u4, m4, e4, a4, b4, s4⟩ := next_spec (N := N) hb (n := 300) s3 (by omega)
      obtain ⟨s, u5, m5, e5, a5, b5, s5⟩ := within_spec (N := N) hb (lo := -40) (hi := 400) s4 (by omega) (by omega) (by omega) (by omega)
      have hbb := hI.b
      have w1 : W (at' + r) = at' + r := W_id (by omega) (by omega)
      have hlt : decide ((i : Int) < (n : Int)) = true := by simp; omega
      refine ⟨(at' + r, ((i + 1 : Nat) : Int), u5, m5, A ++ [at' + r], D ++ [d], S ++ [s]), ?_, rfl, hI.step ⟨a3, b3⟩ ⟨a4, by omega⟩ ⟨a5, b5⟩, s5⟩
      unfold law03_Section_b6
      rw [hlt]
      simp only [cond_true, e3, Option.bind_some, w1, e4, e5, W_succ (i := i) (by omega)]
      rw [room_ok (by simp [hI.al]; omega), room_ok (by simp [hI.dl]; omega), room_ok (by simp [hI.sl]; omega)]
      rfl)
    (by
      rintro ⟨at', x, v, w, A, D, S⟩ ⟨rfl, -⟩
      dsimp only
      unfold law03_Section_b6
      simp)
    n 0 (left, 0, u2, m2, [], [], []) N (by omega) (by omega) ⟨rfl, ⟨rfl, rfl, rfl, by omega, by intro j hj; omega, by intro j hj; omega, by intro j hj; omega, by intro j hj; omega⟩, s2⟩
  dsimp only at hx hI hS
  obtain ⟨r, u6, m6, e6, a6, b6, s6⟩ := within_spec (N := N) hb (lo := 1) (hi := 90) hS (by omega) (by omega) (by omega) (by omega)
  obtain ⟨al, dl, sl, b, a, up, d, s⟩ := hI
  have w1 : W (at' + r) = at' + r := W_id (by omega) (by omega)
  refine ⟨⟨left, at' + r, A, D, S⟩, n, u6, m6, ?_, ⟨al, dl, sl, a1, by dsimp only; omega, by dsimp only; omega, ?_, up, d, s⟩, by omega, by omega, ⟨s6.u0, by have := s6.u1; push_cast at this ⊢; omega, s6.m0, s6.m1⟩⟩
  · unfold law03_Section
    rw [e1]
    simp only [Option.bind_some, e2]
    rw [h1]
    simp only [exK, Option.bind_some, e6, w1]
  · intro i hi
    have := a i hi
    dsimp only
    omega

structure VInv (r : law03_River) (i : Nat) (vs : List gauge_Vertical) : Prop where
  l : vs.length = i
  v : ∀ j, j < i → (vs.getD j v0).At = r.At.getD j 0 ∧ In (r.Depth.getD j 0) (vs.getD j v0).Depth ∧ In (r.Speeds.getD j 0) (vs.getD j v0).Speed ∧ 0 ≤ (vs.getD j v0).Depth.Lo ∧ (vs.getD j v0).Depth.Hi ≤ 2000 ∧ -5000 ≤ (vs.getD j v0).Speed.Lo ∧ (vs.getD j v0).Speed.Hi ≤ 5000 ∧ (vs.getD j v0).Depth.Hi ≤ 308 ∧ -420 ≤ (vs.getD j v0).Speed.Lo ∧ (vs.getD j v0).Speed.Hi ≤ 420

theorem gauged_spec {N : Nat} (hN : 60 ≤ N) {bytes : List Int} (hb : Bytes bytes) {u m : Int} {k : Nat} (hs : SOk u m k) (hk : k ≤ 100000) {r : law03_River} {n : Nat} (hr : RvOk r n) (h1n : 1 ≤ n) (hn : n ≤ 15) :
    ∃ g u' m', law03_Gauged N ⟨bytes, u, m⟩ r = some (g, u', m') ∧ GOk g ∧ g.Left = r.Left ∧ g.Right = r.Right ∧ VInv r n g.Verticals ∧ TrueOf g r.Depth r.Speeds ∧ SOk u' m' (k + 100) := by
  obtain ⟨⟨x, v, w, vs⟩, h1, hx, hI, hS⟩ := loopInv (fun s5 => law03_Gauged_b5 N ⟨bytes, u, m⟩ r s5.1 s5.2.1 s5.2.2.1 s5.2.2.2)
    (fun i s => s.1 = (i : Int) ∧ VInv r i s.2.2.2 ∧ SOk s.2.1 s.2.2.1 (k + 4 * i)) n
    (by
      rintro i ⟨x, v, w, vs⟩ hi ⟨rfl, hI, hS⟩
      dsimp only at hI hS ⊢
      have hd := hr.d i hi
      have hsp := hr.s i hi
      obtain ⟨a3, b3, u3, m3, e3, p3, q3, y3, z3, c3, d3, s3⟩ := around_spec (N := N) hb (n := r.Depth.getD i 0) (lo := 0) (hi := 2000) (er := 9) hS (by omega) (by omega) (by omega) (by omega) (by omega) (by omega)
      obtain ⟨a4, b4, u4, m4, e4, p4, q4, y4, z4, c4, d4, s4⟩ := around_spec (N := N) hb (n := r.Speeds.getD i 0) (lo := -5000) (hi := 5000) (er := 20) s3 (by omega) (by omega) (by omega) (by omega) (by omega) (by omega)
      have hlt : decide ((i : Int) < ((r.At.length : Nat) : Int)) = true := by rw [hr.al]; simp; omega
      refine ⟨(((i + 1 : Nat) : Int), u4, m4, vs ++ [⟨r.At.getD i 0, ⟨a3, b3⟩, ⟨a4, b4⟩⟩]), ?_, rfl, ⟨by simp [hI.l], ?_⟩, s4⟩
      · unfold law03_Gauged_b5
        rw [hlt, getI_getD (by rw [hr.al]; exact hi), getI_getD (by rw [hr.dl]; exact hi), getI_getD (by rw [hr.sl]; exact hi)]
        simp only [cond_true, Option.bind_some, e3, e4, W_succ (i := i) (by omega)]
        rw [room_ok (by simp [hI.l]; omega)]
        rfl
      · intro j hj
        by_cases hji : j < i
        · rw [getD_lt (by rw [hI.l]; exact hji)]; exact hI.v j hji
        · obtain rfl : j = vs.length := by rw [hI.l]; omega
          rw [getD_eq, hI.l]
          exact ⟨rfl, ⟨q3, y3⟩, ⟨q4, y4⟩, p3, z3, p4, z4, by dsimp only; omega, by dsimp only; omega, by dsimp only; omega⟩)
    (by
      rintro ⟨x, v, w, vs⟩ ⟨rfl, -⟩
      dsimp only
      unfold law03_Gauged_b5
      rw [hr.al]
      simp)
    n 0 (0, u, m, []) N (by omega) (by omega) ⟨rfl, ⟨rfl, by intro j hj; omega⟩, hs⟩
  dsimp only at hx hI hS
  have hl := hI.l
  have hv := hI.v
  refine ⟨⟨r.Left, r.Right, vs⟩, v, w, ?_, ⟨hr.l0, hr.r1, by dsimp only; omega, by dsimp only; omega, ?_, ?_⟩, rfl, rfl, hI, ⟨by rw [hr.dl]; exact hl.symm, by rw [hr.sl]; exact hl.symm, ?_, ?_⟩, ⟨hS.u0, by have := hS.u1; push_cast at this ⊢; omega, hS.m0, hS.m1⟩⟩
  · unfold law03_Gauged
    dsimp only
    rw [h1]
    rfl
  · intro v' hv'
    obtain ⟨j, hj, rfl⟩ := List.getElem_of_mem hv'
    rw [get_getD (d := v0) hj]
    obtain ⟨p1, p2, p3, p4, p5, p6, p7, -⟩ := hv j (by rw [← hl]; exact hj)
    have pa := hr.a j (by rw [← hl]; exact hj)
    have pd := hr.d j (by rw [← hl]; exact hj)
    unfold In at p2 p3
    dsimp only at pa ⊢
    exact ⟨by omega, by omega, ⟨by omega, by omega, by omega⟩, p4, ⟨by omega, by omega, by omega⟩⟩
  · intro i hi
    dsimp only at hi ⊢
    rw [get_getD (d := v0) (by omega), get_getD (d := v0) hi, (hv i (by omega)).1, (hv (i + 1) (by omega)).1]
    exact hr.up i (by omega)
  · intro i hi
    dsimp only at hi ⊢
    rw [get_getD (d := v0) hi]
    exact (hv i (by omega)).2.1
  · intro i hi
    dsimp only at hi ⊢
    rw [get_getD (d := v0) hi]
    exact (hv i (by omega)).2.2.1
structure Sub (a b : api_Span) : Prop where
  l : b.Lo ≤ a.Lo
  m : a.Lo ≤ a.Hi
  h : a.Hi ≤ b.Hi

theorem Sub.lo {a b : api_Span} (h : Sub a b) : In a.Lo b := ⟨h.l, Int.le_trans h.m h.h⟩

theorem Sub.hi {a b : api_Span} (h : Sub a b) : In a.Hi b := ⟨Int.le_trans h.l h.m, h.h⟩

theorem Sub.refl {a : api_Span} (h : a.Lo ≤ a.Hi) : Sub a a := ⟨Int.le_refl _, h, Int.le_refl _⟩

theorem Sub.spn {a b : api_Span} {A : Nat} (h : Sub a b) (hb : Spn b A) : Spn a A := by
  obtain ⟨l, m, h'⟩ := h
  obtain ⟨x, y, z⟩ := hb
  exact ⟨m, by omega, by omega⟩

theorem times_sub {a b a' b' : api_Span} (ha : Sub a' a) (hb : Sub b' b) : Sub ⟨mn a' b', mx a' b'⟩ ⟨mn a b, mx a b⟩ := by
  have h1 := in_times ha.lo hb.lo
  have h2 := in_times ha.lo hb.hi
  have h3 := in_times ha.hi hb.lo
  have h4 := in_times ha.hi hb.hi
  have e1 : mn a' b' = min (min (min (a'.Lo * b'.Lo) (a'.Lo * b'.Hi)) (a'.Hi * b'.Lo)) (a'.Hi * b'.Hi) := rfl
  have e2 : mx a' b' = max (max (max (a'.Lo * b'.Lo) (a'.Lo * b'.Hi)) (a'.Hi * b'.Lo)) (a'.Hi * b'.Hi) := rfl
  refine ⟨?_, ?_, ?_⟩ <;> dsimp only <;> omega

theorem pan_sub {v v' : gauge_Vertical} {w : Int} (hd : Sub v'.Depth v.Depth) (hs : Sub v'.Speed v.Speed) : Sub (pan v' w) (pan v w) := by
  have h1 := times_sub (a := ⟨w, w⟩) (Sub.refl (Int.le_refl _)) hd
  exact times_sub h1 hs

structure FInv (vs xs : List gauge_Vertical) : Prop where
  l : xs.length = vs.length
  v : ∀ j, j < vs.length → (xs.getD j v0).At = (vs.getD j v0).At ∧ Sub (xs.getD j v0).Depth (vs.getD j v0).Depth ∧ Sub (xs.getD j v0).Speed (vs.getD j v0).Speed

theorem getD_set {α : Type} {l : List α} {i j : Nat} {x d : α} (hi : i < l.length) : (l.set i x).getD j d = if j = i then x else l.getD j d := by
  by_cases h : j = i
  · subst h; simp [List.getD, hi]
  · rw [if_neg h]; simp [List.getD, Ne.symm h]

theorem FInv.set {vs xs : List gauge_Vertical} (h : FInv vs xs) {i : Nat} (hi : i < vs.length) {v : gauge_Vertical} (ha : v.At = (vs.getD i v0).At) (hd : Sub v.Depth (vs.getD i v0).Depth) (hs : Sub v.Speed (vs.getD i v0).Speed) : FInv vs (xs.set i v) := by
  refine ⟨by simp [h.l], fun j hj => ?_⟩
  rw [getD_set (by rw [h.l]; exact hi)]
  split
  · rename_i e; subst e; exact ⟨ha, hd, hs⟩
  · exact h.v j hj


theorem fine_ok {g : gauge_Gauging} (h : GOk g) {xs : List gauge_Vertical} (hI : FInv g.Verticals xs) : GOk ⟨g.Left, g.Right, xs⟩ := by
  have hl := hI.l
  refine ⟨h.l, h.r, by dsimp only; rw [hl]; exact h.n, by dsimp only; rw [hl]; exact h.n', ?_, ?_⟩
  · intro v hv
    obtain ⟨j, hj, rfl⟩ := List.getElem_of_mem hv
    dsimp only at hj ⊢
    have hj' : j < g.Verticals.length := by omega
    obtain ⟨p1, p2, p3⟩ := hI.v j hj'
    have hv := h.v g.Verticals[j] (List.getElem_mem _)
    rw [get_getD (d := v0) hj'] at hv
    rw [get_getD (d := v0) hj]
    exact ⟨by rw [p1]; exact hv.a, by rw [p1]; exact hv.b, p2.spn hv.d, Int.le_trans hv.d0 p2.l, p3.spn hv.s⟩
  · intro i hi
    dsimp only at hi ⊢
    have hi' : i + 1 < g.Verticals.length := by omega
    have hu := h.up i hi'
    rw [get_getD (d := v0) (by omega), get_getD (d := v0) hi'] at hu
    rw [get_getD (d := v0) (by omega), get_getD (d := v0) hi, (hI.v i (by omega)).1, (hI.v (i + 1) hi').1]
    exact hu

theorem fine_wd {g : gauge_Gauging} {xs : List gauge_Vertical} (hI : FInv g.Verticals xs) {i : Nat} (hi : i < g.Verticals.length) : wd ⟨g.Left, g.Right, xs⟩ i = wd g i := by
  have hl := hI.l
  have hat : ∀ j, j < g.Verticals.length → ∀ h1 : j < xs.length, ∀ h2 : j < g.Verticals.length, (xs[j]'h1).At = (g.Verticals[j]'h2).At := by
    intro j hj h1 h2
    rw [get_getD (d := v0) h1, get_getD (d := v0) h2]
    exact (hI.v j hj).1
  unfold wd
  dsimp only
  by_cases h1 : i + 1 < g.Verticals.length
  · rw [dif_pos h1, dif_pos (show i + 1 < xs.length by omega), hat (i + 1) h1]
    by_cases h2 : 0 < i ∧ i - 1 < g.Verticals.length
    · rw [dif_pos h2, dif_pos (show 0 < i ∧ i - 1 < xs.length by omega), hat (i - 1) h2.2]
    · rw [dif_neg h2, dif_neg (show ¬ (0 < i ∧ i - 1 < xs.length) by omega)]
  · rw [dif_neg h1, dif_neg (show ¬ i + 1 < xs.length by omega)]
    by_cases h2 : 0 < i ∧ i - 1 < g.Verticals.length
    · rw [dif_pos h2, dif_pos (show 0 < i ∧ i - 1 < xs.length by omega), hat (i - 1) h2.2]
    · rw [dif_neg h2, dif_neg (show ¬ (0 < i ∧ i - 1 < xs.length) by omega)]

theorem fine_pan {g : gauge_Gauging} {xs : List gauge_Vertical} (hI : FInv g.Verticals xs) {i : Nat} (hi : i < g.Verticals.length) : Sub (panI ⟨g.Left, g.Right, xs⟩ i) (panI g i) := by
  unfold panI
  rw [fine_wd hI hi]
  obtain ⟨-, p2, p3⟩ := hI.v i hi
  exact pan_sub p2 p3
theorem sumBy_le {α : Type} {f g : α → Int} {l : List α} (h : ∀ x ∈ l, f x ≤ g x) : sumBy f l ≤ sumBy g l := by
  unfold sumBy
  induction l with
  | nil => simp
  | cons x l ih =>
    have h1 := h x List.mem_cons_self
    have h2 := ih (fun y hy => h y (List.mem_cons_of_mem _ hy))
    simp only [List.map_cons, List.sum_cons]
    omega
theorem flow_sub {g : gauge_Gauging} {xs : List gauge_Vertical} (hI : FInv g.Verticals xs) :
    sumBy (·.Lo) (pans g) ≤ sumBy (·.Lo) (pans ⟨g.Left, g.Right, xs⟩) ∧ sumBy (·.Hi) (pans ⟨g.Left, g.Right, xs⟩) ≤ sumBy (·.Hi) (pans g) := by
  have hl := hI.l
  unfold pans
  dsimp only
  rw [hl, sumBy_map, sumBy_map, sumBy_map, sumBy_map]
  exact ⟨sumBy_le fun i hi => (fine_pan hI (List.mem_range.1 hi)).l, sumBy_le fun i hi => (fine_pan hI (List.mem_range.1 hi)).h⟩

theorem real_in_flow {g : gauge_Gauging} {ds ss : List Int} (ht : TrueOf g ds ss) : sumBy (·.Lo) (pans g) ≤ realSum g ds ss g.Verticals.length ∧ realSum g ds ss g.Verticals.length ≤ sumBy (·.Hi) (pans g) := real_in ht _ (Nat.le_refl _)

end Go.Nilo
