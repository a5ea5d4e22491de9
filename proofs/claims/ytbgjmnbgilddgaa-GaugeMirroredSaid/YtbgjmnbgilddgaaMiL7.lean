/-
  What the plain functions compute, in plain arithmetic, part 7. Conditions: what each theorem names.
-/
import Derived.Test.YtbgjmnbgilddgaaMiL6
set_option linter.unusedSimpArgs false
set_option linter.unusedVariables false
namespace Go.Nilo
theorem getD_lt {α : Type} {l : List α} {x d : α} {j : Nat} (h : j < l.length) : (l ++ [x]).getD j d = l.getD j d := by simp [List.getD, List.getElem?_append_left h]
theorem getD_eq {α : Type} {l : List α} {x d : α} : (l ++ [x]).getD l.length d = x := by simp [List.getD]
theorem get_getD {α : Type} {l : List α} {d : α} {j : Nat} (h : j < l.length) : l[j] = l.getD j d := by simp [List.getD, h]

structure ROk (r : law03_River) (n : Nat) : Prop where
  al : r.At.length = n
  dl : r.Depth.length = n
  sl : r.Speeds.length = n
  l0 : 0 ≤ r.Left
  r1 : r.Right ≤ 10000
  a : ∀ i, i < n → r.Left < r.At.getD i 0 ∧ r.At.getD i 0 < r.Right
  up : ∀ i, i + 1 < n → r.At.getD i 0 < r.At.getD (i + 1) 0
  d : ∀ i, i < n → 0 ≤ r.Depth.getD i 0 ∧ r.Depth.getD i 0 ≤ 299
  s : ∀ i, i < n → -40 ≤ r.Speeds.getD i 0 ∧ r.Speeds.getD i 0 ≤ 400

structure SecInv (left : Int) (i : Nat) (at' : Int) (A D S : List Int) : Prop where
  al : A.length = i
  dl : D.length = i
  sl : S.length = i
  b : left ≤ at' ∧ at' ≤ left + 90 * i
  a : ∀ j, j < i → left < A.getD j 0 ∧ A.getD j 0 ≤ at'
  up : ∀ j, j + 1 < i → A.getD j 0 < A.getD (j + 1) 0
  d : ∀ j, j < i → 0 ≤ D.getD j 0 ∧ D.getD j 0 ≤ 299
  s : ∀ j, j < i → -40 ≤ S.getD j 0 ∧ S.getD j 0 ≤ 400
theorem SecInv.step {left : Int} {i : Nat} {at' r d s : Int} {A D S : List Int} (h : SecInv left i at' A D S) (hr : 1 ≤ r ∧ r ≤ 90) (hd : 0 ≤ d ∧ d ≤ 299) (hs : -40 ≤ s ∧ s ≤ 400) :
    SecInv left (i + 1) (at' + r) (A ++ [at' + r]) (D ++ [d]) (S ++ [s]) := by
  obtain ⟨al, dl, sl, b, a, up, d', s'⟩ := h
  refine ⟨by simp [al], by simp [dl], by simp [sl], by omega, ?_, ?_, ?_, ?_⟩
  · intro j hj
    by_cases hji : j < i
    · rw [getD_lt (by omega)]; have := a j hji; omega
    · obtain rfl : j = A.length := by omega
      rw [getD_eq]; omega
  · intro j hj
    by_cases hji : j + 1 < i
    · rw [getD_lt (by omega), getD_lt (by omega)]; exact up j hji
    · obtain rfl : i = j + 1 := by omega
      rw [getD_lt (by omega), show j + 1 = A.length by omega, getD_eq]
      have := a j (by omega)
      omega
  · intro j hj
    by_cases hji : j < i
    · rw [getD_lt (by omega)]; exact d' j hji
    · obtain rfl : j = D.length := by omega
      rw [getD_eq]; exact hd
  · intro j hj
    by_cases hji : j < i
    · rw [getD_lt (by omega)]; exact s' j hji
    · obtain rfl : j = S.length := by omega
      rw [getD_eq]; exact hs

theorem section_spec {N : Nat} (hN : 60 ≤ N) {bytes : List Int} (hb : Bytes bytes) {u m : Int} {k : Nat} (hs : SOk u m k) (hk : k ≤ 100000) {most : Int} (hm : 1 ≤ most ∧ most ≤ 15) :
    ∃ r n u' m', law03_Section N ⟨bytes, u, m⟩ most = some (r, u', m') ∧ ROk r n ∧ 1 ≤ n ∧ (n : Int) ≤ most ∧ SOk u' m' (k + 100) := by
  obtain ⟨left, u1, m1, e1, a1, b1, s1⟩ := next_spec (N := N) hb (n := 50) hs (by omega)
  obtain ⟨n', u2, m2, e2, a2, b2, s2⟩ := within_spec (N := N) hb (lo := 1) (hi := most) s1 (by omega) (by omega) (by omega) (by omega)
  obtain ⟨n, rfl⟩ : ∃ k : Nat, n' = (k : Int) := ⟨n'.toNat, by omega⟩
  obtain ⟨⟨at', x, v, w, A, D, S⟩, h1, hx, hI, hS⟩ := loopInv (fun s6 => law03_Section_b6 N ⟨bytes, u, m⟩ ((n : Int), u2, m2) s6.1 s6.2.1 s6.2.2.1 s6.2.2.2.1 s6.2.2.2.2.1 s6.2.2.2.2.2.1 s6.2.2.2.2.2.2)
    (fun i s => s.2.1 = (i : Int) ∧ SecInv left i s.1 s.2.2.2.2.1 s.2.2.2.2.2.1 s.2.2.2.2.2.2 ∧ SOk s.2.2.1 s.2.2.2.1 (k + 2 + 3 * i)) n
    (by
      rintro i ⟨at', x, v, w, A, D, S⟩ hi ⟨rfl, hI, hS⟩
      dsimp only at hI hS ⊢
      obtain ⟨r, u3, m3, e3, a3, b3, s3⟩ := within_spec (N := N) hb (lo := 1) (hi := 90) hS (by omega) (by omega) (by omega) (by omega)
      obtain ⟨d, u4, m4, e4, a4, b4, s4⟩ := next_spec (N := N) hb (n := 300) s3 (by omega)
      obtain ⟨s, u5, m5, e5, a5, b5, s5⟩ := within_spec (N := N) hb (lo := -40) (hi := 400) s4 (by omega) (by omega) (by omega) (by omega)
      have hbb := hI.b
      have w1 : W (at' + r) = at' + r := W_id (by omega) (by omega)
      have hlt : decide ((i : Int) < (n : Int)) = true := by simp; omega
      refine ⟨(at' + r, ((i + 1 : Nat) : Int), u5, m5, A ++ [at' + r], D ++ [d], S ++ [s]), ?_, rfl, hI.step ⟨a3, b3⟩ ⟨a4, by omega⟩ ⟨a5, b5⟩, s5⟩
      unfold law03_Section_b6
      rw [hlt]
      simp only [cond_true, e3, Option.bind_some, w1, e4, e5, W_succ (i := i) (by omega)]
      rw [room_ok (by simp [hI.al]; omega), room_ok (by simp [hI.dl]; omega), room_ok (by simp [hI.sl]; omega)]
      rfl)
    (by
      rintro ⟨at', x, v, w, A, D, S⟩ ⟨rfl, -⟩
      dsimp only
      unfold law03_Section_b6
      simp)
    n 0 (left, 0, u2, m2, [], [], []) N (by omega) (by omega) ⟨rfl, ⟨rfl, rfl, rfl, by omega, by intro j hj; omega, by intro j hj; omega, by intro j hj; omega, by intro j hj; omega⟩, s2⟩
  dsimp only at hx hI hS
  obtain ⟨r, u6, m6, e6, a6, b6, s6⟩ := within_spec (N := N) hb (lo := 1) (hi := 90) hS (by omega) (by omega) (by omega) (by omega)
  obtain ⟨al, dl, sl, b, a, up, d, s⟩ := hI
  have w1 : W (at' + r) = at' + r := W_id (by omega) (by omega)
  refine ⟨⟨left, at' + r, A, D, S⟩, n, u6, m6, ?_, ⟨al, dl, sl, a1, by dsimp only; omega, ?_, up, d, s⟩, by omega, by omega, ⟨s6.u0, by have := s6.u1; push_cast at this ⊢; omega, s6.m0, s6.m1⟩⟩
  · unfold law03_Section
    rw [e1]
    simp only [Option.bind_some, e2]
    rw [h1]
    simp only [exK, Option.bind_some, e6, w1]
  · intro i hi
    have := a i hi
    dsimp only
    omega

structure VInv (r : law03_River) (i : Nat) (vs : List gauge_Vertical) : Prop where
  l : vs.length = i
  v : ∀ j, j < i → (vs.getD j v0).At = r.At.getD j 0 ∧ In (r.Depth.getD j 0) (vs.getD j v0).Depth ∧ In (r.Speeds.getD j 0) (vs.getD j v0).Speed ∧ 0 ≤ (vs.getD j v0).Depth.Lo ∧ (vs.getD j v0).Depth.Hi ≤ 2000 ∧ -5000 ≤ (vs.getD j v0).Speed.Lo ∧ (vs.getD j v0).Speed.Hi ≤ 5000

theorem gauged_spec {N : Nat} (hN : 60 ≤ N) {bytes : List Int} (hb : Bytes bytes) {u m : Int} {k : Nat} (hs : SOk u m k) (hk : k ≤ 100000) {r : law03_River} {n : Nat} (hr : ROk r n) (h1n : 1 ≤ n) (hn : n ≤ 15) :
    ∃ g u' m', law03_Gauged N ⟨bytes, u, m⟩ r = some (g, u', m') ∧ GOk g ∧ g.Left = r.Left ∧ g.Right = r.Right ∧ VInv r n g.Verticals ∧ TrueOf g r.Depth r.Speeds ∧ SOk u' m' (k + 100) := by
  obtain ⟨⟨x, v, w, vs⟩, h1, hx, hI, hS⟩ := loopInv (fun s5 => law03_Gauged_b5 N ⟨bytes, u, m⟩ r s5.1 s5.2.1 s5.2.2.1 s5.2.2.2)
    (fun i s => s.1 = (i : Int) ∧ VInv r i s.2.2.2 ∧ SOk s.2.1 s.2.2.1 (k + 4 * i)) n
    (by
      rintro i ⟨x, v, w, vs⟩ hi ⟨rfl, hI, hS⟩
      dsimp only at hI hS ⊢
      have hd := hr.d i hi
      have hsp := hr.s i hi
      obtain ⟨a3, b3, u3, m3, e3, p3, q3, y3, z3, -, -, s3⟩ := around_spec (N := N) hb (n := r.Depth.getD i 0) (lo := 0) (hi := 2000) (er := 9) hS (by omega) (by omega) (by omega) (by omega) (by omega) (by omega)
      obtain ⟨a4, b4, u4, m4, e4, p4, q4, y4, z4, -, -, s4⟩ := around_spec (N := N) hb (n := r.Speeds.getD i 0) (lo := -5000) (hi := 5000) (er := 20) s3 (by omega) (by omega) (by omega) (by omega) (by omega) (by omega)
      have hlt : decide ((i : Int) < ((r.At.length : Nat) : Int)) = true := by rw [hr.al]; simp; omega
      refine ⟨(((i + 1 : Nat) : Int), u4, m4, vs ++ [⟨r.At.getD i 0, ⟨a3, b3⟩, ⟨a4, b4⟩⟩]), ?_, rfl, ⟨by simp [hI.l], ?_⟩, s4⟩
      · unfold law03_Gauged_b5
        rw [hlt, getI_getD (by rw [hr.al]; exact hi), getI_getD (by rw [hr.dl]; exact hi), getI_getD (by rw [hr.sl]; exact hi)]
        simp only [cond_true, Option.bind_some, e3, e4, W_succ (i := i) (by omega)]
        rw [room_ok (by simp [hI.l]; omega)]
        rfl
      · intro j hj
        by_cases hji : j < i
        · rw [getD_lt (by rw [hI.l]; exact hji)]; exact hI.v j hji
        · obtain rfl : j = vs.length := by rw [hI.l]; omega
          rw [getD_eq, hI.l]
          exact ⟨rfl, ⟨q3, y3⟩, ⟨q4, y4⟩, p3, z3, p4, z4⟩)
    (by
      rintro ⟨x, v, w, vs⟩ ⟨rfl, -⟩
      dsimp only
      unfold law03_Gauged_b5
      rw [hr.al]
      simp)
    n 0 (0, u, m, []) N (by omega) (by omega) ⟨rfl, ⟨rfl, by intro j hj; omega⟩, hs⟩
  dsimp only at hx hI hS
  have hl := hI.l
  have hv := hI.v
  refine ⟨⟨r.Left, r.Right, vs⟩, v, w, ?_, ⟨hr.l0, hr.r1, by dsimp only; omega, by dsimp only; omega, ?_, ?_⟩, rfl, rfl, hI, ⟨by rw [hr.dl]; exact hl.symm, by rw [hr.sl]; exact hl.symm, ?_, ?_⟩, ⟨hS.u0, by have := hS.u1; push_cast at this ⊢; omega, hS.m0, hS.m1⟩⟩
  · unfold law03_Gauged
    dsimp only
    rw [h1]
    rfl
  · intro v' hv'
    obtain ⟨j, hj, rfl⟩ := List.getElem_of_mem hv'
    rw [get_getD (d := v0) hj]
    obtain ⟨p1, p2, p3, p4, p5, p6, p7⟩ := hv j (by rw [← hl]; exact hj)
    have pa := hr.a j (by rw [← hl]; exact hj)
    have pd := hr.d j (by rw [← hl]; exact hj)
    unfold In at p2 p3
    dsimp only at pa ⊢
    exact ⟨by omega, by omega, ⟨by omega, by omega, by omega⟩, p4, ⟨by omega, by omega, by omega⟩⟩
  · intro i hi
    dsimp only at hi ⊢
    rw [get_getD (d := v0) (by omega), get_getD (d := v0) hi, (hv i (by omega)).1, (hv (i + 1) (by omega)).1]
    exact hr.up i (by omega)
  · intro i hi
    dsimp only at hi ⊢
    rw [get_getD (d := v0) hi]
    exact (hv i (by omega)).2.1
  · intro i hi
    dsimp only at hi ⊢
    rw [get_getD (d := v0) hi]
    exact (hv i (by omega)).2.2.1
end Go.Nilo
