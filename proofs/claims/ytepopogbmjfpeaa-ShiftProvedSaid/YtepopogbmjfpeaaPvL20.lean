/-
  What the plain functions compute, in plain arithmetic, part 20. Conditions: what each theorem names.
-/
import Derived.Test.YtepopogbmjfpeaaPvL19
set_option linter.unusedSimpArgs false
set_option linter.unusedVariables false
namespace Go.Nilo
theorem copy_rec {N : Nat} {r : shift_Record} (h1 : r.Rating.length ≤ 50) (h2 : r.Gaugings.length ≤ 50) : law05_CopyRecord N r = some r := by
  unfold law05_CopyRecord kit_Copy_shift_Mark kit_Copy_shift_Gauging
  rw [room_ok (by omega), Option.bind_some, Option.bind_some, room_ok (by omega), Option.bind_some, Option.bind_some]
theorem SOk.up {u m : Int} {k k' : Nat} (h : SOk u m k) (hk : k ≤ k') : SOk u m k' := ⟨h.u0, by have := h.u1; omega, h.m0, h.m1⟩
theorem getD_set' {α : Type} {l : List α} {i j : Nat} {x d : α} (hi : i < l.length) : (l.set i x).getD j d = if j = i then x else l.getD j d := by
  by_cases h : j = i
  · subst h; simp [List.getD, hi]
  · rw [if_neg h]; simp [List.getD, Ne.symm h]
/-- Turns that are tried. -/
theorem mine_loop {N : Nat} (hN : 700 ≤ N) {tries : List Int} (ht : Bytes tries) {r : shift_Record} {c : List Int} {u0 m0 : Int} (h30 : r.Gaugings.length ≤ 30) {up0 : Bool} {u m : Int} {k : Nat} (hs : SOk u m k) (hk : k ≤ 10000) :
    ∃ mine up x u' m', loopO (fun s41 : List shift_Turn × Bool × Int × Int × Int => law05_ShiftProved_b41 N tries (r, c, u0, m0) s41.1 s41.2.1 s41.2.2.1 s41.2.2.2.1 s41.2.2.2.2) N ([], up0, 0, u, m) = some (.go (mine, up, x, u', m')) ∧ TOk r.Gaugings.length mine ∧ mine.length ≤ 30 ∧ SOk u' m' (k + 30) := by
  obtain ⟨⟨mine, up, x, u', m'⟩, h1, hx, hT, hlt, hup, hl, hS⟩ := loopInv (fun s41 : List shift_Turn × Bool × Int × Int × Int => law05_ShiftProved_b41 N tries (r, c, u0, m0) s41.1 s41.2.1 s41.2.2.1 s41.2.2.2.1 s41.2.2.2.2)
    (fun i s => s.2.2.1 = (i : Int) ∧ TOk r.Gaugings.length s.1 ∧ (∀ j, j + 1 = s.1.length → (s.1.getD j tn0).Gauging < (i : Int)) ∧ (∀ j, j + 1 = s.1.length → (s.1.getD j tn0).Up ≠ s.2.1) ∧ s.1.length ≤ i ∧ SOk s.2.2.2.1 s.2.2.2.2 (k + i)) r.Gaugings.length
    (by
      rintro i ⟨mine, up, x, v, w⟩ hi ⟨rfl, hT, hlt, hup, hl, hS⟩
      dsimp only at hT hlt hup hl hS ⊢
      obtain ⟨a, u1, m1, e1, a0, a1, s1⟩ := next_spec (N := N) ht (n := 3) hS (by omega)
      unfold law05_ShiftProved_b41 law05_ShiftProved_j47
      dsimp only
      rw [lt_dec hi, cond_true, e1, Option.bind_some, W_succ (by omega)]
      cases ha : (a == 0) with
      | true =>
        rw [cond_true, room_ok (by simp; omega), Option.bind_some]
        refine ⟨_, rfl, rfl, hT.snoc (by omega) ⟨by dsimp only; omega, by dsimp only; omega⟩ (fun j hj => ⟨hlt j hj, hup j hj⟩), fun j hj => ?_, fun j hj => ?_, by simp; omega, s1⟩
        · simp only [List.length_append, List.length_cons, List.length_nil] at hj
          obtain rfl : j = mine.length := by omega
          dsimp only
          rw [getD_eq]
          dsimp only
          omega
        · simp only [List.length_append, List.length_cons, List.length_nil] at hj
          obtain rfl : j = mine.length := by omega
          dsimp only
          rw [getD_eq]
          show up ≠ !up
          cases up <;> decide
      | false =>
        rw [cond_false]
        exact ⟨_, rfl, rfl, hT, fun j hj => by have := hlt j hj; dsimp only; omega, hup, by dsimp only; omega, s1⟩)
    (by
      rintro ⟨mine, up, x, v, w⟩ ⟨rfl, -⟩
      dsimp only
      unfold law05_ShiftProved_b41
      dsimp only
      rw [ge_dec, cond_false])
    r.Gaugings.length 0 ([], up0, 0, u, m) N (by omega) (by omega) ⟨rfl, TOk.nil, fun j hj => by simp at hj, fun j hj => by simp at hj, by simp, hs⟩
  dsimp only at hT hl hS
  exact ⟨mine, up, x, u', m', h1, hT, by omega, hS.up (by omega)⟩
/-- Wider flows. -/
structure WOk (g g' : shift_Gauging) : Prop where
  d : g'.Day = g.Day
  s : g'.Stage = g.Stage
  lo : 0 ≤ g'.Flow.Lo ∧ g'.Flow.Lo ≤ g.Flow.Lo
  hi : g.Flow.Hi ≤ g'.Flow.Hi ∧ g'.Flow.Hi ≤ 1000000000
theorem wide_loop {N : Nat} (hN : 700 ≤ N) {wider : List Int} (hw : Bytes wider) {r : shift_Record} (hr : RecOk r) {u m : Int} {k : Nat} (hs : SOk u m k) (hk : k ≤ 10000) :
    ∃ l x u' m', loopO (fun s16 : List shift_Gauging × Int × Int × Int => law05_ShiftProved_b16 N wider r s16.1 s16.2.1 s16.2.2.1 s16.2.2.2) N (r.Gaugings, 0, u, m) = some (.go (l, x, u', m')) ∧ l.length = r.Gaugings.length ∧ ∀ j, j < r.Gaugings.length → WOk (r.Gaugings.getD j g0) (l.getD j g0) := by
  have h30 := hr.g30
  obtain ⟨⟨l, x, u', m'⟩, h1, hx, hl, hW, hrest, hS⟩ := loopInv (fun s16 : List shift_Gauging × Int × Int × Int => law05_ShiftProved_b16 N wider r s16.1 s16.2.1 s16.2.2.1 s16.2.2.2)
    (fun i s => s.2.1 = (i : Int) ∧ s.1.length = r.Gaugings.length ∧ (∀ j, j < i → WOk (r.Gaugings.getD j g0) (s.1.getD j g0)) ∧ (∀ j, i ≤ j → s.1.getD j g0 = r.Gaugings.getD j g0) ∧ SOk s.2.2.1 s.2.2.2 (k + 4 * i)) r.Gaugings.length
    (by
      rintro i ⟨l, x, v, w⟩ hi ⟨rfl, hl, hW, hrest, hS⟩
      dsimp only at hl hW hrest hS ⊢
      have hg := hr.g (r.Gaugings.getD i g0) (by rw [← get_getD hi]; exact List.getElem_mem _)
      have hf := hg.f
      obtain ⟨a, u1, m1, e1, a0, a1, s1⟩ := next_spec (N := N) hw (n := 2) hS (by omega)
      obtain ⟨b, u2, m2, e2, b0, b1, s2⟩ := next_spec (N := N) hw (n := 60) s1 (by omega)
      obtain ⟨c, u3, m3, e3, c0, c1, s3⟩ := next_spec (N := N) hw (n := 2) s2 (by omega)
      obtain ⟨d, u4, m4, e4, d0, d1, s4⟩ := next_spec (N := N) hw (n := 60) s3 (by omega)
      have p1 : 0 ≤ a * b ∧ a * b ≤ 60 := by
        have := mul_bd a0 b0 (show a ≤ 1 by omega) (show b ≤ 60 by omega)
        omega
      have p2 : 0 ≤ c * d ∧ c * d ≤ 60 := by
        have := mul_bd c0 d0 (show c ≤ 1 by omega) (show d ≤ 60 by omega)
        omega
      refine ⟨(l.set i ⟨(r.Gaugings.getD i g0).Day, (r.Gaugings.getD i g0).Stage, ⟨max 0 ((r.Gaugings.getD i g0).Flow.Lo - a * b), min 1000000000 ((r.Gaugings.getD i g0).Flow.Hi + c * d)⟩⟩, ((i + 1 : Nat) : Int), u4, m4), ?_, rfl, by simp [hl], fun j hj => ?_, fun j hj => ?_, s4.up (by omega)⟩
      · unfold law05_ShiftProved_b16
        rw [lt_dec hi, cond_true, getI_d g0 (by omega), Option.bind_some, e1, Option.bind_some]
        show Option.bind (kit_Stream_Next N ⟨wider, u1, m1⟩ 60) _ = _
        rw [e2, Option.bind_some]
        show Option.bind (kit_Stream_Next N ⟨wider, u2, m2⟩ 2) _ = _
        rw [e3, Option.bind_some]
        show Option.bind (kit_Stream_Next N ⟨wider, u3, m3⟩ 60) _ = _
        rw [e4, Option.bind_some, hrest i (Nat.le_refl _)]
        show Option.bind (law05_span N (max 0 (W ((r.Gaugings.getD i g0).Flow.Lo - W (a * b)))) (min 1000000000 (W ((r.Gaugings.getD i g0).Flow.Hi + W (c * d))))) _ = _
        rw [W_sm (n := a * b) (by omega) (by omega), W_sm (n := c * d) (by omega) (by omega), W_sm (n := (r.Gaugings.getD i g0).Flow.Lo - a * b) (by omega) (by omega), W_sm (n := (r.Gaugings.getD i g0).Flow.Hi + c * d) (by omega) (by omega)]
        unfold law05_span
        rw [Option.bind_some, Option.bind_some, W_succ (by omega), Int.toNat_natCast]
      · dsimp only
        rw [getD_set' (by omega)]
        by_cases e : j = i
        · subst e
          rw [if_pos rfl]
          exact ⟨rfl, rfl, by dsimp only; omega, by dsimp only; omega⟩
        · rw [if_neg e]
          exact hW j (by omega)
      · dsimp only
        rw [getD_set' (by omega), if_neg (by omega)]
        exact hrest j (by omega))
    (by
      rintro ⟨l, x, v, w⟩ ⟨rfl, -⟩
      dsimp only
      unfold law05_ShiftProved_b16
      rw [ge_dec, cond_false])
    r.Gaugings.length 0 (r.Gaugings, 0, u, m) N (by omega) (by omega) ⟨rfl, rfl, fun j hj => absurd hj (Nat.not_lt_zero _), fun j _ => rfl, hs⟩
  exact ⟨l, x, u', m', h1, hl, hW⟩
theorem wide_least {r : shift_Record} (hr : RecOk r) (h : (passes r).all spanOk = true) {l : List shift_Gauging} (hl : l.length = r.Gaugings.length) (hW : ∀ j, j < r.Gaugings.length → WOk (r.Gaugings.getD j g0) (l.getD j g0)) :
    RecOk ⟨r.Rating, l⟩ ∧ (passes ⟨r.Rating, l⟩).all spanOk = true ∧ leastF (passes ⟨r.Rating, l⟩) ≤ leastF (passes r) := by
  have hv := passes_vl hr h
  have hpl : (passes r).length = r.Gaugings.length := by simp [passes]
  have hr' : RecOk ⟨r.Rating, l⟩ := by
    refine ⟨hr.rt, by have := hr.g1; dsimp only; omega, by have := hr.g30; dsimp only; omega, fun g hg => ?_, fun i hi => ?_⟩
    · obtain ⟨i, hi, rfl⟩ := List.getElem_of_mem hg
      have hi' : i < r.Gaugings.length := by
        have : i < l.length := hi
        omega
      rw [get_getD (d := g0)]
      have hg := hr.g (r.Gaugings.getD i g0) (by rw [← get_getD hi']; exact List.getElem_mem _)
      have w := hW i hi'
      have e : (⟨r.Rating, l⟩ : shift_Record).Gaugings.getD i g0 = l.getD i g0 := rfl
      rw [e]
      have f := hg.f
      have w1 := w.lo
      have w2 := w.hi
      exact ⟨by rw [w.d]; exact hg.d, by rw [w.s]; exact hg.s, by omega, by omega, by omega⟩
    · have hi' : i + 1 < l.length := hi
      show (l.getD i g0).Day < (l.getD (i + 1) g0).Day
      rw [(hW i (by omega)).d, (hW (i + 1) (by omega)).d]
      exact hr.d i (by omega)
  have hsp : ∀ i, i < r.Gaugings.length → spanOk (pspan r.Rating (l.getD i g0)) = true ∧ (pspan r.Rating (l.getD i g0)).Lo ≤ (pspan r.Rating (r.Gaugings.getD i g0)).Lo ∧ (pspan r.Rating (r.Gaugings.getD i g0)).Hi ≤ (pspan r.Rating (l.getD i g0)).Hi := fun i hi => by
    have w := hW i hi
    refine pspan_wide hr.rt w.s w.lo.2 w.hi.1 ?_
    rw [List.all_eq_true] at h
    refine h _ (List.mem_map.2 ⟨r.Gaugings.getD i g0, ?_, rfl⟩)
    rw [← get_getD hi]
    exact List.getElem_mem _
  have hok : (passes ⟨r.Rating, l⟩).all spanOk = true := by
    rw [List.all_eq_true]
    intro s hs
    obtain ⟨g, hg, rfl⟩ := List.mem_map.1 hs
    obtain ⟨i, hi, rfl⟩ := List.getElem_of_mem hg
    have hi' : i < l.length := hi
    rw [get_getD (d := g0)]
    exact (hsp i (by omega)).1
  have hv' := passes_vl hr' hok
  refine ⟨hr', hok, ?_⟩
  obtain ⟨hc, hm⟩ := course_spec hv
  rw [← hm]
  refine least_le hv' (Crs.of ?_ fun i hi => ?_)
  · have := hc.len
    simp only [passes, List.length_map] at this ⊢
    omega
  · have hi' : i < r.Gaugings.length := by simpa [passes, hl] using hi
    have e1 : (passes ⟨r.Rating, l⟩).getD i s00 = pspan r.Rating (l.getD i g0) := by simp [passes, List.getD, show i < l.length by omega]
    have e2 : (passes r).getD i s00 = pspan r.Rating (r.Gaugings.getD i g0) := by simp [passes, List.getD, hi']
    have := hc.at_ i (by omega)
    rw [e2] at this
    rw [e1]
    have := hsp i hi'
    omega
theorem proved_law {N : Nat} (hN : 700 ≤ N) {bs tries wider : List Int} (hb : Bytes bs) (ht : Bytes tries) (hw : Bytes wider) : law05_ShiftProved N bs tries wider = some true := by
  have s0 : SOk 0 0 0 := ⟨by decide, by decide, by decide, by decide⟩
  unfold law05_ShiftProved
  rw [show kit_New N bs = some (0, 0) from rfl, Option.bind_some]
  obtain ⟨r, c, u, m, k, a1, a2, a3, hg⟩ := Gauged_spec hN hb (u := 0) (m := 0) (k := 0) s0 (by omega) (most := 12) (by omega)
  show Option.bind (law05_Gauged N ⟨bs, 0, 0⟩ ((12 : Nat) : Int)) _ = _
  rw [a1, Option.bind_some, show kit_New N tries = some (0, 0) from rfl, Option.bind_some, show kit_New N wider = some (0, 0) from rfl, Option.bind_some]
  obtain ⟨hok, hcr⟩ := hg.crs (by omega)
  have hr := hg.rcd (by omega)
  have hv := passes_vl hr hok
  have h30 := hr.g30
  have hrl := hr.rt.l12
  have hpl : (passes r).length = r.Gaugings.length := by simp [passes]
  obtain ⟨z, z1, z2, z3⟩ := Zigzag_spec hN hr hok
  show Option.bind (shift_Least N r) (fun r_4 => Option.bind (shift_Zigzag N r) _) = _
  rw [Least_spec hN hr hok, Option.bind_some, z1, Option.bind_some]
  show cond (((0 : Int) != 0) || ((0 : Int) != 0)) _ _ = _
  rw [show (((0 : Int) != 0) || ((0 : Int) != 0)) = false from rfl, cond_false]
  have hpv : ∀ l : List shift_Turn, TOk (passes r).length l → l.length ≤ 100 → ∃ n, shift_Proves N r l = some (n, 0) ∧ n ≤ leastF (passes r) := fun l h1 h2 => ⟨_, Proves_ok hN hr hok h1 h2, proves_le hv h1⟩
  -- turns that are tried
  obtain ⟨⟨x, v, w⟩, l1, hx, hS⟩ := loopInv (fun s11 : Int × Int × Int => law05_ShiftProved_b11 N tries (r, c, u, m) (courseF (passes r), leastF (passes r), 0) s11.1 s11.2.1 s11.2.2)
    (fun i s => s.1 = (i : Int) ∧ SOk s.2.1 s.2.2 (31 * i)) 6
    (by
      rintro i ⟨x, v, w⟩ hi ⟨rfl, hS⟩
      dsimp only at hS ⊢
      obtain ⟨a, u1, m1, e1, a0, a1, s1⟩ := next_spec (N := N) ht (n := 2) hS (by omega)
      obtain ⟨mine, up, y, u2, m2, b1, b2, b3, b4⟩ := mine_loop hN ht (r := r) (c := c) (u0 := u) (m0 := m) h30 (up0 := (a == 0)) s1 (by omega)
      obtain ⟨n, n1, n2⟩ := hpv mine (by rw [hpl]; exact b2) (by omega)
      refine ⟨(((i + 1 : Nat) : Int), u2, m2), ?_, rfl, b4.up (by omega)⟩
      unfold law05_ShiftProved_b11
      rw [dT (show (i : Int) < 6 by omega), cond_true, e1, Option.bind_some]
      show Option.bind (loopO (fun s41 : List shift_Turn × Bool × Int × Int × Int => law05_ShiftProved_b41 N tries (r, c, u, m) s41.1 s41.2.1 s41.2.2.1 s41.2.2.2.1 s41.2.2.2.2) N ([], (a == 0), 0, u1, m1)) _ = _
      rw [b1, Option.bind_some]
      show Option.bind (shift_Proves N r mine) _ = _
      rw [n1, Option.bind_some]
      show cond (((0 : Int) != 0) || (decide (leastF (passes r) < n))) _ _ = _
      rw [dF (by omega), W_succ (by omega)]
      rfl)
    (by
      rintro ⟨x, v, w⟩ ⟨rfl, -⟩
      dsimp only
      unfold law05_ShiftProved_b11
      rw [dF (by omega), cond_false])
    6 0 (0, 0, 0) N (by omega) (by omega) ⟨rfl, s0⟩
  dsimp only at hS
  show Option.bind (loopO (fun s11 : Int × Int × Int => law05_ShiftProved_b11 N tries (r, c, u, m) (courseF (passes r), leastF (passes r), 0) s11.1 s11.2.1 s11.2.2) N (0, 0, 0)) _ = _
  rw [l1, Option.bind_some]
  -- wider spans
  have hj : law05_ShiftProved_j12 N (r, c, u, m) (0, 0) (courseF (passes r), leastF (passes r), 0) wider = some true := by
    unfold law05_ShiftProved_j12
    show Option.bind (law05_CopyRecord N r) _ = _
    rw [copy_rec (by omega) (by omega), Option.bind_some]
    obtain ⟨l, y, u1, m1, w1, w2, w3⟩ := wide_loop hN hw hr s0 (by omega)
    show Option.bind (loopO (fun s16 : List shift_Gauging × Int × Int × Int => law05_ShiftProved_b16 N wider r s16.1 s16.2.1 s16.2.2.1 s16.2.2.2) N (r.Gaugings, 0, 0, 0)) _ = _
    rw [w1, Option.bind_some]
    obtain ⟨q1, q2, q3⟩ := wide_least hr hok w2 w3
    show Option.bind (shift_Least N ⟨r.Rating, l⟩) _ = _
    rw [Least_spec hN q1 q2, Option.bind_some]
    show Option.bind (cond (((0 : Int) == 0) && (decide (leastF (passes ⟨r.Rating, l⟩) ≤ leastF (passes r)))) _ _) _ = _
    rw [dT q3, awake_true hN]
    rfl
  show cond (decide (0 < ((z.length : Nat) : Int))) (Option.bind (kit_Stream_Next N ⟨tries, v, w⟩ ((z.length : Nat) : Int)) _) (law05_ShiftProved_j12 N (r, c, u, m) (0, 0) (courseF (passes r), leastF (passes r), 0) wider) = _
  by_cases hz : 0 < z.length
  · rw [dT (by omega), cond_true]
    obtain ⟨a, u1, m1, e1, p0, p1, s1⟩ := next_spec (N := N) ht (n := (z.length : Int)) hS (by omega)
    obtain ⟨q, rfl⟩ := Int.eq_ofNat_of_zero_le p0
    have hq : q ≤ z.length := by omega
    have hs1 : subO z 0 (q : Int) = some (z.take q) := by
      unfold subO
      rw [if_pos (by omega)]
      simp
    have hs2 : subO z (q : Int) ((z.length : Nat) : Int) = some (z.drop q) := by
      unfold subO
      rw [if_pos (by omega)]
      congr 1
      simp only [Int.toNat_natCast]
      rw [List.take_of_length_le (by rw [List.length_drop]; omega)]
    rw [e1, Option.bind_some]
    show Option.bind (subO z 0 (q : Int)) (fun sub => Option.bind (subO z (q : Int) ((z.length : Nat) : Int)) _) = _
    rw [hs1, Option.bind_some, hs2, Option.bind_some]
    obtain ⟨n1, k1, k2⟩ := hpv (z.take q) (z2.take q) (by rw [List.length_take]; omega)
    obtain ⟨n2, k3, k4⟩ := hpv (z.drop q) (z2.drop q) (by rw [List.length_drop]; omega)
    have l26 := runS (ρ := Bool) (fun i : Nat => (i : Int)) 2 (fun s26 => law05_ShiftProved_b26 N (r, c, u, m) (courseF (passes r), leastF (passes r), 0) (z.take q) (z.drop q) s26) (fun i hi => by
      show law05_ShiftProved_b26 N (r, c, u, m) (courseF (passes r), leastF (passes r), 0) (z.take q) (z.drop q) (i : Int) = _
      unfold law05_ShiftProved_b26
      rw [dT (show (i : Int) < 2 by omega), cond_true, W_succ (by omega)]
      rcases (show i = 0 ∨ i = 1 by omega) with rfl | rfl
      · rw [show getI [z.take q, z.drop q] ((0 : Nat) : Int) = some (z.take q) from rfl, Option.bind_some]
        show Option.bind (shift_Proves N r (z.take q)) _ = _
        rw [k1, Option.bind_some]
        show cond (((0 : Int) != 0) || (decide (leastF (passes r) < n1))) _ _ = _
        rw [dF (by omega)]
        rfl
      · rw [show getI [z.take q, z.drop q] ((1 : Nat) : Int) = some (z.drop q) from rfl, Option.bind_some]
        show Option.bind (shift_Proves N r (z.drop q)) _ = _
        rw [k3, Option.bind_some]
        show cond (((0 : Int) != 0) || (decide (leastF (passes r) < n2))) _ _ = _
        rw [dF (by omega)]
        rfl) (by
      show law05_ShiftProved_b26 N (r, c, u, m) (courseF (passes r), leastF (passes r), 0) (z.take q) (z.drop q) ((2 : Nat) : Int) = _
      unfold law05_ShiftProved_b26
      rfl) (N := N) (by omega)
    show Option.bind (loopO (fun s26 => law05_ShiftProved_b26 N (r, c, u, m) (courseF (passes r), leastF (passes r), 0) (z.take q) (z.drop q) s26) N ((0 : Nat) : Int)) _ = _
    rw [l26, Option.bind_some]
    exact hj
  · rw [dF (by omega), cond_false]
    exact hj
end Go.Nilo
