/-
  What the plain functions compute, in plain arithmetic, part 17. Conditions: what each theorem names.
-/
import Derived.Test.YtepopogbmjfpeaaMoL16
set_option linter.unusedSimpArgs false
set_option linter.unusedVariables false
namespace Go.Nilo
theorem pspan_cong {l : List shift_Mark} {g g' : shift_Gauging} (h1 : g'.Stage = g.Stage) (h2 : g'.Flow = g.Flow) : pspan l g' = pspan l g := by
  have : passP l g' = passP l g := by
    funext x
    unfold passP
    rw [h1, h2]
  unfold pspan
  rw [this]
theorem map_cong {l : List shift_Mark} {gs gs' : List shift_Gauging} (hl : gs'.length = gs.length) (h : ∀ j, j < gs.length → (gs'.getD j g0).Stage = (gs.getD j g0).Stage ∧ (gs'.getD j g0).Flow = (gs.getD j g0).Flow) : gs'.map (pspan l) = gs.map (pspan l) := by
  refine List.ext_getElem (by simp [hl]) fun i a b => ?_
  have hi : i < gs.length := by simpa using b
  have := h i hi
  simp only [List.getElem_map]
  rw [get_getD (d := g0), get_getD (d := g0) hi]
  exact pspan_cong this.1 this.2
theorem getD_set {α : Type} {l : List α} {i j : Nat} {x d : α} (hi : i < l.length) : (l.set i x).getD j d = if j = i then x else l.getD j d := by
  by_cases h : j = i
  · subst h
    rw [if_pos rfl]
    simp [List.getD, hi]
  · rw [if_neg h]
    simp [List.getD, List.getElem?_set, Ne.symm h]
theorem cspan_rev {l : List api_Span} {most : Int} {i : Nat} (hi : i < l.length) : cspan l.reverse most i = cspan l most (l.length - 1 - i) := by
  have : canP l.reverse most i = canP l most (l.length - 1 - i) := by
    funext x
    have e1 : l.reverse.getD i s00 = l.getD (l.length - 1 - i) s00 := by
      rw [← get_getD (by rw [List.length_reverse]; omega), List.getElem_reverse, get_getD (d := s00)]
    have e2 : aheadG l.reverse i = restG l (l.length - 1 - i) := by
      unfold aheadG restG
      rw [List.take_reverse, List.reverse_reverse]
      congr 2
      omega
    have e3 : restG l.reverse i = aheadG l (l.length - 1 - i) := by
      unfold aheadG restG
      rw [List.drop_reverse]
      congr 3
      omega
    unfold canP
    rw [e1, e2, e3, Int.add_comm]
  unfold cspan
  rw [this]
theorem canF_rev {l : List api_Span} {most : Int} : canF l.reverse most = (canF l most).reverse := by
  refine List.ext_getElem (by simp [canF]) fun i a b => ?_
  have hi : i < l.length := by simpa [canF] using b
  rw [List.getElem_reverse]
  simp only [canF, List.getElem_map, List.getElem_range, List.length_map, List.length_range]
  rw [cspan_rev hi]
theorem move_del : ∀ (i : Nat) (c : List Int), move (c.take i ++ c.drop (i + 1)) ≤ move c
  | 0, [] => by simp [move]
  | 0, [x] => by simp [move]
  | 0, x :: y :: l => by
    show move (y :: l) ≤ ap x y + move (y :: l)
    have := ap_nonneg x y
    omega
  | i + 1, [] => by simp [move]
  | i + 1, [x] => by simp [move]
  | 1, [x, y] => by
    show move [x] ≤ move [x, y]
    have := ap_nonneg x y
    simp [move]
    omega
  | 1, x :: y :: z :: l => by
    show move (x :: z :: l) ≤ move (x :: y :: z :: l)
    have := ap_tri x y z
    simp only [move]
    omega
  | i + 2, x :: y :: l => by
    have ih := move_del (i + 1) (y :: l)
    show move (x :: y :: (l.take i ++ l.drop (i + 1))) ≤ move (x :: y :: l)
    have e : (y :: l).take (i + 1) ++ (y :: l).drop (i + 1 + 1) = y :: (l.take i ++ l.drop (i + 1)) := rfl
    rw [e] at ih
    simp only [move]
    omega
theorem Crs.del {l : List api_Span} {c : List Int} (h : Crs l c) (i : Nat) : Crs (l.take i ++ l.drop (i + 1)) (c.take i ++ c.drop (i + 1)) := (h.take i).app (h.drop (i + 1))
theorem del_get {α : Type} {l : List α} {d : α} {i k : Nat} (hi : i < l.length) : (l.take i ++ l.drop (i + 1)).getD k d = l.getD (if i ≤ k then k + 1 else k) d := by
  by_cases h : i ≤ k
  · rw [if_pos h]
    simp only [List.getD]
    rw [List.getElem?_append_right (by rw [List.length_take]; omega), List.getElem?_drop, List.length_take]
    congr 2
    omega
  · rw [if_neg h]
    simp only [List.getD]
    rw [List.getElem?_append_left (by rw [List.length_take]; omega), List.getElem?_take, if_pos (by omega)]
theorem VL.del {l : List api_Span} (h : VL l) {i : Nat} (hi : i < l.length) (h2 : 2 ≤ l.length) : VL (l.take i ++ l.drop (i + 1)) := by
  have h32 := h.l32
  refine ⟨by simp; omega, by simp; omega, fun s hs => ?_⟩
  rcases List.mem_append.1 hs with k | k
  · exact h.ok s (List.mem_of_mem_take k)
  · exact h.ok s (List.mem_of_mem_drop k)
theorem least_del {l : List api_Span} (h : VL l) {i : Nat} (hi : i < l.length) (h2 : 2 ≤ l.length) : leastF (l.take i ++ l.drop (i + 1)) ≤ leastF l := by
  obtain ⟨a, b⟩ := course_spec h
  have := least_le (h.del hi h2) (a.del i)
  have := move_del i (courseF l)
  omega
theorem cspan_del {l : List api_Span} (h : VL l) {i : Nat} (hi : i < l.length) (h2 : 2 ≤ l.length) {most : Int} (hm : leastF l ≤ most) {k : Nat} (hk : k + 1 < l.length) :
    (cspan (l.take i ++ l.drop (i + 1)) most k).Lo ≤ (cspan l most (if i ≤ k then k + 1 else k)).Lo ∧ (cspan l most (if i ≤ k then k + 1 else k)).Hi ≤ (cspan (l.take i ++ l.drop (i + 1)) most k).Hi := by
  have hv := h.del hi h2
  have hkl : k < (l.take i ++ l.drop (i + 1)).length := by simp; omega
  have hk' : (if i ≤ k then k + 1 else k) < l.length := by split <;> omega
  have hok : spanOk (cspan l most (if i ≤ k then k + 1 else k)) = true := by
    have := (can_least h).2 hm
    unfold canF at this
    rw [List.all_map, List.all_eq_true] at this
    exact this _ (List.mem_range.2 hk')
  have key : ∀ x, canP l most (if i ≤ k then k + 1 else k) x = true → (cspan (l.take i ++ l.drop (i + 1)) most k).Lo ≤ x ∧ x ≤ (cspan (l.take i ++ l.drop (i + 1)) most k).Hi := fun x hx => by
    obtain ⟨c, c1, c2, c3⟩ := (canP_iff h hk').1 hx
    have hm := move_del i c
    have := can_in hv (c1.del i) (show move (c.take i ++ c.drop (i + 1)) ≤ most by omega) hkl
    have hcl := c1.len
    rwa [del_get (by omega), c2] at this
  rcases cspan_spec h (most := most) hk' with ⟨_, k1, k2, _⟩ | ⟨k, _⟩
  · exact ⟨(key _ k1).1, (key _ k2).2⟩
  · rw [hok] at k
    cases k
theorem copy_rec {N : Nat} {r : shift_Record} (h1 : r.Rating.length ≤ 50) (h2 : r.Gaugings.length ≤ 50) : law05_CopyRecord N r = some r := by
  unfold law05_CopyRecord kit_Copy_shift_Mark kit_Copy_shift_Gauging
  rw [room_ok (by omega), Option.bind_some, Option.bind_some, room_ok (by omega), Option.bind_some, Option.bind_some]
theorem rev_g {N : Nat} {xs : List shift_Gauging} (hl : xs.length ≤ 600) (hN : 700 ≤ N) : slices_Reverse_Lshift_Gauging_shift_Gauging N xs = some xs.reverse := by
  unfold slices_Reverse_Lshift_Gauging_shift_Gauging
  obtain ⟨i, j, h⟩ := rev_loop (ρ := List shift_Gauging) g0 (fun s3 => slices_Reverse_Lshift_Gauging_shift_Gauging_b3 N s3.1 s3.2.1 s3.2.2) (fun s i j => rfl) (N := N) (xs := xs) (by omega) (by omega)
  rw [h, Option.bind_some]
  simp only [exK]
  unfold sameL
  rw [if_pos (by simp), Option.bind_some]
/-! ### Other days -/
structure DInv (gs : List shift_Gauging) (i : Nat) (day : Int) (out : List shift_Gauging) : Prop where
  len : out.length = gs.length
  d : 0 ≤ day ∧ day ≤ 30 * i
  sf : ∀ j, j < gs.length → (out.getD j g0).Stage = (gs.getD j g0).Stage ∧ (out.getD j g0).Flow = (gs.getD j g0).Flow
  lo : ∀ j, j < i → 0 ≤ (out.getD j g0).Day ∧ (out.getD j g0).Day < day
  up : ∀ j, j + 1 < i → (out.getD j g0).Day < (out.getD (j + 1) g0).Day
theorem other_days {N : Nat} (hN : 700 ≤ N) {bs : List Int} (hb : Bytes bs) {r : shift_Record} (hr : r.Gaugings.length ≤ 30) :
    ∃ s : Int × Int × Int × Int × (List shift_Gauging), loopO (fun s14 : Int × Int × Int × Int × (List shift_Gauging) => law05_ShiftMore_b14 N bs r s14.1 s14.2.1 s14.2.2.1 s14.2.2.2.1 s14.2.2.2.2) N (0, 0, 0, 0, r.Gaugings) = some (.go s) ∧ DInv r.Gaugings r.Gaugings.length s.1 s.2.2.2.2 := by
  obtain ⟨s', e1, e2⟩ := loopInv (ρ := Bool) (fun s14 : Int × Int × Int × Int × (List shift_Gauging) => law05_ShiftMore_b14 N bs r s14.1 s14.2.1 s14.2.2.1 s14.2.2.2.1 s14.2.2.2.2)
    (fun i s => DInv r.Gaugings i s.1 s.2.2.2.2 ∧ s.2.1 = (i : Int) ∧ SOk s.2.2.1 s.2.2.2.1 i) r.Gaugings.length (fun i s hi hI => by
      obtain ⟨day, x, v, q, gs⟩ := s
      obtain ⟨i1, i2, i3⟩ := hI
      simp only at i1 i2 i3
      subst i2
      obtain ⟨h1, h2, h3, h4, h5⟩ := i1
      obtain ⟨da, u, m, f1, f2, f3, f4⟩ := within_spec (N := N) hb (lo := 1) (hi := 30) i3 (by omega) (by omega) (by omega) (by omega)
      refine ⟨(day + da, ((i + 1 : Nat) : Int), u, m, gs.set i ⟨day, (gs.getD i g0).Stage, (gs.getD i g0).Flow⟩), ?_, ⟨by simp [h1], by push_cast; omega, fun j hj => ?_, fun j hj => ?_, fun j hj => ?_⟩, rfl, f4⟩
      · show law05_ShiftMore_b14 N bs r day (i : Int) v q gs = _
        unfold law05_ShiftMore_b14
        rw [lt_dec hi, cond_true, getI_d g0 (by omega), Option.bind_some, f1, Option.bind_some, W_sm (by omega) (by omega), W_succ (by omega), Int.toNat_natCast]
      · show ((gs.set i _).getD j g0).Stage = _ ∧ ((gs.set i _).getD j g0).Flow = _
        rw [getD_set (by omega)]
        by_cases h : j = i
        · subst h
          rw [if_pos rfl]
          exact h3 j hj
        · rw [if_neg h]
          exact h3 j hj
      · show 0 ≤ ((gs.set i _).getD j g0).Day ∧ ((gs.set i _).getD j g0).Day < day + da
        rw [getD_set (by omega)]
        by_cases h : j = i
        · rw [if_pos h]
          show 0 ≤ day ∧ day < day + da
          omega
        · rw [if_neg h]
          have := h4 j (by omega)
          omega
      · show ((gs.set i _).getD j g0).Day < ((gs.set i _).getD (j + 1) g0).Day
        rw [getD_set (by omega), getD_set (by omega), if_neg (show ¬ j = i by omega)]
        by_cases h : j + 1 = i
        · rw [if_pos h]
          exact (h4 j (by omega)).2
        · rw [if_neg h]
          exact h5 j (by omega)) (fun s hI => by
      obtain ⟨day, x, v, q, gs⟩ := s
      obtain ⟨i1, i2, i3⟩ := hI
      simp only at i2
      subst i2
      show law05_ShiftMore_b14 N bs r day (r.Gaugings.length : Int) v q gs = _
      unfold law05_ShiftMore_b14
      rw [ge_dec, cond_false]) r.Gaugings.length 0 (0, 0, 0, 0, r.Gaugings) N (by omega) (by omega) ⟨⟨rfl, by show (0 : Int) ≤ 0 ∧ (0 : Int) ≤ 30 * ((0 : Nat) : Int); omega, fun j _ => ⟨rfl, rfl⟩, fun j hj => by omega, fun j hj => by omega⟩, rfl, ⟨by show (0 : Int) ≤ 0; omega, by show (0 : Int) ≤ ((0 : Nat) : Int); omega, by show (0 : Int) ≤ 0; omega, by show (0 : Int) ≤ 250; omega⟩⟩
  exact ⟨s', e1, e2.1⟩
structure NInv (gs : List shift_Gauging) (i : Nat) (out : List shift_Gauging) : Prop where
  len : out.length = gs.length
  sf : ∀ j, j < gs.length → (out.getD j g0).Stage = (gs.getD j g0).Stage ∧ (out.getD j g0).Flow = (gs.getD j g0).Flow
  d : ∀ j, j < i → (out.getD j g0).Day = j
theorem num_days {N : Nat} (hN : 700 ≤ N) {gs : List shift_Gauging} (hr : gs.length ≤ 30) :
    ∃ s : Int × (List shift_Gauging), loopO (fun s18 : Int × (List shift_Gauging) => law05_ShiftMore_b18 N gs s18.1 s18.2) N (0, gs) = some (.go s) ∧ NInv gs gs.length s.2 := by
  obtain ⟨s', e1, e2⟩ := loopInv (ρ := Bool) (fun s18 : Int × (List shift_Gauging) => law05_ShiftMore_b18 N gs s18.1 s18.2)
    (fun i s => NInv gs i s.2 ∧ s.1 = (i : Int)) gs.length (fun i s hi hI => by
      obtain ⟨x, out⟩ := s
      obtain ⟨i1, i2⟩ := hI
      simp only at i1 i2
      subst i2
      obtain ⟨h1, h3, h4⟩ := i1
      refine ⟨(((i + 1 : Nat) : Int), out.set i ⟨(i : Int), (out.getD i g0).Stage, (out.getD i g0).Flow⟩), ?_, ⟨by simp [h1], fun j hj => ?_, fun j hj => ?_⟩, rfl⟩
      · show law05_ShiftMore_b18 N gs (i : Int) out = _
        unfold law05_ShiftMore_b18
        rw [lt_dec hi, cond_true, getI_d g0 (by omega), Option.bind_some, W_succ (by omega), Int.toNat_natCast]
      · show ((out.set i _).getD j g0).Stage = _ ∧ ((out.set i _).getD j g0).Flow = _
        rw [getD_set (by omega)]
        by_cases h : j = i
        · subst h
          rw [if_pos rfl]
          exact h3 j hj
        · rw [if_neg h]
          exact h3 j hj
      · show ((out.set i _).getD j g0).Day = (j : Int)
        rw [getD_set (by omega)]
        by_cases h : j = i
        · rw [if_pos h, h]
        · rw [if_neg h]
          exact h4 j (by omega)) (fun s hI => by
      obtain ⟨x, out⟩ := s
      obtain ⟨i1, i2⟩ := hI
      simp only at i2
      subst i2
      show law05_ShiftMore_b18 N gs (gs.length : Int) out = _
      unfold law05_ShiftMore_b18
      rw [ge_dec, cond_false]) gs.length 0 (0, gs) N (by omega) (by omega) ⟨⟨rfl, fun j _ => ⟨rfl, rfl⟩, fun j hj => by omega⟩, rfl⟩
  exact ⟨s', e1, e2.1⟩
theorem rec_of {l : List shift_Mark} (hl : ROk l) {gs : List shift_Gauging} (h1 : 1 ≤ gs.length) (h2 : gs.length ≤ 30) (hg : ∀ j, j < gs.length → GOkS (gs.getD j g0)) (hd : ∀ j, j + 1 < gs.length → (gs.getD j g0).Day < (gs.getD (j + 1) g0).Day) : RecOk ⟨l, gs⟩ := by
  refine ⟨hl, h1, h2, fun g hg' => ?_, hd⟩
  obtain ⟨i, hi, rfl⟩ := List.getElem_of_mem hg'
  rw [get_getD (d := g0) hi]
  exact hg i hi
theorem more_law {N : Nat} (hN : 700 ≤ N) {bs ds : List Int} (hb : Bytes bs) (hds : Bytes ds) {which more : Int} (hw : 0 ≤ which ∧ which ≤ 255) (hm : 0 ≤ more ∧ more ≤ 255) : law05_ShiftMore N bs ds which more = some true := by
  unfold law05_ShiftMore
  rw [show kit_New N bs = some (0, 0) from rfl, Option.bind_some]
  obtain ⟨r, c, u, m, k, a1, a2, a3, hg⟩ := Gauged_spec hN hb (u := 0) (m := 0) (k := 0) ⟨by omega, by omega, by omega, by omega⟩ (by omega) (most := 10) (by omega)
  show Option.bind (law05_Gauged N ⟨bs, 0, 0⟩ ((10 : Nat) : Int)) _ = _
  rw [a1, Option.bind_some, show kit_New N ds = some (0, 0) from rfl, Option.bind_some]
  obtain ⟨hok, hcr⟩ := hg.crs (by omega)
  have hr := hg.rcd (by omega)
  have hv := passes_vl hr hok
  have hmv := hg.mv (by omega)
  have hle := least_le hv hcr
  have hl0 := least_nonneg hv
  have hgm := hg.gm
  have hg1 := hg.g1
  have hrl := hr.rt.l12
  have hpl : (passes r).length = r.Gaugings.length := by simp [passes]
  show Option.bind (shift_Least N r) _ = _
  rw [Least_spec hN hr hok, Option.bind_some]
  show cond (((0 : Int) != 0) || (decide (leastF (passes r) < 0))) (some false) _ = _
  rw [dF (show ¬ leastF (passes r) < 0 by omega)]
  show Option.bind (shift_Can N r (min 18000 (W (leastF (passes r) + ((W more).tmod 20))))) _ = _
  have hmod : (W more).tmod 20 = more % 20 := by rw [W_sm (by omega) (by omega), tmod_mod hm.1]
  rw [hmod, W_sm (n := leastF (passes r) + more % 20) (by omega) (by omega)]
  obtain ⟨M, hM⟩ : ∃ M, M = min 18000 (leastF (passes r) + more % 20) := ⟨_, rfl⟩
  have hM1 : leastF (passes r) ≤ M ∧ M ≤ 18000 := by omega
  rw [← hM, (Can_two hN hr hok (by omega)).1 hM1.1, Option.bind_some]
  show Option.bind (law05_CopyRecord N r) _ = _
  rw [copy_rec (by omega) (by omega), Option.bind_some, Option.bind_some]
  obtain ⟨s14, b1, b2⟩ := other_days hN hds (r := r) (by omega)
  show Option.bind (loopO _ N (0, 0, 0, 0, r.Gaugings)) _ = _
  rw [b1, Option.bind_some]
  show Option.bind (slices_Reverse_Lshift_Gauging_shift_Gauging N r.Gaugings) _ = _
  rw [rev_g (by omega) hN, Option.bind_some]
  obtain ⟨s18, c1, c2⟩ := num_days hN (gs := r.Gaugings.reverse) (by simp; omega)
  rw [c1, Option.bind_some]
  -- the record of other days
  have hol := b2.len
  have ho : RecOk ⟨r.Rating, s14.2.2.2.2⟩ := rec_of hr.rt (by omega) (by omega) (fun j hj => by
    have k1 := (hg.g j (by omega)).1
    have k2 := b2.sf j (by omega)
    have k3 := b2.lo j (by omega)
    have k4 := b2.d
    refine ⟨by omega, ?_, ?_⟩
    · rw [k2.1]
      exact k1.s
    · rw [k2.2]
      exact k1.f) (fun j hj => b2.up j (by omega))
  have hop : passes ⟨r.Rating, s14.2.2.2.2⟩ = passes r := map_cong hol fun j hj => b2.sf j hj
  have hrlen : r.Gaugings.reverse.length = r.Gaugings.length := List.length_reverse
  have hbl := c2.len
  have hrg : ∀ j, j < r.Gaugings.length → r.Gaugings.reverse.getD j g0 = r.Gaugings.getD (r.Gaugings.length - 1 - j) g0 := fun j hj => by
    rw [← get_getD (by rw [hrlen]; omega), List.getElem_reverse, get_getD (d := g0)]
  have hbk : RecOk ⟨r.Rating, s18.2⟩ := rec_of hr.rt (by omega) (by omega) (fun j hj => by
    have k1 := (hg.g (r.Gaugings.length - 1 - j) (by omega)).1
    have k2 := c2.sf j (by omega)
    have k3 := c2.d j (by omega)
    rw [hrg j (by omega)] at k2
    refine ⟨by omega, ?_, ?_⟩
    · rw [k2.1]
      exact k1.s
    · rw [k2.2]
      exact k1.f) (fun j hj => by
    rw [c2.d j (by omega), c2.d (j + 1) (by omega)]
    omega)
  have hbp : passes ⟨r.Rating, s18.2⟩ = (passes r).reverse := by
    have := map_cong (l := r.Rating) (gs := r.Gaugings.reverse) (gs' := s18.2) hbl fun j hj => c2.sf j hj
    unfold passes
    rw [this, List.map_reverse]
  have hlr : leastF (passes r).reverse ≤ M := by
    obtain ⟨p1, p2⟩ := course_spec hv
    have := least_le hv.rev p1.rev
    rw [move_rev] at this
    omega
  simp only [exK]
  rw [(Can_two hN ho (by rw [hop]; exact hok) (by omega)).1 (by rw [hop]; exact hM1.1), Option.bind_some, (Can_two hN hbk (by rw [hbp, List.all_reverse]; exact hok) (by omega)).1 (by rw [hbp]; exact hlr), Option.bind_some, hop, hbp, canF_rev]
  have e1 : (cond (((((canF (passes r) M), (0 : Int)).2 != 0) || (((canF (passes r) M), (0 : Int)).2 != 0)) || (((canF (passes r) M).reverse, (0 : Int)).2 != 0)) (some true) (Option.bind (kit_Same_api_Span N ((canF (passes r) M), (0 : Int)).1 ((canF (passes r) M), (0 : Int)).1) fun r_10 => some (!r_10))) = some false := by
    show Option.bind (kit_Same_api_Span N (canF (passes r) M) (canF (passes r) M)) _ = _
    rw [same_span (by rw [canF_len]; omega) (by rw [canF_len]; omega)]
    rfl
  rw [e1, Option.bind_some, cond_false]
  show Option.bind (slices_Reverse_Lapi_Span_api_Span N (canF (passes r) M).reverse) _ = _
  rw [rev_s (by simp [canF_len]; omega) hN, Option.bind_some, List.reverse_reverse]
  show Option.bind (kit_Same_api_Span N (canF (passes r) M) (canF (passes r) M)) _ = _
  rw [same_span (by rw [canF_len]; omega) (by rw [canF_len]; omega), Option.bind_some, Bool.not_true, cond_false]
  show cond (((r.Gaugings.length : Nat) : Int) == 1) _ _ = _
  by_cases h1 : r.Gaugings.length = 1
  · have e2 : (((r.Gaugings.length : Nat) : Int) == 1) = true := by rw [h1]; rfl
    have hz : leastF (passes r) = 0 := by
      have hcl := hg.len
      have : move c = 0 := by
        match c, hcl with
        | [x], _ => rfl
        | [], h => simp at h; omega
        | _ :: _ :: _, h => simp at h; omega
      omega
    rw [e2, cond_true]
    show Option.bind (cond (leastF (passes r) == 0) _ _) _ = _
    rw [hz, beq_self_eq_true, cond_true, awake_true hN]
    rfl
  · have e2 : (((r.Gaugings.length : Nat) : Int) == 1) = false := by
      rw [beq_eq_false_iff_ne]
      omega
    rw [e2, cond_false]
    have hz : nz ((r.Gaugings.length : Nat) : Int) = some () := by unfold nz; rw [if_neg (by omega)]
    have hwm : (W which).tmod ((r.Gaugings.length : Nat) : Int) = which % (r.Gaugings.length : Int) := by rw [W_sm (by omega) (by omega), tmod_mod hw.1]
    have hi1 := Int.emod_nonneg which (show ((r.Gaugings.length : Nat) : Int) ≠ 0 by omega)
    have hi2 := Int.emod_lt_of_pos which (show 0 < ((r.Gaugings.length : Nat) : Int) by omega)
    show Option.bind (nz ((r.Gaugings.length : Nat) : Int)) _ = _
    rw [hz, Option.bind_some]
    rw [Option.bind_some]
    show Option.bind (slices_Delete_Lshift_Gauging_shift_Gauging N r.Gaugings ((W which).tmod ((r.Gaugings.length : Nat) : Int)) (W (((W which).tmod ((r.Gaugings.length : Nat) : Int)) + 1))) _ = _
    rw [hwm]
    obtain ⟨i, hi⟩ := Int.eq_ofNat_of_zero_le hi1
    rw [hi] at hi2
    have hil : i < r.Gaugings.length := by omega
    rw [hi, W_succ (by omega)]
    have hdel : slices_Delete_Lshift_Gauging_shift_Gauging N r.Gaugings (i : Int) ((i + 1 : Nat) : Int) = some (r.Gaugings.take i ++ r.Gaugings.drop (i + 1)) := by
      unfold slices_Delete_Lshift_Gauging_shift_Gauging delO
      rw [if_pos (by omega), Int.toNat_natCast, Int.toNat_natCast]
    rw [hdel, Option.bind_some]
    have hfl : (r.Gaugings.take i ++ r.Gaugings.drop (i + 1)).length = r.Gaugings.length - 1 := by simp; omega
    have hf : RecOk ⟨r.Rating, r.Gaugings.take i ++ r.Gaugings.drop (i + 1)⟩ := rec_of hr.rt (by omega) (by omega) (fun j hj => by
      rw [del_get hil]
      refine (hg.g _ ?_).1
      split <;> omega) (fun j hj => by
      rw [del_get hil, del_get hil]
      refine days_lt hr ?_ ?_
      · split <;> split <;> omega
      · split <;> omega)
    have hfp : passes ⟨r.Rating, r.Gaugings.take i ++ r.Gaugings.drop (i + 1)⟩ = (passes r).take i ++ (passes r).drop (i + 1) := by
      unfold passes
      rw [List.map_append, List.map_take, List.map_drop]
    have hfok : (passes ⟨r.Rating, r.Gaugings.take i ++ r.Gaugings.drop (i + 1)⟩).all spanOk = true := by
      rw [hfp, List.all_eq_true]
      intro s hs
      rcases List.mem_append.1 hs with k | k
      · exact List.all_eq_true.1 hok s (List.mem_of_mem_take k)
      · exact List.all_eq_true.1 hok s (List.mem_of_mem_drop k)
    have hld := least_del hv (i := i) (by omega) (by omega)
    show Option.bind (shift_Least N ⟨r.Rating, r.Gaugings.take i ++ r.Gaugings.drop (i + 1)⟩) _ = _
    rw [Least_spec hN hf hfok, Option.bind_some]
    show Option.bind (shift_Can N ⟨r.Rating, r.Gaugings.take i ++ r.Gaugings.drop (i + 1)⟩ M) _ = _
    rw [(Can_two hN hf hfok (by omega)).1 (by rw [hfp]; omega), Option.bind_some, hfp]
    have hlen : ((passes r).take i ++ (passes r).drop (i + 1)).length = r.Gaugings.length - 1 := by simp; omega
    have e3 : ((((0 : Int) != 0) || ((0 : Int) != 0)) || (decide (leastF (passes r) < leastF ((passes r).take i ++ (passes r).drop (i + 1)))) || ((((canF ((passes r).take i ++ (passes r).drop (i + 1)) M).length : Nat) : Int) != (W ((((canF (passes r) M).length : Nat) : Int) - 1)))) = false := by
      rw [dF (by omega), canF_len, canF_len, W_sm (by omega) (by omega), show ((((passes r).take i ++ (passes r).drop (i + 1)).length : Nat) : Int) = (((passes r).length : Nat) : Int) - 1 by omega, bne_self_eq_false (((passes r).length : Int) - 1)]
      rfl
    show cond ((((0 : Int) != 0) || ((0 : Int) != 0)) || (decide (leastF (passes r) < leastF ((passes r).take i ++ (passes r).drop (i + 1)))) || ((((canF ((passes r).take i ++ (passes r).drop (i + 1)) M).length : Nat) : Int) != (W ((((canF (passes r) M).length : Nat) : Int) - 1)))) _ _ = _
    rw [e3, cond_false]
    have hloop := runS (ρ := Bool) (fun k : Nat => (k : Int)) ((passes r).take i ++ (passes r).drop (i + 1)).length (fun s41 => law05_ShiftMore_b41 N which (r, c, u, m) (canF (passes r) M, 0) (canF ((passes r).take i ++ (passes r).drop (i + 1)) M, 0) s41) (fun k hk => by
      show law05_ShiftMore_b41 N which (r, c, u, m) (canF (passes r) M, 0) (canF ((passes r).take i ++ (passes r).drop (i + 1)) M, 0) (k : Int) = _
      unfold law05_ShiftMore_b41
      have g1 : getI (canF (passes r) M) (k : Int) = some (cspan (passes r) M k) := by rw [getI_d s00 (by rw [canF_len]; omega), canF_get (by omega)]
      have g2 : getI (canF (passes r) M) ((k + 1 : Nat) : Int) = some (cspan (passes r) M (k + 1)) := by rw [getI_d s00 (by rw [canF_len]; omega), canF_get (by omega)]
      have g3 : getI (canF ((passes r).take i ++ (passes r).drop (i + 1)) M) (k : Int) = some (cspan ((passes r).take i ++ (passes r).drop (i + 1)) M k) := by rw [getI_d s00 (by rw [canF_len]; omega), canF_get (by omega)]
      obtain ⟨q1, q2⟩ := cspan_del hv (i := i) (by omega) (by omega) hM1.1 (k := k) (by omega)
      have hj48 : ∀ s : api_Span, (cspan ((passes r).take i ++ (passes r).drop (i + 1)) M k).Lo ≤ s.Lo → s.Hi ≤ (cspan ((passes r).take i ++ (passes r).drop (i + 1)) M k).Hi → law05_ShiftMore_j48 N (canF ((passes r).take i ++ (passes r).drop (i + 1)) M, 0) (k : Int) s.Lo s.Hi = some (.cont ((k + 1 : Nat) : Int)) := fun s h1 h2 => by
        unfold law05_ShiftMore_j48
        rw [g3, Option.bind_some, dF (by omega), cond_false, Option.bind_some, dF (by omega), Option.bind_some, cond_false, W_succ (by omega)]
      rw [canF_len, lt_dec hk, cond_true, g1, Option.bind_some]
      show cond (decide ((W which).tmod ((r.Gaugings.length : Nat) : Int) ≤ (k : Int))) _ _ = _
      rw [hwm, hi]
      by_cases hik : i ≤ k
      · rw [if_pos hik] at q1 q2
        rw [dT (by omega), cond_true, W_succ (by omega), g2, Option.bind_some]
        exact hj48 _ q1 q2
      · rw [if_neg hik] at q1 q2
        rw [dF (by omega), cond_false]
        exact hj48 _ q1 q2) (by
      show law05_ShiftMore_b41 N which (r, c, u, m) (canF (passes r) M, 0) (canF ((passes r).take i ++ (passes r).drop (i + 1)) M, 0) _ = _
      unfold law05_ShiftMore_b41
      rw [canF_len, ge_dec, cond_false]) (N := N) (by omega)
    have hloop' : loopO (fun s41 => law05_ShiftMore_b41 N which (r, c, u, m) (canF (passes r) M, 0) (canF ((passes r).take i ++ (passes r).drop (i + 1)) M, 0) s41) N 0 = some (.go ((((passes r).take i ++ (passes r).drop (i + 1)).length : Nat) : Int)) := hloop
    rw [hloop', Option.bind_some]
    show Option.bind (law05_awake N) _ = _
    rw [awake_true hN]
    rfl
end Go.Nilo
