/-
  What the plain functions compute, in plain arithmetic, part 5. Conditions: what each theorem names.
-/
import Derived.Test.YtbgjmnbgilddgaaTrL4
set_option linter.unusedSimpArgs false
set_option linter.unusedVariables false
namespace Go.Nilo
theorem track_step {N : Nat} {errors : List Int} (hb : Bytes errors) {r2 r3 r4 r21 : Int × Int × Int} (h2 : 0 ≤ r2.1 ∧ r2.1 ≤ 299) (h3 : -300 ≤ r3.1 ∧ r3.1 ≤ 300) (h4 : -300 ≤ r4.1 ∧ r4.1 ≤ 300)
    {x y dx dy : Int} (hx : x.natAbs ≤ 2000) (hy : y.natAbs ≤ 2000) (hdx : dx.natAbs ≤ 2000) (hdy : dy.natAbs ≤ 2000) {just rough : List gauge_Leg} {i : Nat} (hj : just.length ≤ 100) (hr : rough.length ≤ 100) (hi : i ≤ 100)
    {u m : Int} {k : Nat} (hs : SOk u m k) (hk : k + 20 ≤ 1000000) :
    ∃ g u' m', law03_GaugeTrack_j41 N errors r2 r3 r4 x y just rough (i : Int) u m r21 dx dy = some (.cont (x + dx, y + dy, just ++ [ptLeg dx dy r2.1 r3.1 r4.1], rough ++ [g], ((i + 1 : Nat) : Int), r21.2.1, r21.2.2, u', m')) ∧
      LegOk g ∧ (legLo g ≤ r2.1 * (r3.1 * dy - r4.1 * dx) ∧ r2.1 * (r3.1 * dy - r4.1 * dx) ≤ legHi g) ∧ SOk u' m' (k + 10) := by
  obtain ⟨a1, b1, u1, m1, e1, p1, q1, s1, t1, -, -, k1⟩ := around_spec (N := N) hb (n := dx) (lo := -10000) (hi := 10000) (er := 3) hs (by omega) (by omega) (by omega) (by omega) (by omega) (by omega)
  obtain ⟨a2, b2, u2, m2, e2, p2, q2, s2, t2, -, -, k2⟩ := around_spec (N := N) hb (n := dy) (lo := -10000) (hi := 10000) (er := 3) k1 (by omega) (by omega) (by omega) (by omega) (by omega) (by omega)
  obtain ⟨a3, b3, u3, m3, e3, p3, q3, s3, t3, -, -, k3⟩ := around_spec (N := N) hb (n := r2.1) (lo := 0) (hi := 400) (er := 9) k2 (by omega) (by omega) (by omega) (by omega) (by omega) (by omega)
  obtain ⟨a4, b4, u4, m4, e4, p4, q4, s4, t4, -, -, k4⟩ := around_spec (N := N) hb (n := r3.1) (lo := -400) (hi := 400) (er := 9) k3 (by omega) (by omega) (by omega) (by omega) (by omega) (by omega)
  obtain ⟨a5, b5, u5, m5, e5, p5, q5, s5, t5, -, -, k5⟩ := around_spec (N := N) hb (n := r4.1) (lo := -400) (hi := 400) (er := 9) k4 (by omega) (by omega) (by omega) (by omega) (by omega) (by omega)
  refine ⟨⟨⟨a1, b1⟩, ⟨a2, b2⟩, ⟨a3, b3⟩, ⟨a4, b4⟩, ⟨a5, b5⟩⟩, u5, m5, ?_, ?_, ?_, k5⟩
  · unfold law03_GaugeTrack_j41 law03_span
    have w1 : W (x + dx) = x + dx := W_id (by omega) (by omega)
    have w2 : W (y + dy) = y + dy := W_id (by omega) (by omega)
    simp only [Option.bind_some, e1, e2, e3, e4, e5, w1, w2, W_succ (i := i) (by omega)]
    rw [room_ok (by simp; omega), room_ok (by simp; omega)]
    rfl
  · refine ⟨⟨?_, ?_, ?_⟩, ⟨?_, ?_, ?_⟩, ⟨?_, ?_, ?_⟩, ?_, ⟨?_, ?_, ?_⟩, ⟨?_, ?_, ?_⟩⟩ <;> dsimp only <;> omega
  · exact in_leg ⟨q1, s1⟩ ⟨q2, s2⟩ ⟨q4, s4⟩ ⟨q5, s5⟩ ⟨q3, s3⟩

structure TInv (d e n : Int) (many : Nat) (i : Nat) (x y : Int) (just rough : List gauge_Leg) : Prop where
  jl : just.length = i
  rl : rough.length = i
  bx : x.natAbs ≤ 90 * i
  by' : y.natAbs ≤ 90 * i
  pt : ∀ g ∈ just, ∃ dx dy, g = ptLeg dx dy d e n ∧ dx.natAbs ≤ 2000 ∧ dy.natAbs ≤ 2000
  ok : ∀ g ∈ rough, LegOk g
  sl : sumBy legLo just = d * (e * y - n * x)
  sh : sumBy legHi just = d * (e * y - n * x)
  rlo : sumBy legLo rough ≤ d * (e * y - n * x)
  rhi : d * (e * y - n * x) ≤ sumBy legHi rough
  fin : i = many → x = 0 ∧ y = 0

theorem dist (d e n x y dx dy : Int) : d * (e * (y + dy) - n * (x + dx)) = d * (e * y - n * x) + d * (e * dy - n * dx) := by
  rw [← Int.mul_add]
  congr 1
  rw [Int.mul_add, Int.mul_add]
  omega

theorem TInv.step {d e n : Int} {many i : Nat} {x y dx dy : Int} {just rough : List gauge_Leg} {g : gauge_Leg} (h : TInv d e n many i x y just rough) (hi : i < many) (hm : many ≤ 12)
    (hdx : dx.natAbs ≤ 2000) (hdy : dy.natAbs ≤ 2000) (hb : (x + dx).natAbs ≤ 90 * (i + 1)) (hb' : (y + dy).natAbs ≤ 90 * (i + 1)) (hg : LegOk g) (hl : legLo g ≤ d * (e * dy - n * dx)) (hh : d * (e * dy - n * dx) ≤ legHi g)
    (hf : i + 1 = many → x + dx = 0 ∧ y + dy = 0) : TInv d e n many (i + 1) (x + dx) (y + dy) (just ++ [ptLeg dx dy d e n]) (rough ++ [g]) := by
  refine ⟨by simp [h.jl], by simp [h.rl], hb, hb', ?_, ?_, ?_, ?_, ?_, ?_, hf⟩
  · intro g' hg'
    rcases List.mem_append.1 hg' with h' | h'
    · exact h.pt g' h'
    · exact ⟨dx, dy, List.mem_singleton.1 h', hdx, hdy⟩
  · intro g' hg'
    rcases List.mem_append.1 hg' with h' | h'
    · exact h.ok g' h'
    · rw [List.mem_singleton.1 h']; exact hg
  · rw [sumBy_snoc, legLo_pt, h.sl, dist]
  · rw [sumBy_snoc, legHi_pt, h.sh, dist]
  · rw [sumBy_snoc, dist]; have := h.rlo; omega
  · rw [sumBy_snoc, dist]; have := h.rhi; omega

/-- The elements of a list in the order of indices. -/
theorem perm_of_idx {l : List gauge_Leg} {idx : List Int} {g0 : gauge_Leg} (hp : idx.Perm (rangeI l.length)) : (idx.map fun i => l.getD i.toNat g0).Perm l := by
  have h := hp.map (fun i => l.getD i.toNat g0)
  have : (rangeI l.length).map (fun i => l.getD i.toNat g0) = l := by
    unfold rangeI
    rw [List.map_map]
    apply List.ext_getElem
    · simp
    · intro i h1 h2
      simp [h2]
  rwa [this] at h
theorem rangeI_mem {n : Nat} {x : Int} (h : x ∈ rangeI n) : 0 ≤ x ∧ x < n := by
  unfold rangeI at h
  obtain ⟨i, hi, rfl⟩ := List.mem_map.1 h
  have := List.mem_range.1 hi
  omega

theorem track_loop {N : Nat} (hN : 60 ≤ N) {numbers errors : List Int} (hn : Bytes numbers) (he : Bytes errors) {r2 r3 r4 r5 : Int × Int × Int} (h2 : 0 ≤ r2.1 ∧ r2.1 ≤ 299) (h3 : -300 ≤ r3.1 ∧ r3.1 ≤ 300) (h4 : -300 ≤ r4.1 ∧ r4.1 ≤ 300)
    {many : Nat} (h5 : r5.1 = (many : Int)) (hm : many ≤ 12) {u m u' m' : Int} {k k' : Nat} (hs : SOk u m k) (hs' : SOk u' m' k') (hk : k ≤ 1000) (hk' : k' ≤ 1000) :
    ∃ x y just rough u1 m1 u2 m2, loopO (fun s9 => law03_GaugeTrack_b9 N numbers errors r2 r3 r4 r5 s9.1 s9.2.1 s9.2.2.1 s9.2.2.2.1 s9.2.2.2.2.1 s9.2.2.2.2.2.1 s9.2.2.2.2.2.2.1 s9.2.2.2.2.2.2.2.1 s9.2.2.2.2.2.2.2.2) N (0, 0, ([] : List gauge_Leg), ([] : List gauge_Leg), 0, u, m, u', m')
      = some (.go (x, y, just, rough, (many : Int), u1, m1, u2, m2)) ∧ TInv r2.1 r3.1 r4.1 many many x y just rough ∧ SOk u2 m2 (k' + 10 * many) := by
  obtain ⟨⟨x, y, just, rough, c, u1, m1, u2, m2⟩, h1, hc, hI, -, hS⟩ := loopInv (fun s9 => law03_GaugeTrack_b9 N numbers errors r2 r3 r4 r5 s9.1 s9.2.1 s9.2.2.1 s9.2.2.2.1 s9.2.2.2.2.1 s9.2.2.2.2.2.1 s9.2.2.2.2.2.2.1 s9.2.2.2.2.2.2.2.1 s9.2.2.2.2.2.2.2.2)
    (fun i s => s.2.2.2.2.1 = (i : Int) ∧ TInv r2.1 r3.1 r4.1 many i s.1 s.2.1 s.2.2.1 s.2.2.2.1 ∧ SOk s.2.2.2.2.2.1 s.2.2.2.2.2.2.1 (k + 2 * i) ∧ SOk s.2.2.2.2.2.2.2.1 s.2.2.2.2.2.2.2.2 (k' + 10 * i)) many
    (by
      rintro i ⟨x, y, just, rough, c, u1, m1, u2, m2⟩ hi ⟨rfl, hI, ha, hb⟩
      dsimp only at hI ha hb ⊢
      obtain ⟨dx, v1, w1, e1, p1, q1, t1⟩ := within_spec (N := N) hn (lo := -90) (hi := 90) ha (by omega) (by omega) (by omega) (by omega)
      obtain ⟨dy, v2, w2, e2, p2, q2, t2⟩ := within_spec (N := N) hn (lo := -90) (hi := 90) t1 (by omega) (by omega) (by omega) (by omega)
      have bx := hI.bx
      have by' := hI.by'
      have wm : W ((many : Int) - 1) = (many : Int) - 1 := W_id (by omega) (by omega)
      have hlt : decide ((i : Int) < (many : Int)) = true := by simp; omega
      unfold law03_GaugeTrack_b9
      rw [h5, hlt, wm, e1]
      simp only [cond_true, Option.bind_some, e2]
      cases hb' : ((i : Int) == (many : Int) - 1) with
      | true =>
        have hl : (i : Int) = (many : Int) - 1 := by simpa using hb'
        have wx : W (0 - x) = -x := by rw [W_id (by omega) (by omega)]; omega
        have wy : W (0 - y) = -y := by rw [W_id (by omega) (by omega)]; omega
        rw [wx, wy]
        obtain ⟨g, u', m', h6, h7, h8, h9⟩ := track_step (N := N) he h2 h3 h4 (r21 := (dy, v2, w2)) (x := x) (y := y) (dx := -x) (dy := -y) (by omega) (by omega) (by omega) (by omega) (just := just) (rough := rough) (i := i) (by rw [hI.jl]; omega) (by rw [hI.rl]; omega) (by omega) hb (by omega)
        refine ⟨_, h6, rfl, ?_, ?_, ?_⟩
        · exact hI.step hi hm (by omega) (by omega) (by omega) (by omega) h7 h8.1 h8.2 (by omega)
        · exact t2
        · exact h9
      | false =>
        have hl : ¬ (i : Int) = (many : Int) - 1 := by simpa using hb'
        obtain ⟨g, u', m', h6, h7, h8, h9⟩ := track_step (N := N) he h2 h3 h4 (r21 := (dy, v2, w2)) (x := x) (y := y) (dx := dx) (dy := dy) (by omega) (by omega) (by omega) (by omega) (just := just) (rough := rough) (i := i) (by rw [hI.jl]; omega) (by rw [hI.rl]; omega) (by omega) hb (by omega)
        refine ⟨_, h6, rfl, ?_, ?_, ?_⟩
        · exact hI.step hi hm (by omega) (by omega) (by omega) (by omega) h7 h8.1 h8.2 (by omega)
        · exact t2
        · exact h9)
    (by
      rintro ⟨x, y, just, rough, c, u1, m1, u2, m2⟩ ⟨rfl, h⟩
      dsimp only
      unfold law03_GaugeTrack_b9
      rw [h5]
      simp)
    many 0 (0, 0, [], [], 0, u, m, u', m') N (by omega) (by omega)
    ⟨rfl, ⟨rfl, rfl, by simp, by simp, by simp, by simp, by simp [sumBy], by simp [sumBy], by simp [sumBy], by simp [sumBy], by intro; exact ⟨rfl, rfl⟩⟩, hs, hs'⟩
  dsimp only at hc hI hS
  subst hc
  exact ⟨x, y, just, rough, u1, m1, u2, m2, h1, hI, hS⟩
end Go.Nilo
