/-
  What the plain functions compute, in plain arithmetic, part 3. Conditions: what each theorem names.
-/
import Derived.Test.YtbgjmnbgilddgaaMiL2
set_option linter.unusedSimpArgs false
set_option linter.unusedVariables false
namespace Go.Nilo
/-! ### Loops by an invariant -/
theorem loopInv {σ ρ : Type} (b : σ → Option (Step σ ρ)) (Inv : Nat → σ → Prop) (n : Nat) (hstep : ∀ i s, i < n → Inv i s → ∃ s', b s = some (.cont s') ∧ Inv (i + 1) s') (hend : ∀ s, Inv n s → b s = some (.brk s)) :
    ∀ (m i : Nat) (s : σ) (N : Nat), i + m = n → m < N → Inv i s → ∃ s', loopO b N s = some (.go s') ∧ Inv n s'
  | m, i, s, 0, _, h, _ => by omega
  | 0, i, s, N + 1, hi, _, hs => by
    obtain rfl : i = n := by omega
    exact ⟨s, by unfold loopO; rw [hend s hs], hs⟩
  | m + 1, i, s, N + 1, hi, hN, hs => by
    obtain ⟨s', h1, h2⟩ := hstep i s (by omega) hs
    obtain ⟨s'', h3, h4⟩ := loopInv b Inv n hstep hend m (i + 1) s' N (by omega) (by omega) h2
    exact ⟨s'', by unfold loopO; rw [h1]; exact h3, h4⟩

theorem getI_nat {α : Type} {l : List α} {i : Nat} (h : i < l.length) : getI l (i : Int) = some l[i] := by unfold getI; simp [h]
theorem W_succ {i : Nat} (h : i < 9223372036854775807) : W ((i : Int) + 1) = ((i + 1 : Nat) : Int) := by rw [W_id (by omega) (by omega)]; push_cast; rfl

def sumBy {α : Type} (f : α → Int) (l : List α) : Int := (l.map f).sum
theorem sumBy_take {α : Type} (f : α → Int) (l : List α) (i : Nat) (h : i < l.length) : sumBy f (l.take (i + 1)) = sumBy f (l.take i) + f l[i] := by
  unfold sumBy
  rw [List.take_succ_eq_append_getElem h, List.map_append, List.sum_append, List.map_cons, List.map_nil, List.sum_cons, List.sum_nil, Int.add_zero]

theorem absmul {x y : Int} {A B : Nat} (hx : x.natAbs ≤ A) (hy : y.natAbs ≤ B) : (x * y).natAbs ≤ A * B := by
  rw [Int.natAbs_mul]
  exact Nat.mul_le_mul hx hy

/-! ### Products of two spans -/
def mn (a b : api_Span) : Int := min (min (min (a.Lo * b.Lo) (a.Lo * b.Hi)) (a.Hi * b.Lo)) (a.Hi * b.Hi)
def mx (a b : api_Span) : Int := max (max (max (a.Lo * b.Lo) (a.Lo * b.Hi)) (a.Hi * b.Lo)) (a.Hi * b.Hi)
structure Spn (s : api_Span) (A : Nat) : Prop where
  le : s.Lo ≤ s.Hi
  lo : s.Lo.natAbs ≤ A
  hi : s.Hi.natAbs ≤ A
theorem mn_le {a b : api_Span} {A B : Nat} (ha : Spn a A) (hb : Spn b B) : (mn a b).natAbs ≤ A * B ∧ (mx a b).natAbs ≤ A * B ∧ mn a b ≤ mx a b := by
  have h1 := absmul ha.lo hb.lo
  have h2 := absmul ha.lo hb.hi
  have h3 := absmul ha.hi hb.lo
  have h4 := absmul ha.hi hb.hi
  unfold mn mx
  omega
theorem times2 {N : Nat} (hN : 3 ≤ N) {a b : api_Span} {A B : Nat} (ha : Spn a A) (hb : Spn b B) (hA : A ≤ 9223372036854775807) (hAB : A * B ≤ 9223372036854775807) : gauge_times N ([a, b] : List api_Span) = some ⟨mn a b, mx a b⟩ := by
  obtain ⟨M, rfl⟩ : ∃ M, N = M + 3 := ⟨N - 3, by omega⟩
  have h1 := absmul ha.lo hb.lo
  have h2 := absmul ha.lo hb.hi
  have h3 := absmul ha.hi hb.lo
  have h4 := absmul ha.hi hb.hi
  obtain ⟨hle, ha1, ha2⟩ := ha
  have e1 : W a.Lo = a.Lo := W_id (by omega) (by omega)
  have e2 : W a.Hi = a.Hi := W_id (by omega) (by omega)
  have e3 : W (a.Lo * b.Lo) = a.Lo * b.Lo := W_id (by omega) (by omega)
  have e4 : W (a.Lo * b.Hi) = a.Lo * b.Hi := W_id (by omega) (by omega)
  have e5 : W (a.Hi * b.Lo) = a.Hi * b.Lo := W_id (by omega) (by omega)
  have e6 : W (a.Hi * b.Hi) = a.Hi * b.Hi := W_id (by omega) (by omega)
  have m1 : min (min (min a.Lo a.Hi) a.Lo) a.Hi = a.Lo := by omega
  have m2 : max (max (max a.Lo a.Hi) a.Lo) a.Hi = a.Hi := by omega
  have b0 : gauge_times_b5 (M + 3) [a, b] 0 1 1 = some (.cont (1, a.Lo, a.Hi)) := by
    unfold gauge_times_b5
    rw [show getI [a, b] 0 = some a from rfl, show decide ((0 : Int) < (([a, b].length : Nat) : Int)) = true from rfl]
    simp only [cond_true, Option.bind_some, Int.one_mul, e1, e2, m1, m2]
    rfl
  have b1 : gauge_times_b5 (M + 3) [a, b] 1 a.Lo a.Hi = some (.cont (2, mn a b, mx a b)) := by
    unfold gauge_times_b5
    rw [show getI [a, b] 1 = some b from rfl, show decide ((1 : Int) < (([a, b].length : Nat) : Int)) = true from rfl]
    simp only [cond_true, Option.bind_some, e3, e4, e5, e6]
    rfl
  have b2 : gauge_times_b5 (M + 3) [a, b] 2 (mn a b) (mx a b) = some (.brk (2, mn a b, mx a b)) := by
    unfold gauge_times_b5
    rw [show decide ((2 : Int) < (([a, b].length : Nat) : Int)) = false from rfl]
    rfl
  unfold gauge_times
  have hl : loopO (fun s5 => gauge_times_b5 (M + 3) [a, b] s5.1 s5.2.1 s5.2.2) (M + 3) (0, 1, 1) = some (.go (2, mn a b, mx a b)) := by
    rw [loopO]; simp only [b0]
    rw [loopO]; simp only [b1]
    rw [loopO]; simp only [b2]
  rw [hl]
  rfl

/-! ### A leg -/
structure LegOk (g : gauge_Leg) : Prop where
  x : Spn g.X 10000
  y : Spn g.Y 10000
  d : Spn g.Depth 2000
  d0 : 0 ≤ g.Depth.Lo
  e : Spn g.East 5000
  n : Spn g.North 5000
def crossS (g : gauge_Leg) : api_Span := ⟨mn g.East g.Y - mx g.North g.X, mx g.East g.Y - mn g.North g.X⟩
def legLo (g : gauge_Leg) : Int := mn g.Depth (crossS g)
def legHi (g : gauge_Leg) : Int := mx g.Depth (crossS g)
theorem LegOk.cross {g : gauge_Leg} (h : LegOk g) : Spn (crossS g) 100000000 := by
  have h1 := mn_le h.e h.y
  have h2 := mn_le h.n h.x
  unfold crossS
  refine ⟨?_, ?_, ?_⟩ <;> dsimp only <;> omega
theorem LegOk.bd {g : gauge_Leg} (h : LegOk g) : (legLo g).natAbs ≤ 200000000000 ∧ (legHi g).natAbs ≤ 200000000000 ∧ legLo g ≤ legHi g := mn_le h.d h.cross
theorem LegOk.every {g : gauge_Leg} (h : LegOk g) : gauge_every_gauge_Leg_1 g = false := by
  obtain ⟨⟨x1, x2, x3⟩, ⟨y1, y2, y3⟩, ⟨d1, d2, d3⟩, d0, ⟨e1, e2, e3⟩, ⟨n1, n2, n3⟩⟩ := h
  unfold gauge_every_gauge_Leg_1 gauge_Cross_1 gauge_right gauge_in
  simp; omega
theorem everyLeg {N : Nat} {l : List gauge_Leg} (hl : l.length ≤ 1000000) (hN : l.length < N) : gauge_every_gauge_Leg N l = some (!(l.any gauge_every_gauge_Leg_1)) := by
  unfold gauge_every_gauge_Leg slices_ContainsFunc_Lgauge_Leg_gauge_Leg slices_IndexFunc_Lgauge_Leg_gauge_Leg
  rcases indexLoop gauge_every_gauge_Leg_1 l (by omega) (fun s4 => slices_IndexFunc_Lgauge_Leg_gauge_Leg_b4 N l s4) (fun x => rfl) l.length 0 N (by omega) hN with ⟨k, h1, h2, h3⟩ | ⟨h1, h2⟩
  · rw [List.drop_zero] at h3
    rw [show ((0 : Nat) : Int) = 0 from rfl] at h1
    rw [h1, h3]
    simp [exK, h2]
  · rw [List.drop_zero] at h2
    rw [show ((0 : Nat) : Int) = 0 from rfl] at h1
    rw [h1, h2]
    simp [exK]

theorem cross_spec {N : Nat} (hN : 40 ≤ N) {l : List gauge_Leg} (h0 : 1 ≤ l.length) (h1 : l.length ≤ 30) (hl : ∀ g ∈ l, LegOk g) : gauge_Cross N l = some (⟨sumBy legLo l, sumBy legHi l⟩, 0) := by
  have hin : gauge_in ((l.length : Nat) : Int) 1 30 = true := by unfold gauge_in; simp; omega
  have hev : l.any gauge_every_gauge_Leg_1 = false := by
    rw [List.any_eq_false]
    intro g hg
    simp [(hl g hg).every]
  unfold gauge_Cross
  rw [hin, everyLeg (by omega) (by omega), hev]
  obtain ⟨⟨x, lo, hi⟩, hloop, hx, hlo, hhi, -, -⟩ := loopInv (fun s10 => gauge_Cross_b10 N l s10.1 s10.2.1 s10.2.2)
    (fun i s => s.1 = (i : Int) ∧ s.2.1 = sumBy legLo (l.take i) ∧ s.2.2 = sumBy legHi (l.take i) ∧ s.2.1.natAbs ≤ i * 200000000000 ∧ s.2.2.natAbs ≤ i * 200000000000) l.length
    (by
      rintro i ⟨x, lo, hi⟩ hi' ⟨rfl, h2, h3, h4, h5⟩
      dsimp only at h2 h3 h4 h5 ⊢
      have hg := hl l[i] (List.getElem_mem _)
      have hb := hg.bd
      refine ⟨(((i + 1 : Nat) : Int), lo + legLo l[i], hi + legHi l[i]), ?_, rfl, ?_, ?_, ?_, ?_⟩
      · unfold gauge_Cross_b10
        have hlt : decide ((i : Int) < ((l.length : Nat) : Int)) = true := by simp; omega
        have c1 := mn_le hg.e hg.y
        have c2 := mn_le hg.n hg.x
        rw [hlt, getI_nat hi', W_succ (by omega)]
        simp only [cond_true, Option.bind_some, times2 (N := N) (by omega) hg.e hg.y (by omega) (by omega), times2 (N := N) (by omega) hg.n hg.x (by omega) (by omega), gauge_less]
        rw [W_id (n := mn l[i].East l[i].Y - mx l[i].North l[i].X) (by omega) (by omega), W_id (n := mx l[i].East l[i].Y - mn l[i].North l[i].X) (by omega) (by omega)]
        have ht := times2 (N := N) (by omega) hg.d hg.cross (by omega) (by omega)
        unfold crossS at ht
        simp only [ht, Option.bind_some, gauge_plus]
        have ea : W (lo + legLo l[i]) = lo + legLo l[i] := W_id (by omega) (by omega)
        have eb : W (hi + legHi l[i]) = hi + legHi l[i] := W_id (by omega) (by omega)
        unfold legLo crossS at ea
        unfold legHi crossS at eb
        rw [ea, eb]
        rfl
      · dsimp only; rw [sumBy_take _ _ _ hi', h2]
      · dsimp only; rw [sumBy_take _ _ _ hi', h3]
      · dsimp only; omega
      · dsimp only; omega)
    (by
      rintro ⟨x, lo, hi⟩ ⟨rfl, h2⟩
      dsimp only
      unfold gauge_Cross_b10
      simp)
    l.length 0 (0, 0, 0) N (by omega) (by omega) (by simp [sumBy])
  dsimp only at hx hlo hhi
  rw [hloop]
  simp [exK, hlo, hhi]
end Go.Nilo
