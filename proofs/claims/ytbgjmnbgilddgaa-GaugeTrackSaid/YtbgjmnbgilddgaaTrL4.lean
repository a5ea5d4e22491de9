/-
  What the plain functions compute, in plain arithmetic, part 4. Conditions: what each theorem names.
-/
import Derived.Test.YtbgjmnbgilddgaaTrL3
set_option linter.unusedSimpArgs false
set_option linter.unusedVariables false
namespace Go.Nilo
/-! ### A product of what lies in two spans lies in the product -/
theorem mul_between {x y lo hi : Int} (h1 : lo ≤ x) (h2 : x ≤ hi) : min (lo * y) (hi * y) ≤ x * y ∧ x * y ≤ max (lo * y) (hi * y) := by
  rcases Int.le_total 0 y with hy | hy
  · have a := Int.mul_le_mul_of_nonneg_right h1 hy
    have b := Int.mul_le_mul_of_nonneg_right h2 hy
    omega
  · have a := Int.mul_le_mul_of_nonpos_right h1 hy
    have b := Int.mul_le_mul_of_nonpos_right h2 hy
    omega
def In (x : Int) (s : api_Span) : Prop := s.Lo ≤ x ∧ x ≤ s.Hi
theorem in_times {x y : Int} {a b : api_Span} (hx : In x a) (hy : In y b) : mn a b ≤ x * y ∧ x * y ≤ mx a b := by
  have h1 := mul_between (y := y) hx.1 hx.2
  have h2 := mul_between (y := a.Lo) hy.1 hy.2
  have h3 := mul_between (y := a.Hi) hy.1 hy.2
  rw [Int.mul_comm b.Lo, Int.mul_comm b.Hi, Int.mul_comm y] at h2 h3
  unfold mn mx
  omega
theorem in_cross {g : gauge_Leg} {dx dy e n : Int} (h1 : In dx g.X) (h2 : In dy g.Y) (h3 : In e g.East) (h4 : In n g.North) : In (e * dy - n * dx) (crossS g) := by
  have a := in_times h3 h2
  have b := in_times h4 h1
  unfold In crossS
  dsimp only
  omega
theorem in_leg {g : gauge_Leg} {dx dy d e n : Int} (h1 : In dx g.X) (h2 : In dy g.Y) (h3 : In e g.East) (h4 : In n g.North) (h5 : In d g.Depth) : legLo g ≤ d * (e * dy - n * dx) ∧ d * (e * dy - n * dx) ≤ legHi g := in_times h5 (in_cross h1 h2 h3 h4)
theorem mn_pt (x y : Int) : mn ⟨x, x⟩ ⟨y, y⟩ = x * y := by simp [mn]
theorem mx_pt (x y : Int) : mx ⟨x, x⟩ ⟨y, y⟩ = x * y := by simp [mx]
def ptLeg (dx dy d e n : Int) : gauge_Leg := ⟨⟨dx, dx⟩, ⟨dy, dy⟩, ⟨d, d⟩, ⟨e, e⟩, ⟨n, n⟩⟩
theorem legLo_pt (dx dy d e n : Int) : legLo (ptLeg dx dy d e n) = d * (e * dy - n * dx) := by
  unfold legLo crossS ptLeg
  dsimp only
  rw [mn_pt, mx_pt, mn_pt, mx_pt, mn_pt]
theorem legHi_pt (dx dy d e n : Int) : legHi (ptLeg dx dy d e n) = d * (e * dy - n * dx) := by
  unfold legHi crossS ptLeg
  dsimp only
  rw [mn_pt, mx_pt, mn_pt, mx_pt, mx_pt]
theorem ptOk {dx dy d e n : Int} (h1 : dx.natAbs ≤ 10000) (h2 : dy.natAbs ≤ 10000) (h3 : 0 ≤ d ∧ d ≤ 2000) (h4 : e.natAbs ≤ 5000) (h5 : n.natAbs ≤ 5000) : LegOk (ptLeg dx dy d e n) :=
  ⟨⟨Int.le_refl _, h1, h1⟩, ⟨Int.le_refl _, h2, h2⟩, ⟨Int.le_refl _, by unfold ptLeg; dsimp only; omega, by unfold ptLeg; dsimp only; omega⟩, h3.1, ⟨Int.le_refl _, h4, h4⟩, ⟨Int.le_refl _, h5, h5⟩⟩

/-! ### Lists in another order -/
theorem sumBy_perm {α : Type} {f : α → Int} {l l' : List α} (h : l.Perm l') : sumBy f l = sumBy f l' := by
  unfold sumBy
  induction h with
  | nil => rfl
  | cons x _ ih => simp [ih]
  | swap x y l => simp; omega
  | trans _ _ h1 h2 => rw [h1, h2]
theorem sumBy_snoc {α : Type} (f : α → Int) (l : List α) (x : α) : sumBy f (l ++ [x]) = sumBy f l + f x := by unfold sumBy; simp

theorem room_ok {n : Nat} (h : n ≤ 1000000) : room n = some () := by unfold room; rw [if_pos h]
def rangeI (n : Nat) : List Int := (List.range n).map fun (i : Nat) => (i : Int)
theorem rangeI_succ (n : Nat) : rangeI (n + 1) = rangeI n ++ [(n : Int)] := by unfold rangeI; rw [List.range_succ, List.map_append]; rfl
theorem mixed_spec {N : Nat} {bytes : List Int} (hb : Bytes bytes) {u m : Int} {k n : Nat} (hs : SOk u m k) (hk : k + n ≤ 1000000) (hN : n < N) :
    ∃ out u' m', kit_Mixed N ⟨bytes, u, m⟩ (n : Int) = some (out, u', m') ∧ out.Perm (rangeI n) ∧ SOk u' m' (k + n) := by
  obtain ⟨⟨out, x, u', m'⟩, hloop, hx, hl, hp, hs'⟩ := loopInv (fun s5 => kit_Mixed_b5 N ⟨bytes, u, m⟩ (n : Int) s5.1 s5.2.1 s5.2.2.1 s5.2.2.2)
    (fun i s => s.2.1 = (i : Int) ∧ s.1.length = i ∧ s.1.Perm (rangeI i) ∧ SOk s.2.2.1 s.2.2.2 (k + i)) n
    (by
      rintro i ⟨out, x, u', m'⟩ hi ⟨rfl, hl, hp, hs⟩
      dsimp only at hl hp hs ⊢
      obtain ⟨r, u2, m2, h1, h2, h3, h4⟩ := next_spec (N := N) hb (n := ((i + 1 : Nat) : Int)) hs (by omega)
      have hri : r < ((i + 1 : Nat) : Int) := by rcases h3 with h3 | h3 <;> omega
      obtain ⟨r', rfl⟩ : ∃ r' : Nat, r = (r' : Int) := ⟨r.toNat, by omega⟩
      have hlen : (out ++ [(i : Int)]).length = i + 1 := by simp [hl]
      have hr' : r' < (out ++ [(i : Int)]).length := by omega
      have hi' : i < (out ++ [(i : Int)]).length := by omega
      refine ⟨((((out ++ [(i : Int)]).set ((i : Int)).toNat (out ++ [(i : Int)])[r']).set ((r' : Int)).toNat (out ++ [(i : Int)])[i]), ((i + 1 : Nat) : Int), u2, m2), ?_, rfl, ?_, ?_, h4⟩
      · unfold kit_Mixed_b5
        have hlt : decide ((i : Int) < (n : Int)) = true := by simp; omega
        rw [hlt, W_succ (by omega)]
        simp only [cond_true, h1, Option.bind_some, room_ok (n := (out ++ [(i : Int)]).length) (by omega), getI_nat hr', getI_nat hi']
      · simp [hl]
      · dsimp only
        have := List.set_set_perm hi' hr'
        simp only [Int.toNat_natCast]
        refine this.trans ?_
        rw [rangeI_succ]
        exact hp.append_right _)
    (by
      rintro ⟨out, x, u', m'⟩ ⟨rfl, h2⟩
      dsimp only
      unfold kit_Mixed_b5
      simp)
    n 0 ([], 0, u, m) N (by omega) hN ⟨rfl, rfl, List.Perm.refl _, hs⟩
  dsimp only at hp hs'
  refine ⟨out, u', m', ?_, hp, hs'⟩
  unfold kit_Mixed
  dsimp only
  rw [hloop]
  rfl
end Go.Nilo
