/-
  What the plain functions compute, in plain arithmetic, part 6. Conditions: what each theorem names.
-/
import Derived.Test.YtlbmcojegiabpaaPaL5
set_option linter.unusedSimpArgs false
set_option linter.unusedVariables false
namespace Go.Nilo
theorem SOk.up {u m : Int} {k k' : Nat} (h : SOk u m k) (hk : k ≤ k') : SOk u m k' := ⟨h.u0, by have := h.u1; omega, h.m0, h.m1⟩
/-- What can be paid, of numbers. -/
theorem can_loop {N : Nat} (hN : 60 ≤ N) {bytes : List Int} (hb : Bytes bytes) {r1 : Int × Int × Int} (hL : 50 ≤ r1.1 ∧ r1.1 ≤ 200) {u m : Int} {k : Nat} (hs : SOk u m k) (hk : k ≤ 1000) :
    ∃ C u' m', loopO (fun s7 => law09_SharePaid_b7 N bytes r1 s7.1 s7.2.1 s7.2.2.1 s7.2.2.2) N (0, u, m, ([] : List Int)) = some (.go (40, u', m', C)) ∧ C.length = 40 ∧ ∀ j, j < 40 → r1.1 ≤ C.getD j 0 ∧ C.getD j 0 ≤ 1000 := by
  obtain ⟨⟨x, u', m', C⟩, h1, rfl, h2, h3, -⟩ := loopInv (fun s7 => law09_SharePaid_b7 N bytes r1 s7.1 s7.2.1 s7.2.2.1 s7.2.2.2)
    (fun i s => s.1 = (i : Int) ∧ s.2.2.2.length = i ∧ (∀ j, j < i → r1.1 ≤ s.2.2.2.getD j 0 ∧ s.2.2.2.getD j 0 ≤ 1000) ∧ SOk s.2.1 s.2.2.1 (k + i)) 40
    (by
      rintro i ⟨x, u', m', C⟩ hi ⟨rfl, h2, h3, h4⟩
      dsimp only at h2 h3 h4 ⊢
      obtain ⟨r, u2, m2, e1, a1, b1, s1⟩ := next_spec (N := N) hb (n := 300) h4 (by omega)
      have hlt : decide ((i : Int) < 40) = true := by simp; omega
      have w : W (r1.1 + r) = r1.1 + r := W_id (by omega) (by omega)
      refine ⟨(((i + 1 : Nat) : Int), u2, m2, C ++ [r1.1 + r]), ?_, rfl, by simp [h2], ?_, s1⟩
      · unfold law09_SharePaid_b7
        rw [hlt, e1]
        simp only [cond_true, Option.bind_some, w, W_succ (i := i) (by omega)]
        rw [room_ok (by simp; omega)]
        rfl
      · intro j hj
        dsimp only
        by_cases hji : j < i
        · rw [getD_lt (by omega)]; exact h3 j hji
        · obtain rfl : j = C.length := by omega
          rw [getD_eq]; omega)
    (by
      rintro ⟨x, u', m', C⟩ ⟨rfl, -⟩
      dsimp only
      unfold law09_SharePaid_b7
      rfl)
    40 0 (0, u, m, []) N (by omega) (by omega) ⟨rfl, rfl, by intro j hj; omega, hs⟩
  exact ⟨C, u', m', h1, h2, h3⟩

theorem paid_loop {N : Nat} (hN : 60 ≤ N) {r1 r2 : Int × Int × Int} {C out : List Int} {o : Int} {q : Int} (hL : 50 ≤ r1.1 ∧ r1.1 ≤ 200) (hP : 1 ≤ r2.1 ∧ r2.1 ≤ 9) (ho : 0 ≤ o ∧ o ≤ 2000) (hC : C.length = 40) (hc : ∀ j, j < 40 → r1.1 ≤ C.getD j 0 ∧ C.getD j 0 ≤ 1000)
    (h : Paid r1.1 r2.1 o (fun j => C.getD j 0) C.length out) :
    ∃ l x, loopO (fun s15 => law09_SharePaid_b15 N r1 r2 C (out, q) s15.1 s15.2.1 s15.2.2) N (out, o, 0) = some (.go (out, l, x)) := by
  have hle := h.le
  have nn : ∀ n, n ≤ 40 → 0 ≤ owes r1.1 r2.1 (fun j => C.getD j 0) o n := fun n hn => owes_nn (by omega) hP.1 ho.1 n (fun i hi => (hc i (by omega)).1)
  have le : ∀ n, n ≤ 40 → owes r1.1 r2.1 (fun j => C.getD j 0) o n ≤ o := fun n hn => by
    have h1 := owes_le (L := r1.1) (P := r2.1) (can := fun j => C.getD j 0) (o := o) (by omega) hP.1 ho.1 n (fun i hi => (hc i (by omega)).1)
    have h2 : 0 ≤ r1.1 * n := Int.mul_nonneg (by omega) (by omega)
    omega
  obtain ⟨⟨a, l, x⟩, h1, rfl, -⟩ := loopInv (fun s15 => law09_SharePaid_b15 N r1 r2 C (out, q) s15.1 s15.2.1 s15.2.2) (fun i s => s.1 = out ∧ s.2.2 = (i : Int) ∧ s.2.1 = owes r1.1 r2.1 (fun j => C.getD j 0) o i) out.length
    (by
      rintro i ⟨a, l, x⟩ hi ⟨rfl, rfl, h3⟩
      dsimp only at h3 hi hle h ⊢
      have hpos := h.pos i hi
      have hel := h.el i hi
      have hci := hc i (by omega)
      have hno := nn i (by omega)
      have hlo := le i (by omega)
      have hb := payN_bd (L := r1.1) (P := r2.1) (d := l) (c := C.getD i 0) (by omega) hP.1 (by omega) hci.1
      rw [← h3] at hel hpos
      have hlt : decide ((i : Int) < ((a.length : Nat) : Int)) = true := by simp; omega
      have hgC : getI C (i : Int) = some (C.getD i 0) := getI_getD (by omega)
      have w : W (l - a.getD i 0) = l - a.getD i 0 := W_id (by omega) (by omega)
      refine ⟨(a, l - a.getD i 0, ((i + 1 : Nat) : Int)), ?_, rfl, rfl, ?_⟩
      · unfold law09_SharePaid_b15
        rw [hlt, getI_getD hi]
        simp only [cond_true, Option.bind_some, hgC]
        have d1 : decide (a.getD i 0 < 1) = false := by simp only [decide_eq_false_iff_not]; omega
        have d2 : decide (C.getD i 0 < a.getD i 0) = false := by simp only [decide_eq_false_iff_not]; omega
        have d3 : decide (l < a.getD i 0) = false := by simp only [decide_eq_false_iff_not]; omega
        simp only [d1, d2, d3, cond_false, Option.bind_some, Bool.or_false]
        have hpart : ∀ b : Bool, cond (decide (a.getD i 0 < l)) (some (decide (a.getD i 0 < C.getD i 0))) (some false) = some b → (b && ((decide (a.getD i 0 < r1.1)) || (decide ((W (a.getD i 0 * r2.1)) < l)))) = false := by
          intro b hb'
          cases hx : decide (a.getD i 0 < l) with
          | false => rw [hx] at hb'; simp at hb'; subst hb'; rfl
          | true =>
            rw [hx] at hb'
            simp only [cond_true, Option.some.injEq] at hb'
            subst hb'
            cases hy : decide (a.getD i 0 < C.getD i 0) with
            | false => rfl
            | true =>
              have x1 := of_decide_eq_true hx
              have y1 := of_decide_eq_true hy
              rw [hel] at x1 y1
              have hp := payN_part hP.1 x1 y1
              rw [← hel] at hp
              have m1 := mul_bd (a := a.getD i 0) (b := r2.1) (A := 2000) (B := 9) (by omega) (by omega) (by omega) (by omega)
              have e1 : decide (a.getD i 0 < r1.1) = false := by simp only [decide_eq_false_iff_not]; omega
              have e2 : decide (W (a.getD i 0 * r2.1) < l) = false := by rw [W_id (by omega) (by omega)]; simp only [decide_eq_false_iff_not]; omega
              rw [e1, e2]; rfl
        cases hz : cond (decide (a.getD i 0 < l)) (some (decide (a.getD i 0 < C.getD i 0))) (some false) with
        | none => exfalso; revert hz; cases decide (a.getD i 0 < l) <;> (intro hz; cases hz)
        | some b =>
          simp only [Option.bind_some, hpart b hz, cond_false, w, W_succ (i := i) (by omega)]
      · dsimp only
        rw [owes, ← h3, ← hel])
    (by
      rintro ⟨a, l, x⟩ ⟨h1, h2, h3⟩
      dsimp only at h1 h2 h3 ⊢
      subst h1 h2
      unfold law09_SharePaid_b15
      dsimp only
      rw [show decide (((a.length : Nat) : Int) < ((a.length : Nat) : Int)) = false by simp]
      rfl)
    out.length 0 (out, o, 0) N (by omega) (by omega) ⟨rfl, rfl, rfl⟩
  exact ⟨l, x, h1⟩

theorem fast_loop {N : Nat} (hN : 60 ≤ N) {L P o : Int} {C l quick : List Int} {q : Int} (hL : 50 ≤ L ∧ L ≤ 200) (hP : 1 ≤ P ∧ P ≤ 9) (ho : 0 ≤ o ∧ o ≤ 2000) (hC : C.length = 40) (hc : ∀ j, j < 40 → L ≤ C.getD j 0 ∧ C.getD j 0 ≤ 1000)
    (hl : Paid L P o (fun j => C.getD j 0) C.length l) (hq : Paid L 1 o (fun j => C.getD j 0) C.length quick) :
    ∃ s x, loopO (fun s25 => law09_SharePaid_b25 N C l (quick, q) s25.1 s25.2.1 s25.2.2) N (quick, 0, 0) = some (.go (quick, s, x)) := by
  have hle := hl.le
  have hqe := hq.le
  have nn : ∀ (P : Int) n, 1 ≤ P → n ≤ 40 → 0 ≤ owes L P (fun j => C.getD j 0) o n := fun P n hP hn => owes_nn (by omega) hP ho.1 n (fun i hi => (hc i (by omega)).1)
  have le : ∀ (P : Int) n, 1 ≤ P → n ≤ 40 → owes L P (fun j => C.getD j 0) o n ≤ o := fun P n hP hn => by
    have h1 := owes_le (L := L) (P := P) (can := fun j => C.getD j 0) (o := o) (by omega) hP ho.1 n (fun i hi => (hc i (by omega)).1)
    have h2 : 0 ≤ L * n := Int.mul_nonneg (by omega) (by omega)
    omega
  obtain ⟨⟨a, s, x⟩, h1, rfl, -⟩ := loopInv (fun s25 => law09_SharePaid_b25 N C l (quick, q) s25.1 s25.2.1 s25.2.2) (fun i s => s.1 = quick ∧ s.2.2 = (i : Int) ∧ s.2.1 = o - owes L 1 (fun j => C.getD j 0) o i) quick.length
    (by
      rintro i ⟨a, s, x⟩ hi ⟨rfl, rfl, h3⟩
      dsimp only at h3 hi hqe hq ⊢
      have hel := hq.el i hi
      have hci := hc i (by omega)
      have n1 := nn 1 i (by omega) (by omega)
      have n2 := nn 1 (i + 1) (by omega) (by omega)
      have l1 := le 1 i (by omega) (by omega)
      have hnext : owes L 1 (fun j => C.getD j 0) o (i + 1) = owes L 1 (fun j => C.getD j 0) o i - a.getD i 0 := by rw [owes, ← hel]
      have hb := payN_bd (L := L) (P := 1) (d := owes L 1 (fun j => C.getD j 0) o i) (c := C.getD i 0) (by omega) (by omega) (by omega) hci.1
      have hlt : decide ((i : Int) < ((a.length : Nat) : Int)) = true := by simp; omega
      have hgC : getI C (i : Int) = some (C.getD i 0) := getI_getD (by omega)
      have w1 : W (((a.length : Nat) : Int) - 1) = ((a.length : Nat) : Int) - 1 := W_id (by omega) (by omega)
      have w2 : W (s + a.getD i 0) = s + a.getD i 0 := W_id (by omega) (by omega)
      have c1 : cond (decide ((i : Int) < ((a.length : Nat) : Int) - 1)) (some (a.getD i 0 != C.getD i 0)) (some false) = some false := by
        cases hx : decide ((i : Int) < ((a.length : Nat) : Int) - 1) with
        | false => rfl
        | true =>
          have x1 := of_decide_eq_true hx
          have hp1 := hq.pos (i + 1) (by omega)
          rw [hnext] at hp1
          have hmin : a.getD i 0 = min (owes L 1 (fun j => C.getD j 0) o i) (C.getD i 0) := by
            rw [hel]
            unfold payN
            rw [Int.ediv_one]
            omega
          have : a.getD i 0 = C.getD i 0 := by omega
          rw [this]
          simp
      have c2 : cond (decide ((i : Int) < ((l.length : Nat) : Int))) (Option.bind (subO l 0 (W ((i : Int) + 1))) fun sub_1 => Option.bind (law09_total N sub_1) fun r_10 => some (decide (s + a.getD i 0 < r_10))) (some false) = some false := by
        cases hx : decide ((i : Int) < ((l.length : Nat) : Int)) with
        | false => rfl
        | true =>
          have x1 := of_decide_eq_true hx
          have hil : i + 1 ≤ l.length := by omega
          have hs : subO l 0 (W ((i : Int) + 1)) = some (l.take (i + 1)) := by
            rw [W_succ (by omega)]
            unfold subO
            rw [if_pos (by omega)]
            simp
          have ht := total_spec (N := N) (l := l.take (i + 1)) (by simp; omega) hN (by
            intro y hy
            obtain ⟨j, hj, rfl⟩ := List.getElem_of_mem hy
            have hj' : j < i + 1 := by simp at hj; omega
            rw [List.getElem_take, get_getD (d := 0) (by omega), hl.el j (by omega)]
            have hcj := hc j (by omega)
            have := payN_bd (L := L) (P := P) (d := owes L P (fun j => C.getD j 0) o j) (c := C.getD j 0) (by omega) hP.1 (nn P j hP.1 (by omega)) hcj.1
            omega)
          rw [cond_true, hs, Option.bind_some, ht, Option.bind_some, paid_sum hl _ hil]
          have hf := owes_fast (L := L) (P := P) (can := fun j => C.getD j 0) (o := o) (by omega) hP.1 ho.1 (i + 1) (fun j hj => (hc j (by omega)).1)
          congr 1
          simp only [decide_eq_false_iff_not]
          omega
      refine ⟨(a, s + a.getD i 0, ((i + 1 : Nat) : Int)), ?_, rfl, rfl, ?_⟩
      · unfold law09_SharePaid_b25
        rw [hlt, getI_getD hi, w1]
        simp only [cond_true, Option.bind_some, hgC, w2]
        rw [c1]
        simp only [Option.bind_some, cond_false]
        rw [c2]
        simp only [Option.bind_some, cond_false, W_succ (i := i) (by omega)]
      · dsimp only
        omega)
    (by
      rintro ⟨a, s, x⟩ ⟨h1, h2, h3⟩
      dsimp only at h1 h2 h3 ⊢
      subst h1 h2
      unfold law09_SharePaid_b25
      dsimp only
      rw [show decide (((a.length : Nat) : Int) < ((a.length : Nat) : Int)) = false by simp]
      rfl)
    quick.length 0 (quick, 0, 0) N (by omega) (by omega) ⟨rfl, rfl, by dsimp only; unfold owes; omega⟩
  exact ⟨s, x, h1⟩
end Go.Nilo
