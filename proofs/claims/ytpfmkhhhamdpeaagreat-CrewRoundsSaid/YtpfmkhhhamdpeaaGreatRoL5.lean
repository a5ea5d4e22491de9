/-
  What the plain functions compute, in plain arithmetic, part 5. Conditions: what each theorem names.
-/
import Derived.Test.YtpfmkhhhamdpeaaGreatRoL4
set_option linter.unusedSimpArgs false
set_option linter.unusedVariables false
namespace Go.Nilo
structure PayOk (p : crew_Pay) : Prop where
  r0 : 0 ≤ p.Rate
  r1 : p.Rate ≤ 10000
  n0 : 0 ≤ p.Normal
  n1 : p.Normal ≤ 1440
  e0 : 0 ≤ p.Extra
  e1 : p.Extra ≤ 1000
def payT (p : crew_Pay) (n : Int) : Int := p.Rate * (1000 * n + p.Extra * max 0 (n - p.Normal))
theorem payT_bd {p : crew_Pay} (h : PayOk p) {n : Int} (h0 : 0 ≤ n) (h1 : n ≤ 1440) : 0 ≤ payT p n ∧ payT p n ≤ 28800000000 := by
  have a := mul_bd (a := p.Extra) (b := max 0 (n - p.Normal)) h.e0 (by omega) h.e1 (B := 1440) (by have := h.n0; omega)
  have b := mul_bd (a := p.Rate) (b := 1000 * n + p.Extra * max 0 (n - p.Normal)) h.r0 (by omega) h.r1 (B := 2880000) (by omega)
  unfold payT
  omega
theorem pay_sum {p : crew_Pay} (h : PayOk p) : ∀ {l : List Int}, (∀ n ∈ l, 0 ≤ n ∧ n ≤ 1440) → 0 ≤ sumBy (payT p) l ∧ sumBy (payT p) l ≤ 28800000000 * (l.length : Int)
  | [], _ => by simp [sumBy]
  | a :: l, hl => by
    have h1 := pay_sum h (l := l) fun n hn => hl n (List.mem_cons_of_mem _ hn)
    have h2 := hl a List.mem_cons_self
    have h3 := payT_bd h h2.1 h2.2
    have e : sumBy (payT p) (a :: l) = payT p a + sumBy (payT p) l := by simp [sumBy]
    rw [e, List.length_cons]
    push_cast
    omega
def paidF (p : crew_Pay) (l : List Int) : Int := (sumBy (payT p) l + 59999) / 60000
theorem paid_ok {N : Nat} {p : crew_Pay} (h : PayOk p) {l : List Int} (hl : ∀ n ∈ l, 0 ≤ n ∧ n ≤ 1440) (hn : l.length ≤ 366) (hN : 400 ≤ N) : crew_Paid N p l = some (paidF p l, 0) := by
  obtain ⟨r0, r1, n0, n1, e0, e1⟩ := id h
  unfold crew_Paid
  have c1 : ((!(crew_in p.Rate 0 10000)) || (!(crew_in p.Normal 0 1440)) || (!(crew_in p.Extra 0 1000))) = false := by
    simp [crew_in, r0, r1, n0, n1, e0, e1]
  have c2 : decide ((366 : Int) < ((l.length : Nat) : Int)) = false := by simp; omega
  have c3 : crew_every_int_s4 N l = some (l.all fun n => inB n 0 1440) := by
    unfold crew_every_int_s4 slices_ContainsFunc_Lint_int_s5 slices_IndexFunc_Lint_int_s7
    exact every_gen (f := crew_every_int_1_s4) (ok := fun n => inB n 0 1440) (fun x => rfl) (by omega) (by omega) _ (fun x => rfl)
  have c4 : (l.all fun n => inB n 0 1440) = true := by
    rw [List.all_eq_true]
    intro n hn'
    have := hl n hn'
    simp [inB, this.1, this.2]
  rw [c1, c2, c3, c4]
  simp only [cond_false, Option.bind_some, Bool.not_true]
  have hpre : ∀ i, i ≤ l.length → 0 ≤ sumBy (payT p) (l.take i) ∧ sumBy (payT p) (l.take i) ≤ 28800000000 * 366 := fun i hi => by
    have := pay_sum h (l := l.take i) fun n hn => hl n (List.mem_of_mem_take hn)
    rw [List.length_take] at this
    omega
  have hrun := runS (ρ := Int × Int) (fun i : Nat => (sumBy (payT p) (l.take i), (i : Int))) l.length (fun s12 => crew_Paid_b12 N p l s12.1 s12.2) (fun i hi => by
    have hx := hl l[i] (List.getElem_mem _)
    have hb := payT_bd h hx.1 hx.2
    have ha := mul_bd (a := p.Extra) (b := max 0 (l[i] - p.Normal)) h.e0 (by omega) h.e1 (B := 1440) (by omega)
    have hp := hpre i (by omega)
    show crew_Paid_b12 N p l _ _ = _
    unfold crew_Paid_b12
    have e1 : W (l[i] - p.Normal) = l[i] - p.Normal := W_id (by omega) (by omega)
    have e2 : W (p.Extra * max 0 (l[i] - p.Normal)) = p.Extra * max 0 (l[i] - p.Normal) := W_id (by omega) (by omega)
    have e3 : W (1000 * l[i]) = 1000 * l[i] := W_id (by omega) (by omega)
    have e4 : W (1000 * l[i] + p.Extra * max 0 (l[i] - p.Normal)) = 1000 * l[i] + p.Extra * max 0 (l[i] - p.Normal) := W_id (by omega) (by omega)
    have e5 : W (p.Rate * (1000 * l[i] + p.Extra * max 0 (l[i] - p.Normal))) = payT p l[i] := W_id (by unfold payT at hb; omega) (by unfold payT at hb; omega)
    have e6 : W (sumBy (payT p) (l.take i) + payT p l[i]) = sumBy (payT p) (l.take (i + 1)) := by
      rw [sumBy_take _ _ _ hi]
      exact W_id (by omega) (by omega)
    simp only [lt_dec hi, cond_true, getI_nat hi, Option.bind_some, e1, e2, e3, e4, e5, e6, W_succ (show i < 9223372036854775807 by omega)]) (by
    show crew_Paid_b12 N p l _ _ = _
    unfold crew_Paid_b12
    rw [ge_dec, cond_false]) (N := N) (by omega)
  have e0' : ((0 : Int), (0 : Int)) = (sumBy (payT p) (l.take 0), ((0 : Nat) : Int)) := by simp [sumBy]
  rw [e0', hrun]
  simp only [Option.bind_some, exK, List.take_length]
  have hp := hpre l.length (Nat.le_refl _)
  rw [List.take_length] at hp
  have e7 : W (sumBy (payT p) l + 59999) = sumBy (payT p) l + 59999 := W_id (by omega) (by omega)
  rw [e7, tdiv_div (by omega), W_id (by omega) (by omega)]
  rfl
end Go.Nilo
