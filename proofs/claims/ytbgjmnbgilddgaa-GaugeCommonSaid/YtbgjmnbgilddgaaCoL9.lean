/-
  What the plain functions compute, in plain arithmetic, part 9. Conditions: what each theorem names.
-/
import Derived.Test.YtbgjmnbgilddgaaCoL8
set_option linter.unusedSimpArgs false
set_option linter.unusedVariables false
namespace Go.Nilo
/-! ### What spans have in common -/
def s0 : api_Span := ⟨0, 0⟩
def sA (l : List api_Span) (i : Nat) : api_Span := l.getD i s0
def comL (l : List api_Span) : Nat → Int
  | 0 => (sA l 0).Lo
  | i + 1 => max (comL l i) (sA l i).Lo
def comH (l : List api_Span) : Nat → Int
  | 0 => (sA l 0).Hi
  | i + 1 => min (comH l i) (sA l i).Hi
def mostF (l : List api_Span) : Nat → Int
  | 0 => (sA l 0).Hi
  | i + 1 => max (mostF l i) (sA l i).Hi
theorem com_in {l : List api_Span} : ∀ n j, j < n → (sA l j).Lo ≤ comL l n ∧ comH l n ≤ (sA l j).Hi ∧ (sA l j).Hi ≤ mostF l n
  | n + 1, j, h => by
    rw [comL, comH, mostF]
    by_cases hj : j = n
    · subst hj; omega
    · have := com_in (l := l) n j (by omega)
      omega
theorem com_true {l : List api_Span} {F : Int} (h0 : 0 < l.length) (h : ∀ j, j < l.length → (sA l j).Lo ≤ F ∧ F ≤ (sA l j).Hi) : ∀ n, n ≤ l.length → comL l n ≤ F ∧ F ≤ comH l n
  | 0, _ => h 0 h0
  | n + 1, hn => by
    have := com_true h0 h n (by omega)
    have := h n (by omega)
    rw [comL, comH]
    omega
theorem com_bd {l : List api_Span} {A : Int} (h0 : 0 < l.length) (h : ∀ j, j < l.length → -A ≤ (sA l j).Lo ∧ (sA l j).Hi ≤ A ∧ (sA l j).Lo ≤ A ∧ -A ≤ (sA l j).Hi) : ∀ n, n ≤ l.length → (-A ≤ comL l n ∧ comL l n ≤ A) ∧ (-A ≤ comH l n ∧ comH l n ≤ A) ∧ (-A ≤ mostF l n ∧ mostF l n ≤ A)
  | 0, _ => by
    have := h 0 h0
    unfold comL comH mostF
    omega
  | n + 1, hn => by
    have := com_bd h0 h n (by omega)
    have := h n (by omega)
    rw [comL, comH, mostF]
    omega
def ap (l : List api_Span) (i k : Nat) : Bool := decide (i < k) && (decide ((sA l k).Hi < (sA l i).Lo) || decide ((sA l i).Hi < (sA l k).Lo))
theorem ap_true {l : List api_Span} {F : Int} {i k : Nat} (hi : (sA l i).Lo ≤ F ∧ F ≤ (sA l i).Hi) (hk : (sA l k).Lo ≤ F ∧ F ≤ (sA l k).Hi) : ap l i k = false := by
  unfold ap
  rw [decide_eq_false (show ¬ (sA l k).Hi < (sA l i).Lo by omega), decide_eq_false (show ¬ (sA l i).Hi < (sA l k).Lo by omega)]
  simp

/-! ### One more -/
def badL (l : List api_Span) (i : Nat) (x : api_Span) : List api_Span := l.take i ++ [x] ++ l.drop i
theorem bad_len {l : List api_Span} {i : Nat} {x : api_Span} (hi : i ≤ l.length) : (badL l i x).length = l.length + 1 := by
  unfold badL
  simp
  omega
theorem bad_lt {l : List api_Span} {i j : Nat} {x : api_Span} (hi : i ≤ l.length) (hj : j < i) : sA (badL l i x) j = sA l j := by
  unfold sA badL
  rw [List.getD_eq_getElem?_getD, List.getD_eq_getElem?_getD, List.getElem?_append_left (by simp; omega), List.getElem?_append_left (by simp; omega), List.getElem?_take, if_pos hj]
theorem bad_eq {l : List api_Span} {i : Nat} {x : api_Span} (hi : i ≤ l.length) : sA (badL l i x) i = x := by
  unfold sA badL
  rw [List.getD_eq_getElem?_getD, List.getElem?_append_left (by simp; omega), List.getElem?_append_right (by simp; omega), List.length_take, Nat.min_eq_left hi, Nat.sub_self]
  rfl
theorem bad_gt {l : List api_Span} {i j : Nat} {x : api_Span} (hi : i ≤ l.length) (hj : i ≤ j) : sA (badL l i x) (j + 1) = sA l j := by
  unfold sA badL
  rw [List.getD_eq_getElem?_getD, List.getD_eq_getElem?_getD, List.getElem?_append_right (by simp; omega), List.getElem?_drop]
  congr 2
  simp
  omega

/-! ### The true flow -/
def rw' (r : law03_River) (i : Nat) : Int := (if i + 1 < r.At.length then r.At.getD (i + 1) 0 else r.Right) - (if 0 < i then r.At.getD (i - 1) 0 else r.Left)
def flowS (r : law03_River) : Nat → Int
  | 0 => 0
  | i + 1 => flowS r i + rw' r i * r.Depth.getD i 0 * r.Speeds.getD i 0
theorem wd_rw {g : gauge_Gauging} {r : law03_River} {n : Nat} (hr : ROk r n) (hl : g.Left = r.Left) (hrr : g.Right = r.Right) (hv : VInv r n g.Verticals) {i : Nat} (hi : i < n) : wd g i = rw' r i := by
  have hlen := hv.l
  have hat : ∀ j (hj : j < g.Verticals.length), g.Verticals[j].At = r.At.getD j 0 := fun j hj => by
    have := (hv.v j (by omega)).1
    rwa [← get_getD hj] at this
  unfold wd rw'
  rw [hr.al]
  congr 1
  · by_cases h : i + 1 < n
    · rw [dif_pos (by omega), if_pos h, hat]
    · rw [dif_neg (by omega), if_neg h, hrr]
  · by_cases h : 0 < i
    · rw [dif_pos (by omega), if_pos h, hat]
    · rw [dif_neg (by omega), if_neg h, hl]
theorem real_flow {g : gauge_Gauging} {r : law03_River} {n : Nat} (hr : ROk r n) (hl : g.Left = r.Left) (hrr : g.Right = r.Right) (hv : VInv r n g.Verticals) : ∀ i, i ≤ n → realSum g r.Depth r.Speeds i = flowS r i
  | 0, _ => rfl
  | i + 1, hi => by
    have ih := real_flow hr hl hrr hv i (by omega)
    unfold realSum at ih ⊢
    rw [List.range_succ, sumBy_snoc, ih, flowS]
    unfold realAt
    rw [wd_rw hr hl hrr hv (by omega)]
theorem rw_bd {r : law03_River} {n : Nat} (hr : ROk r n) {i : Nat} (hi : i < n) : 0 ≤ rw' r i ∧ rw' r i ≤ 10000 := by
  have ha := hr.a i hi
  have h0 := hr.l0
  have h1 := hr.r1
  unfold rw'
  rw [hr.al]
  by_cases h : i + 1 < n
  · have hu := hr.up i h
    have ha1 := hr.a (i + 1) h
    rw [if_pos h]
    by_cases h2 : 0 < i
    · have hu2 := hr.up (i - 1) (by omega)
      have ha2 := hr.a (i - 1) (by omega)
      rw [show i - 1 + 1 = i by omega] at hu2
      rw [if_pos h2]
      omega
    · rw [if_neg h2]
      omega
  · rw [if_neg h]
    by_cases h2 : 0 < i
    · have hu2 := hr.up (i - 1) (by omega)
      have ha2 := hr.a (i - 1) (by omega)
      rw [show i - 1 + 1 = i by omega] at hu2
      rw [if_pos h2]
      omega
    · rw [if_neg h2]
      omega
theorem flow_bd {r : law03_River} {n : Nat} (hr : ROk r n) : ∀ i, i ≤ n → (flowS r i).natAbs ≤ 1196000000 * i
  | 0, _ => by unfold flowS; omega
  | i + 1, hi => by
    have ih := flow_bd hr i (by omega)
    have h1 := rw_bd hr (i := i) (by omega)
    have h2 := hr.d i (by omega)
    have h3 := hr.s i (by omega)
    have m1 := absmul (x := rw' r i) (y := r.Depth.getD i 0) (A := 10000) (B := 299) (by omega) (by omega)
    have m2 := absmul (x := rw' r i * r.Depth.getD i 0) (y := r.Speeds.getD i 0) (A := 10000 * 299) (B := 400) m1 (by omega)
    rw [flowS]
    omega
end Go.Nilo
