/-
  What the plain functions compute, in plain arithmetic, part 16. Conditions: what each theorem names.
-/
import Derived.Test.YtepopogbmjfpeaaMeL15
set_option linter.unusedSimpArgs false
set_option linter.unusedVariables false
namespace Go.Nilo
theorem Val.seg {l : List shift_Mark} {i : Nat} (hi : i + 1 < l.length) {x : Int} (h1 : mS l i ≤ x) (h2 : x ≤ mS l (i + 1)) : Val l x (mF l i * (mS l (i + 1) - mS l i) + (mF l (i + 1) - mF l i) * (x - mS l i)) (mS l (i + 1) - mS l i) :=
  .inr (.inr ⟨i, hi, h1, h2, rfl⟩)
theorem mean_mark {l : List shift_Mark} (hl : ROk l) {i : Nat} (hi : i < l.length) : mean l (mS l i) = ⟨mF l i, 1⟩ := by
  have hf : 0 ≤ mF l i ∧ mF l i ≤ 1000000000 := hl.fl i hi
  rw [← red_one hf.1]
  symm
  refine mean_uniq hl (by omega) hf.1 ?_
  by_cases h : i + 1 < l.length
  · refine .inr (.inr ⟨i, h, Int.le_refl _, Int.le_of_lt (hl.su i h), ?_⟩)
    show mF l i * _ = _
    rw [Int.sub_self, Int.mul_zero, Int.add_zero, Int.mul_one]
  · refine .inr (.inl ⟨?_, ?_⟩)
    · rw [show i = l.length - 1 by omega]
      exact Int.le_refl _
    · rw [show i = l.length - 1 by omega]
      simp [mF]
theorem rise_cmp {l : List shift_Mark} (hl : ROk l) {x rise per : Int} (hr : -1000 ≤ rise ∧ rise ≤ 1000) (hp : 0 ≤ per ∧ per ≤ 1000) :
    1 ≤ (rising l x rise per).D ∧ (rising l x rise per).D ≤ 4000000 ∧ 0 ≤ (rising l x rise per).N ∧ (rising l x rise per).N ≤ (mean l x).N * max 0 (1000 + rise * per) ∧ (0 ≤ rise → (mean l x).N * (rising l x rise per).D ≤ (rising l x rise per).N * (mean l x).D) ∧ (rise ≤ 0 → (rising l x rise per).N * (mean l x).D ≤ (mean l x).N * (rising l x rise per).D) := by
  obtain ⟨a, b, c, -, -⟩ := mean_val hl x
  obtain ⟨b0, b1, b2⟩ := rise_bd hl (at_ := x) hr hp
  obtain ⟨r1, r2, r3, r4, r5⟩ := red_spec (n := (mean l x).N * max 0 (1000 + rise * per)) (d := 1000 * (mean l x).D) (by omega) b1
  have e : rising l x rise per = red ((mean l x).N * max 0 (1000 + rise * per)) (1000 * (mean l x).D) := rfl
  rw [← e] at r1 r2 r3 r4 r5
  refine ⟨r1, by omega, r3, r4, fun h0 => ?_, fun h0 => ?_⟩
  · have hk : 0 ≤ rise * per := Int.mul_nonneg h0 hp.1
    have hK : 1000 ≤ max 0 (1000 + rise * per) := by omega
    generalize max 0 (1000 + rise * per) = K at *
    have h1 : (mean l x).N * 1000 ≤ (mean l x).N * K := Int.mul_le_mul_of_nonneg_left hK c
    have h2 := mul_le_r h1 (c := (rising l x rise per).D) (by omega)
    refine le_mul_r (c := 1000) ?_ (by omega)
    have e1 : (rising l x rise per).N * (mean l x).D * 1000 = (rising l x rise per).N * (1000 * (mean l x).D) := by grind
    have e2 : (mean l x).N * (rising l x rise per).D * 1000 = (mean l x).N * 1000 * (rising l x rise per).D := by grind
    omega
  · have hk : rise * per ≤ 0 := by
      have := Int.mul_nonneg (show 0 ≤ -rise by omega) hp.1
      rw [Int.neg_mul] at this
      omega
    have hK : max 0 (1000 + rise * per) ≤ 1000 := by omega
    generalize max 0 (1000 + rise * per) = K at *
    have h1 : (mean l x).N * K ≤ (mean l x).N * 1000 := Int.mul_le_mul_of_nonneg_left hK c
    have h2 := mul_le_r h1 (c := (rising l x rise per).D) (by omega)
    refine le_mul_r (c := 1000) ?_ (by omega)
    have e1 : (rising l x rise per).N * (mean l x).D * 1000 = (rising l x rise per).N * (1000 * (mean l x).D) := by grind
    have e2 : (mean l x).N * (rising l x rise per).D * 1000 = (mean l x).N * 1000 * (rising l x rise per).D := by grind
    omega
/-! ### One mark more -/
def insM (l : List shift_Mark) (n : Nat) (z y : Int) : List shift_Mark := l.take n ++ [(⟨z, y⟩ : shift_Mark)] ++ l.drop n
theorem insM_len {l : List shift_Mark} {n : Nat} {z y : Int} (hn : n ≤ l.length) : (insM l n z y).length = l.length + 1 := by simp [insM]; omega
theorem insM_get {l : List shift_Mark} {n : Nat} {z y : Int} (hn : n ≤ l.length) (i : Nat) : (insM l n z y).getD i mk0 = if i < n then l.getD i mk0 else if i = n then ⟨z, y⟩ else l.getD (i - 1) mk0 := by
  unfold insM
  simp only [List.getD]
  by_cases h1 : i < n
  · rw [if_pos h1, List.append_assoc, List.getElem?_append_left (by rw [List.length_take]; omega), List.getElem?_take, if_pos h1]
  · rw [if_neg h1]
    by_cases h2 : i = n
    · rw [if_pos h2, List.append_assoc, List.getElem?_append_right (by rw [List.length_take]; omega), List.length_take]
      have : i - min n l.length = 0 := by omega
      rw [this]
      rfl
    · rw [if_neg h2, List.getElem?_append_right (by simp; omega), List.getElem?_drop]
      congr 2
      simp
      omega
theorem insM_S {l : List shift_Mark} {n : Nat} {z y : Int} (hn : n ≤ l.length) (i : Nat) : mS (insM l n z y) i = if i < n then mS l i else if i = n then z else mS l (i - 1) := by
  unfold mS
  rw [insM_get hn]
  split
  · rfl
  · split <;> rfl
theorem insM_F {l : List shift_Mark} {n : Nat} {z y : Int} (hn : n ≤ l.length) (i : Nat) : mF (insM l n z y) i = if i < n then mF l i else if i = n then y else mF l (i - 1) := by
  unfold mF
  rw [insM_get hn]
  split
  · rfl
  · split <;> rfl
theorem half1 {N d x pS pF z y w G : Int} (hz : 0 < z - pS) (hy : y * w = pF * w + (G - pF) * (z - pS)) (h : N * (z - pS) = (pF * (z - pS) + (y - pF) * (x - pS)) * d) : N * w = (pF * w + (G - pF) * (x - pS)) * d := by
  refine Int.eq_of_mul_eq_mul_right (show z - pS ≠ 0 by omega) ?_
  have e : N * w * (z - pS) = w * (N * (z - pS)) := by grind
  rw [e, h]
  grind
theorem half2 {N d x pS pF z y w qS G : Int} (hw : w = qS - pS) (hz : 0 < qS - z) (hy : y * w = pF * w + (G - pF) * (z - pS)) (h : N * (qS - z) = (y * (qS - z) + (G - y) * (x - z)) * d) : N * w = (pF * w + (G - pF) * (x - pS)) * d := by
  refine Int.eq_of_mul_eq_mul_right (show qS - z ≠ 0 by omega) ?_
  have e : N * w * (qS - z) = w * (N * (qS - z)) := by grind
  rw [e, h]
  subst hw
  grind
theorem ins_val {l : List shift_Mark} (hl : ROk l) {n : Nat} (h1 : 1 ≤ n) (hn : n < l.length) {z y : Int} (hz : mS l (n - 1) < z ∧ z < mS l n) (hy : y * (mS l n - mS l (n - 1)) = mF l (n - 1) * (mS l n - mS l (n - 1)) + (mF l n - mF l (n - 1)) * (z - mS l (n - 1))) {x N d : Int} (h : Val (insM l n z y) x N d) : Val l x N d := by
  have hlen := insM_len (l := l) (n := n) (z := z) (y := y) (by omega)
  rcases h with ⟨a, b⟩ | ⟨a, b⟩ | ⟨i, hi, a, b, e⟩
  · rw [insM_S (by omega), if_pos (by omega)] at a
    rw [insM_F (by omega), if_pos (by omega)] at b
    exact .inl ⟨a, b⟩
  · rw [hlen, insM_S (by omega), if_neg (by omega), if_neg (by omega)] at a
    rw [hlen, insM_F (by omega), if_neg (by omega), if_neg (by omega)] at b
    exact .inr (.inl ⟨a, b⟩)
  · rw [hlen] at hi
    rw [insM_S (by omega)] at a b
    rw [insM_S (by omega), insM_S (by omega), insM_F (by omega), insM_F (by omega)] at e
    rcases Nat.lt_trichotomy (i + 1) n with c | c | c
    · rw [if_pos (by omega)] at a
      rw [if_pos (by omega)] at b
      rw [if_pos (by omega), if_pos (by omega), if_pos (by omega), if_pos (by omega)] at e
      exact .inr (.inr ⟨i, by omega, a, b, e⟩)
    · rw [if_pos (by omega)] at a
      rw [if_neg (by omega), if_pos c] at b
      rw [if_neg (show ¬ i + 1 < n by omega), if_pos c, if_pos (show i < n by omega), if_pos (show i < n by omega), if_neg (show ¬ i + 1 < n by omega), if_pos c] at e
      have hin : i = n - 1 := by omega
      subst hin
      refine .inr (.inr ⟨n - 1, by omega, a, by rw [Nat.sub_add_cancel h1]; omega, ?_⟩)
      rw [Nat.sub_add_cancel h1]
      exact half1 (by omega) hy e
    · rcases Nat.lt_or_eq_of_le (show n ≤ i by omega) with c2 | c2
      · rw [if_neg (by omega), if_neg (by omega)] at a
        rw [if_neg (by omega), if_neg (by omega)] at b
        rw [if_neg (show ¬ i + 1 < n by omega), if_neg (show ¬ i + 1 = n by omega), if_neg (show ¬ i < n by omega), if_neg (show ¬ i = n by omega), if_neg (show ¬ i < n by omega), if_neg (show ¬ i = n by omega), if_neg (show ¬ i + 1 < n by omega), if_neg (show ¬ i + 1 = n by omega)] at e
        rw [Nat.add_sub_cancel] at b e
        refine .inr (.inr ⟨i - 1, by omega, a, by rw [Nat.sub_add_cancel (by omega)]; exact b, ?_⟩)
        rw [Nat.sub_add_cancel (by omega)]
        exact e
      · subst c2
        rw [if_neg (by omega), if_pos rfl] at a
        rw [if_neg (by omega), if_neg (by omega)] at b
        rw [if_neg (show ¬ n + 1 < n by omega), if_neg (show ¬ n + 1 = n by omega), if_neg (show ¬ n < n by omega), if_pos rfl, if_neg (show ¬ n < n by omega), if_pos rfl, if_neg (show ¬ n + 1 < n by omega), if_neg (show ¬ n + 1 = n by omega)] at e
        rw [Nat.add_sub_cancel] at b e
        refine .inr (.inr ⟨n - 1, by omega, by omega, by rw [Nat.sub_add_cancel h1]; exact b, ?_⟩)
        rw [Nat.sub_add_cancel h1]
        exact half2 rfl (by omega) hy e
theorem ins_ok {l : List shift_Mark} (hl : ROk l) (h11 : l.length ≤ 11) {n : Nat} (h1 : 1 ≤ n) (hn : n < l.length) {z y : Int} (hz : mS l (n - 1) < z ∧ z < mS l n) (hy : mF l (n - 1) < y ∧ y < mF l n) : ROk (insM l n z y) := by
  have hlen := insM_len (l := l) (n := n) (z := z) (y := y) (by omega)
  have hp := wide_bd hl h1 hn
  have key : ∀ i, i < l.length + 1 → (-2000 ≤ mS (insM l n z y) i ∧ mS (insM l n z y) i ≤ 2000) ∧ 0 ≤ mF (insM l n z y) i ∧ mF (insM l n z y) i ≤ 1000000000 := fun i hi => by
    rw [insM_S (by omega), insM_F (by omega)]
    split
    · exact ⟨hl.st i (by omega), hl.fl i (by omega)⟩
    · split
      · omega
      · exact ⟨hl.st (i - 1) (by omega), hl.fl (i - 1) (by omega)⟩
  have up : ∀ i, i + 1 < l.length + 1 → mS (insM l n z y) i < mS (insM l n z y) (i + 1) ∧ mF (insM l n z y) i < mF (insM l n z y) (i + 1) := fun i hi => by
    rw [insM_S (by omega), insM_F (by omega), insM_S (by omega), insM_F (by omega)]
    rcases Nat.lt_trichotomy (i + 1) n with c | c | c
    · rw [if_pos (by omega), if_pos (by omega), if_pos (by omega), if_pos (by omega)]
      exact hl.slt (by omega) (by omega)
    · rw [if_pos (show i < n by omega), if_pos (show i < n by omega), if_neg (show ¬ i + 1 < n by omega), if_pos c, if_neg (show ¬ i + 1 < n by omega), if_pos c]
      rw [show i = n - 1 by omega]
      exact ⟨hz.1, hy.1⟩
    · rw [if_neg (show ¬ i + 1 < n by omega), if_neg (show ¬ i + 1 = n by omega), if_neg (show ¬ i + 1 < n by omega), if_neg (show ¬ i + 1 = n by omega), if_neg (show ¬ i < n by omega), if_neg (show ¬ i < n by omega), Nat.add_sub_cancel]
      by_cases c2 : i = n
      · rw [if_pos c2, if_pos c2, c2]
        exact ⟨hz.2, hy.2⟩
      · rw [if_neg c2, if_neg c2]
        exact hl.slt (by omega) (by omega)
  refine ⟨by omega, by omega, fun i hi => (key i (by omega)).1, fun i hi => (key i (by omega)).2, fun i hi => (up i (by omega)).1, fun i hi => (up i (by omega)).2⟩
theorem ins_mean {l : List shift_Mark} (hl : ROk l) (h11 : l.length ≤ 11) {n : Nat} (h1 : 1 ≤ n) (hn : n < l.length) {z : Int} (hz : mS l (n - 1) < z ∧ z < mS l n) (hD : (mean l z).D = 1) (hy : mF l (n - 1) < (mean l z).N ∧ (mean l z).N < mF l n) (x : Int) : ROk (insM l n z (mean l z).N) ∧ mean (insM l n z (mean l z).N) x = mean l x := by
  have hr := ins_ok hl h11 h1 hn hz hy
  refine ⟨hr, ?_⟩
  obtain ⟨a, b, c, d, e⟩ := mean_val hr x
  rw [← e]
  refine mean_uniq hl (by omega) c (ins_val hl h1 hn hz ?_ d)
  obtain ⟨_, _, _, v, _⟩ := mean_val hl z
  rw [hD] at v
  have hs := Val.seg (l := l) (i := n - 1) (by omega) (x := z) (by omega) (by rw [Nat.sub_add_cancel h1]; omega)
  rw [Nat.sub_add_cancel h1] at hs
  have hw := wide_bd hl h1 hn
  have := v.uniq hl (by omega) (by omega) hs
  omega
theorem firstG_mem {ρ : Type} {g : Nat → Option ρ} {r : ρ} : ∀ (m i : Nat), firstG g i m = some r → ∃ j, g j = some r
  | 0, i, h => by cases h
  | m + 1, i, h => by
    unfold firstG at h
    cases hg : g i with
    | some x =>
      rw [hg] at h
      exact ⟨i, by rw [hg]; exact h⟩
    | none =>
      rw [hg] at h
      exact firstG_mem m (i + 1) h
theorem meant_law {N : Nat} (hN : 700 ≤ N) {bs : List Int} (hb : Bytes bs) {stage by_ more rise per : Int} (hs : 0 ≤ stage ∧ stage ≤ 255) (hby : 0 ≤ by_ ∧ by_ ≤ 255) (hm : 0 ≤ more ∧ more ≤ 255) (hri : 0 ≤ rise ∧ rise ≤ 255) (hpe : 0 ≤ per ∧ per ≤ 255) : law05_ShiftMeant N bs stage by_ more rise per = some true := by
  unfold law05_ShiftMeant
  rw [show kit_New N bs = some (0, 0) from rfl, Option.bind_some]
  obtain ⟨l, u, m, k, a1, a2, a3, hl⟩ := Rated_spec hN hb (u := 0) (m := 0) (k := 0) ⟨by omega, by omega, by omega, by omega⟩ (by omega)
  show Option.bind (law05_Rated N ⟨bs, 0, 0⟩) _ = _
  rw [a1, Option.bind_some]
  have hlo := hl.ok
  have hl2 := hlo.l2
  have hl7 := hl.l7
  obtain ⟨at_, hat⟩ : ∃ at_, at_ = stage % 200 - 60 := ⟨_, rfl⟩
  obtain ⟨a, ha⟩ : ∃ a, a = by_ % 100 - 50 := ⟨_, rfl⟩
  obtain ⟨b, hbb⟩ : ∃ b, b = more % 20 := ⟨_, rfl⟩
  have w1 : W (((W stage).tmod 200) - 60) = at_ := by rw [W_sm (n := stage) (by omega) (by omega), tmod_mod hs.1, W_sm (by omega) (by omega), hat]
  have w2 : W (((W by_).tmod 100) - 50) = a := by rw [W_sm (n := by_) (by omega) (by omega), tmod_mod hby.1, W_sm (by omega) (by omega), ha]
  have w3 : (W more).tmod 20 = b := by rw [W_sm (n := more) (by omega) (by omega), tmod_mod hm.1, hbb]
  have w4 : W rise = rise := W_sm (by omega) (by omega)
  have w5 : W per = per := W_sm (by omega) (by omega)
  simp only [w1, w2, w3, w4, w5]
  rw [W_sm (n := a + b) (by omega) (by omega), W_sm (n := at_ + b) (by omega) (by omega), W_sm (n := 0 - rise) (by omega) (by omega)]
  rw [Means_ok hN hlo (by omega) (by omega), Option.bind_some, Means_ok hN hlo (by omega) (by omega), Option.bind_some, Means_ok hN hlo (by omega) (by omega), Option.bind_some]
  rw [show at_ + b - (a + b) = at_ - a by omega]
  obtain ⟨f1, f2, f3, f4, f5⟩ := mean_val hlo (at_ - a)
  obtain ⟨g1, g2, g3, g4, g5⟩ := mean_val hlo (at_ - (a + b))
  have f6 := mean_sm hl (at_ - a)
  have g6 := mean_sm hl (at_ - (a + b))
  have hmono := mean_mono hlo (show at_ - (a + b) ≤ at_ - a by omega)
  have m1 := mul_bd f3 (show 0 ≤ (mean l (at_ - (a + b))).D by omega) (show (mean l (at_ - a)).N ≤ 11600000 by omega) g2
  have m2 := mul_bd g3 (show 0 ≤ (mean l (at_ - a)).D by omega) (show (mean l (at_ - (a + b))).N ≤ 11600000 by omega) f2
  have e1 : ((((((((0 : Int) != 0) || ((0 : Int) != 0)) || ((0 : Int) != 0)) || (decide ((mean l (at_ - a)).D < 1))) || (decide ((mean l (at_ - (a + b))).D < 1))) || (!((mean l (at_ - a)).N == (mean l (at_ - a)).N && (mean l (at_ - a)).D == (mean l (at_ - a)).D))) || (decide ((W ((mean l (at_ - a)).N * (mean l (at_ - (a + b))).D)) < (W ((mean l (at_ - (a + b))).N * (mean l (at_ - a)).D))))) = false := by
    rw [dF (show ¬ (mean l (at_ - a)).D < 1 by omega), dF (show ¬ (mean l (at_ - (a + b))).D < 1 by omega), beq_self_eq_true, beq_self_eq_true, W_sm (by omega) (by omega), W_sm (by omega) (by omega), dF (by omega)]
    rfl
  show cond ((((((((0 : Int) != 0) || ((0 : Int) != 0)) || ((0 : Int) != 0)) || (decide ((mean l (at_ - a)).D < 1))) || (decide ((mean l (at_ - (a + b))).D < 1))) || (!((mean l (at_ - a)).N == (mean l (at_ - a)).N && (mean l (at_ - a)).D == (mean l (at_ - a)).D))) || (decide ((W ((mean l (at_ - a)).N * (mean l (at_ - (a + b))).D)) < (W ((mean l (at_ - (a + b))).N * (mean l (at_ - a)).D))))) _ _ = _
  rw [e1, cond_false]
  obtain ⟨ix, u2, m2', b1, b2, b3, b4⟩ := next_spec (N := N) hb (n := ((l.length : Nat) : Int)) a2 (by omega)
  show Option.bind (kit_Stream_Next N ⟨bs, u, m⟩ ((l.length : Nat) : Int)) _ = _
  rw [b1, Option.bind_some]
  obtain ⟨i, rfl⟩ := Int.eq_ofNat_of_zero_le b2
  have hil : i < l.length := by omega
  have hsi := hl.s i hil
  show Option.bind (getI l (i : Int)) _ = _
  rw [getI_d mk0 hil, Option.bind_some]
  show Option.bind (shift_Means N l (W (mS l i + a)) a) _ = _
  rw [W_sm (n := mS l i + a) (by omega) (by omega), Means_ok hN hlo (by omega) (by omega), Option.bind_some, show mS l i + a - a = mS l i by omega, mean_mark hlo hil]
  have e2 : (((0 : Int) != 0) || (!((mF l i) == (mF l i) && (1 : Int) == 1))) = false := by
    rw [beq_self_eq_true]
    rfl
  show cond (((0 : Int) != 0) || (!((mF l i) == (mF l i) && (1 : Int) == 1))) _ _ = _
  rw [e2, cond_false, Rising_ok hN hlo (by omega) (by omega) (by omega) (by omega), Option.bind_some, Rising_ok hN hlo (by omega) (by omega) (by omega) (by omega), Option.bind_some]
  obtain ⟨p1, p2, p3, p4, p5, -⟩ := rise_cmp hlo (x := at_ - a) (rise := rise) (per := per) (by omega) (by omega)
  obtain ⟨q1, q2, q3, q4, -, q5⟩ := rise_cmp hlo (x := at_ - a) (rise := 0 - rise) (per := per) (by omega) (by omega)
  have hrp := mul_bd hri.1 hpe.1 hri.2 hpe.2
  have hrp2 : (0 - rise) * per = -(rise * per) := by grind
  have k1 := mul_bd f3 (show 0 ≤ max 0 (1000 + rise * per) by omega) (show (mean l (at_ - a)).N ≤ 11600000 by omega) (show max 0 (1000 + rise * per) ≤ 100000 by omega)
  have k2 := mul_bd f3 (show 0 ≤ max 0 (1000 + (0 - rise) * per) by omega) (show (mean l (at_ - a)).N ≤ 11600000 by omega) (show max 0 (1000 + (0 - rise) * per) ≤ 100000 by omega)
  have j1 := mul_bd p3 (show 0 ≤ (mean l (at_ - a)).D by omega) (show (rising l (at_ - a) rise per).N ≤ 1160000000000 by omega) f2
  have j2 := mul_bd f3 (show 0 ≤ (rising l (at_ - a) rise per).D by omega) (show (mean l (at_ - a)).N ≤ 11600000 by omega) p2
  have j3 := mul_bd q3 (show 0 ≤ (mean l (at_ - a)).D by omega) (show (rising l (at_ - a) (0 - rise) per).N ≤ 1160000000000 by omega) f2
  have j4 := mul_bd f3 (show 0 ≤ (rising l (at_ - a) (0 - rise) per).D by omega) (show (mean l (at_ - a)).N ≤ 11600000 by omega) q2
  have p6 := p5 hri.1
  have q6 := q5 (by omega)
  have e3 : ((((((((0 : Int) != 0) || ((0 : Int) != 0)) || (decide ((rising l (at_ - a) rise per).D < 1))) || (decide ((rising l (at_ - a) (0 - rise) per).D < 1))) || (decide ((rising l (at_ - a) (0 - rise) per).N < 0))) || (decide ((W ((rising l (at_ - a) rise per).N * (mean l (at_ - a)).D)) < (W ((mean l (at_ - a)).N * (rising l (at_ - a) rise per).D))))) || (decide ((W ((mean l (at_ - a)).N * (rising l (at_ - a) (0 - rise) per).D)) < (W ((rising l (at_ - a) (0 - rise) per).N * (mean l (at_ - a)).D))))) = false := by
    rw [dF (show ¬ (rising l (at_ - a) rise per).D < 1 by omega), dF (show ¬ (rising l (at_ - a) (0 - rise) per).D < 1 by omega), dF (show ¬ (rising l (at_ - a) (0 - rise) per).N < 0 by omega), W_sm (by omega) (by omega), W_sm (by omega) (by omega), W_sm (by omega) (by omega), W_sm (by omega) (by omega), dF (by omega), dF (by omega)]
    rfl
  show cond ((((((((0 : Int) != 0) || ((0 : Int) != 0)) || (decide ((rising l (at_ - a) rise per).D < 1))) || (decide ((rising l (at_ - a) (0 - rise) per).D < 1))) || (decide ((rising l (at_ - a) (0 - rise) per).N < 0))) || (decide ((W ((rising l (at_ - a) rise per).N * (mean l (at_ - a)).D)) < (W ((mean l (at_ - a)).N * (rising l (at_ - a) rise per).D))))) || (decide ((W ((mean l (at_ - a)).N * (rising l (at_ - a) (0 - rise) per).D)) < (W ((rising l (at_ - a) (0 - rise) per).N * (mean l (at_ - a)).D))))) _ _ = _
  rw [e3, cond_false]
  -- one mark more
  obtain ⟨C, hC⟩ : ∃ C : Nat → Nat → Bool, C = fun (n i : Nat) => ((mean l (mS l n + 1 + i)).D == 1 && decide (mF l n < (mean l (mS l n + 1 + i)).N)) && decide ((mean l (mS l n + 1 + i)).N < mF l (n + 1)) := ⟨_, rfl⟩
  have inner : ∀ n, n + 1 < l.length → ∃ x, (x = Ex.go (mS l (n + 1)) ∨ x = Ex.out (Step.ret true)) ∧ loopO (fun s31 => law05_ShiftMeant_b31 N stage by_ (l, u, m) (mean l (at_ - a), 0) ((n + 1 : Nat) : Int) (l.getD n mk0) (l.getD (n + 1) mk0) s31) N (W (mS l n + 1)) = some x := fun n hn => by
    have hw := wide_bd hlo (show 1 ≤ n + 1 by omega) hn
    rw [Nat.add_sub_cancel] at hw
    have s1 := hl.s n (by omega)
    have s2 := hl.s (n + 1) hn
    have hsc := scanS (ρ := Step Int Bool) (fun i : Nat => mS l n + 1 + (i : Int)) (fun i => cond (C n i) (some (.ret true)) none) (mS l (n + 1) - (mS l n + 1)).toNat (fun s31 => law05_ShiftMeant_b31 N stage by_ (l, u, m) (mean l (at_ - a), 0) ((n + 1 : Nat) : Int) (l.getD n mk0) (l.getD (n + 1) mk0) s31) (fun i hi => by
      show law05_ShiftMeant_b31 N stage by_ (l, u, m) (mean l (at_ - a), 0) ((n + 1 : Nat) : Int) (l.getD n mk0) (l.getD (n + 1) mk0) (mS l n + 1 + (i : Int)) = _
      unfold law05_ShiftMeant_b31
      show cond (decide (mS l n + 1 + (i : Int) < mS l (n + 1))) (Option.bind (shift_Means N l (mS l n + 1 + (i : Int)) 0) _) _ = _
      rw [dT (by omega), cond_true, Means_ok hN hlo (by omega) (by omega), Option.bind_some, Int.sub_zero]
      show cond ((((mean l (mS l n + 1 + i)).D == 1) && (decide (mF l n < (mean l (mS l n + 1 + i)).N))) && (decide ((mean l (mS l n + 1 + i)).N < mF l (n + 1)))) _ _ = _
      have hCi : C n i = ((((mean l (mS l n + 1 + i)).D == 1) && (decide (mF l n < (mean l (mS l n + 1 + i)).N))) && (decide ((mean l (mS l n + 1 + i)).N < mF l (n + 1)))) := by rw [hC]
      rw [← hCi]
      cases hc : C n i with
      | false =>
        rw [cond_false, W_sm (by omega) (by omega)]
        show some (Step.cont (mS l n + 1 + (i : Int) + 1)) = some (Step.cont (mS l n + 1 + ((i + 1 : Nat) : Int)))
        push_cast
        rw [Int.add_assoc]
      | true =>
        rw [hc] at hCi
        have hC2 := hCi.symm
        rw [Bool.and_eq_true, Bool.and_eq_true, beq_iff_eq, decide_eq_true_eq, decide_eq_true_eq] at hC2
        obtain ⟨⟨c1, c2⟩, c3⟩ := hC2
        obtain ⟨r1, r2⟩ := ins_mean hlo (by omega) (n := n + 1) (by omega) hn (z := mS l n + 1 + (i : Int)) (by rw [Nat.add_sub_cancel]; omega) c1 (by rw [Nat.add_sub_cancel]; exact ⟨c2, c3⟩) (at_ - a)
        have hcp : kit_Copy_shift_Mark N l = some l := by
          unfold kit_Copy_shift_Mark
          rw [room_ok (by omega)]
          rfl
        have hins : slices_Insert_Lshift_Mark_shift_Mark N l ((n + 1 : Nat) : Int) ([(⟨mS l n + 1 + (i : Int), (mean l (mS l n + 1 + i)).N⟩ : shift_Mark)] : List shift_Mark) = some (insM l (n + 1) (mS l n + 1 + (i : Int)) (mean l (mS l n + 1 + i)).N) := by
          unfold slices_Insert_Lshift_Mark_shift_Mark insO insM
          rw [if_pos (by simp only [List.length_singleton]; omega), Int.toNat_natCast]
        rw [cond_true]
        show Option.bind (kit_Copy_shift_Mark N l) _ = _
        rw [hcp, Option.bind_some]
        show Option.bind (slices_Insert_Lshift_Mark_shift_Mark N l ((n + 1 : Nat) : Int) ([(⟨mS l n + 1 + (i : Int), (mean l (mS l n + 1 + i)).N⟩ : shift_Mark)] : List shift_Mark)) _ = _
        rw [hins, Option.bind_some, w1, w2, Means_ok hN r1 (by omega) (by omega), Option.bind_some, r2]
        show Option.bind (cond (((0 : Int) == 0) && ((mean l (at_ - a)).N == (mean l (at_ - a)).N && (mean l (at_ - a)).D == (mean l (at_ - a)).D)) (Option.bind (law05_awake N) fun r_14 => some r_14) (some false)) _ = _
        rw [beq_self_eq_true, beq_self_eq_true, beq_self_eq_true, awake_true hN]
        rfl) (by
      show law05_ShiftMeant_b31 N stage by_ (l, u, m) (mean l (at_ - a), 0) ((n + 1 : Nat) : Int) (l.getD n mk0) (l.getD (n + 1) mk0) (mS l n + 1 + (((mS l (n + 1) - (mS l n + 1)).toNat : Nat) : Int)) = _
      unfold law05_ShiftMeant_b31
      show cond (decide (mS l n + 1 + (((mS l (n + 1) - (mS l n + 1)).toNat : Nat) : Int) < mS l (n + 1))) _ _ = _
      rw [dF (by omega), cond_false]) (mS l (n + 1) - (mS l n + 1)).toNat 0 N (by omega) (by omega)
    have e0 : W (mS l n + 1) = mS l n + 1 + ((0 : Nat) : Int) := by rw [W_sm (by omega) (by omega)]; simp
    have e9 : mS l n + 1 + (((mS l (n + 1) - (mS l n + 1)).toNat : Nat) : Int) = mS l (n + 1) := by omega
    rw [e0, hsc, e9]
    cases hf : firstG (fun i => cond (C n i) (some (Step.ret true : Step Int Bool)) none) 0 (mS l (n + 1) - (mS l n + 1)).toNat with
    | none => exact ⟨_, .inl rfl, rfl⟩
    | some r =>
      obtain ⟨j, hj⟩ := firstG_mem _ _ hf
      have : r = .ret true := by
        cases hc : C n j with
        | true => rw [hc] at hj; exact (Option.some.inj hj).symm
        | false => rw [hc] at hj; cases hj
      subst this
      exact ⟨_, .inr rfl, rfl⟩
  obtain ⟨D, hD⟩ : ∃ D : Nat → Option Bool, ∀ i, i < l.length - 1 → law05_ShiftMeant_b23 N stage by_ (l, u, m) (mean l (at_ - a), 0) ((i + 1 : Nat) : Int) = some (match D i with | some r => .ret r | none => .cont ((i + 1 + 1 : Nat) : Int)) ∧ (D i = none ∨ D i = some true) := by
    have hex : ∀ i, ∃ d : Option Bool, i < l.length - 1 → law05_ShiftMeant_b23 N stage by_ (l, u, m) (mean l (at_ - a), 0) ((i + 1 : Nat) : Int) = some (match d with | some r => .ret r | none => .cont ((i + 1 + 1 : Nat) : Int)) ∧ (d = none ∨ d = some true) := fun i => by
      by_cases hi : i < l.length - 1
      · obtain ⟨x, hx, hlp⟩ := inner i (by omega)
        have hstep : law05_ShiftMeant_b23 N stage by_ (l, u, m) (mean l (at_ - a), 0) ((i + 1 : Nat) : Int) = exK x (fun _ => some (.cont (W (((i + 1 : Nat) : Int) + 1)))) some := by
          unfold law05_ShiftMeant_b23
          show cond (decide (((i + 1 : Nat) : Int) < ((l.length : Nat) : Int))) (Option.bind (getI l (W (((i + 1 : Nat) : Int) - 1))) _) _ = _
          rw [dT (by omega), cond_true, W_sm (n := ((i + 1 : Nat) : Int) - 1) (by omega) (by omega), show ((i + 1 : Nat) : Int) - 1 = (i : Int) by omega, getI_d mk0 (show i < l.length by omega), Option.bind_some, getI_d mk0 (show i + 1 < l.length by omega), Option.bind_some]
          show Option.bind (loopO _ N (W (mS l i + 1))) _ = _
          rw [hlp, Option.bind_some]
        rcases hx with rfl | rfl
        · refine ⟨none, fun _ => ⟨?_, .inl rfl⟩⟩
          rw [hstep]
          show some (Step.cont (W (((i + 1 : Nat) : Int) + 1))) = _
          rw [W_succ (by omega)]
        · exact ⟨some true, fun _ => ⟨hstep, .inr rfl⟩⟩
      · exact ⟨none, fun h => absurd h hi⟩
    exact ⟨fun i => (hex i).choose, fun i => (hex i).choose_spec⟩
  have houter := scanS (ρ := Bool) (fun i : Nat => ((i + 1 : Nat) : Int)) D (l.length - 1) (fun s23 => law05_ShiftMeant_b23 N stage by_ (l, u, m) (mean l (at_ - a), 0) s23) (fun i hi => by
    have h := (hD i hi).1
    show law05_ShiftMeant_b23 N stage by_ (l, u, m) (mean l (at_ - a), 0) ((i + 1 : Nat) : Int) = _
    rw [h]
    cases D i <;> rfl) (by
    show law05_ShiftMeant_b23 N stage by_ (l, u, m) (mean l (at_ - a), 0) ((l.length - 1 + 1 : Nat) : Int) = _
    unfold law05_ShiftMeant_b23
    show cond (decide (((l.length - 1 + 1 : Nat) : Int) < ((l.length : Nat) : Int))) _ _ = _
    rw [dF (by omega), cond_false]) (l.length - 1) 0 N (by omega) (by omega)
  have hall : ∀ r, firstG D 0 (l.length - 1) = some r → r = true := by
    have : ∀ (m i : Nat) r, i + m = l.length - 1 → firstG D i m = some r → r = true := by
      intro m
      induction m with
      | zero => intro i r _ h; cases h
      | succ m ih =>
        intro i r him h
        unfold firstG at h
        rcases (hD i (by omega)).2 with hd | hd
        · rw [hd] at h
          exact ih (i + 1) r (by omega) h
        · rw [hd] at h
          exact (Option.some.inj h).symm
    exact fun r h => this _ 0 r (by omega) h
  cases hf : firstG D 0 (l.length - 1) with
  | none =>
    rw [hf] at houter
    have houter' : loopO (fun s23 => law05_ShiftMeant_b23 N stage by_ (l, u, m) (mean l (at_ - a), 0) s23) N 1 = some (.go ((l.length - 1 + 1 : Nat) : Int)) := houter
    rw [houter', Option.bind_some]
    show Option.bind (law05_awake N) _ = _
    rw [awake_true hN]
    rfl
  | some r =>
    rw [hf, hall r hf] at houter
    have houter' : loopO (fun s23 => law05_ShiftMeant_b23 N stage by_ (l, u, m) (mean l (at_ - a), 0) s23) N 1 = some (.out true) := houter
    rw [houter', Option.bind_some]
    rfl
end Go.Nilo
