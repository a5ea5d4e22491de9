/-
  What the plain functions compute, in plain arithmetic, part 8. Conditions: what each theorem names.
-/
import Derived.Test.YtbcaeppbfioogaaBtL7
set_option linter.unusedSimpArgs false
set_option linter.unusedVariables false
namespace Go.Nilo
theorem toldG_mono {L L' : Nat → Int} {r f : Int} (hr : 0 ≤ r) (hf : 0 ≤ f) {n i : Nat} (hi : i < n) (h : ∀ k, k < n → L k ≤ L' k) : toldG L r f n i ≤ toldG L' r f n i := by
  rw [toldG_iff hr hf hi]
  intro k hk
  have h1 := (toldG_iff (L := L') hr hf hi).1 (Int.le_refl _) k hk
  have := h k hk
  omega
theorem toldL_mono {H H' : Nat → Int} {r f : Int} (hr : 0 ≤ r) (hf : 0 ≤ f) {n i : Nat} (hi : i < n) (h : ∀ k, k < n → H' k ≤ H k) : toldL H' r f n i ≤ toldL H r f n i := by
  rw [toldL_iff hr hf hi]
  intro k hk
  have h1 := (toldL_iff (H := H') hr hf hi).1 (Int.le_refl _) k hk
  have := h k hk
  omega
theorem psum_mono {g h : Nat → Int} {a : Nat} : ∀ m, (∀ i, i < m → g (a + i) ≤ h (a + i)) → psum g a m ≤ psum h a m
  | 0, _ => Int.le_refl _
  | m + 1, hle => by
    have h1 := psum_mono m fun i hi => hle i (by omega)
    have h2 := hle m (by omega)
    show psum g a m + g (a + m) ≤ psum h a m + h (a + m)
    omega
theorem maxF_mono {g h : Nat → Int} {m : Nat} (hle : ∀ i, i ≤ m → g i ≤ h i) : maxF g m ≤ maxF h m := by
  rw [maxF_iff]
  intro k hk
  have := hle k hk
  have := le_maxF (g := h) hk
  omega
theorem contains_spec {N : Nat} {l : List Int} (hl : l.length ≤ 1000) (hN : l.length < N) {v : Int} (hv : v ∈ l) : slices_Contains_Lint_int N l v = some true := by
  unfold slices_Contains_Lint_int slices_Index_Lint_int
  rcases indexLoop (fun e => v == e) l (by omega) (fun s4 => slices_Index_Lint_int_b4 N l v s4) (fun x => rfl) l.length 0 N (by omega) hN with ⟨k, h1, h2, -⟩ | ⟨-, h2⟩
  · rw [show ((0 : Nat) : Int) = 0 from rfl] at h1
    rw [h1]
    show some (decide (0 ≤ k)) = _
    rw [dT h2]
  · rw [List.drop_zero] at h2
    have := List.any_eq_false.1 h2 v hv
    simp at this
theorem mem_filt {p : Nat → Bool} {n : Nat} {d : Int} : d ∈ filt p n ↔ ∃ i : Nat, i < n ∧ p i = true ∧ d = (i : Int) := by
  unfold filt
  rw [List.mem_map]
  constructor
  · rintro ⟨i, hi, rfl⟩
    rw [List.mem_filter] at hi
    exact ⟨i, List.mem_range.1 hi.1, hi.2, rfl⟩
  · rintro ⟨i, h1, h2, rfl⟩
    exact ⟨i, List.mem_filter.2 ⟨List.mem_range.2 h1, h2⟩, rfl⟩
theorem filt_nil {p : Nat → Bool} {n : Nat} (h : ∀ i, i < n → p i = false) : filt p n = [] := by
  unfold filt
  rw [List.filter_eq_nil_iff.2 fun i hi => by rw [h i (List.mem_range.1 hi)]; simp]
  rfl
theorem getD_set_self {α : Type} {l : List α} {i : Nat} {v d : α} (h : i < l.length) : (l.set i v).getD i d = v := by simp [List.getD, h]
theorem getD_set_ne {α : Type} {l : List α} {i j : Nat} {v d : α} (h : i ≠ j) : (l.set i v).getD j d = l.getD j d := by simp [List.getD, List.getElem?_set_ne h]
/-! ### What is known better -/
structure BOk (v b : daily_Value) (x : Int) : Prop where
  lo : (vs v).Lo ≤ (vs b).Lo ∧ (vs b).Lo ≤ x
  hi : x ≤ (vs b).Hi ∧ (vs b).Hi ≤ (vs v).Hi
  ok : b.Known = true → 0 ≤ b.Flow.Lo ∧ b.Flow.Lo ≤ b.Flow.Hi ∧ b.Flow.Hi ≤ 1000000000
theorem bok_refl {v : daily_Value} {x : Int} (h : SpOk v x) (hx : 0 ≤ x ∧ x ≤ 1000000) : BOk v v x := by
  have hk := h.k
  have e : (vs v).Lo ≤ x ∧ x ≤ (vs v).Hi := by
    unfold vs
    cases hv : v.Known with
    | true =>
      have := hk hv
      exact ⟨this.2.1, this.2.2.1⟩
    | false =>
      show (0 : Int) ≤ x ∧ x ≤ 1000000000
      omega
  exact ⟨⟨Int.le_refl _, e.1⟩, ⟨e.2, Int.le_refl _⟩, fun hv => by have := hk hv; omega⟩
theorem better_loop {N : Nat} (hN : 100 ≤ N) {l : List Int} (hl : Bytes l) {r : daily_Record} {x : List Int} {u0 m0 : Int} (hm : MOk r x) (h20 : x.length ≤ 25) :
    ∃ f i u m, loopO (fun s7 : List daily_Value × Int × Int × Int => law07_DailyBetter_b7 N l (r, x, u0, m0) r s7.1 s7.2.1 s7.2.2.1 s7.2.2.2) N (r.Days, 0, 0, 0) = some (.go (f, i, u, m)) ∧ f.length = x.length ∧ (∀ j, j < x.length → BOk (r.Days.getD j dv0) (f.getD j dv0) (x.getD j 0)) ∧ SOk u m (3 * x.length) := by
  have hlen := hm.len
  obtain ⟨s', h1, h2⟩ := loopInv (fun s7 : List daily_Value × Int × Int × Int => law07_DailyBetter_b7 N l (r, x, u0, m0) r s7.1 s7.2.1 s7.2.2.1 s7.2.2.2)
    (fun i s => s.2.1 = (i : Int) ∧ s.1.length = x.length ∧ (∀ j, j < i → BOk (r.Days.getD j dv0) (s.1.getD j dv0) (x.getD j 0)) ∧ (∀ j, i ≤ j → s.1.getD j dv0 = r.Days.getD j dv0) ∧ SOk s.2.2.1 s.2.2.2 (3 * i)) x.length (by
    rintro i ⟨f, i', u, m⟩ hi ⟨k1, k2, k3, k4, k5⟩
    simp only at k1 k2 k3 k4 k5
    subst k1
    have hx := hm.x0 i hi
    have ho := hm.own i hi
    obtain ⟨a, u1, m1, e1, a0, a1, s1⟩ := next_spec (N := N) hl (n := 3) k5 (by omega)
    have hset : ∀ b : daily_Value, BOk (r.Days.getD i dv0) b (x.getD i 0) → (∀ j, j < i + 1 → BOk (r.Days.getD j dv0) ((f.set i b).getD j dv0) (x.getD j 0)) ∧ ∀ j, i + 1 ≤ j → (f.set i b).getD j dv0 = r.Days.getD j dv0 := fun b hb => by
      refine ⟨fun j hj => ?_, fun j hj => ?_⟩
      · by_cases e : j = i
        · subst e
          rw [getD_set_self (by omega)]
          exact hb
        · rw [getD_set_ne (by omega)]
          exact k3 j (by omega)
      · rw [getD_set_ne (by omega)]
        exact k4 j (by omega)
    have hstart : law07_DailyBetter_b7 N l (r, x, u0, m0) r f (i : Int) u m = (cond (decide (0 < a))
        (law07_DailyBetter_j60 N (i : Int) f u1 m1)
        (cond (!(r.Days.getD i dv0).Known)
        (Option.bind (kit_Stream_Next N ⟨l, u1, m1⟩ 60) fun r_19 =>
        Option.bind (kit_Stream_Next N ⟨l, r_19.2.1, r_19.2.2⟩ 60) fun r_20 =>
        law07_DailyBetter_j60 N (i : Int) (f.set i ⟨true, ⟨max 0 (W (x.getD i 0 - r_19.1)), W (x.getD i 0 + r_20.1)⟩⟩) r_20.2.1 r_20.2.2)
        (Option.bind (kit_Stream_Within N ⟨l, u1, m1⟩ (r.Days.getD i dv0).Flow.Lo (x.getD i 0)) fun r_22 =>
        Option.bind (kit_Stream_Within N ⟨l, r_22.2.1, r_22.2.2⟩ (x.getD i 0) (r.Days.getD i dv0).Flow.Hi) fun r_23 =>
        law07_DailyBetter_j60 N (i : Int) (f.set i ⟨true, ⟨r_22.1, r_23.1⟩⟩) r_23.2.1 r_23.2.2))) := by
      unfold law07_DailyBetter_b7
      rw [lt_dec (by omega), cond_true, getI_d dv0 (by omega), Option.bind_some, e1, Option.bind_some, k4 i (Nat.le_refl _), getI_d 0 hi]
      simp only [Option.bind_some, Int.toNat_natCast, law07_known, law07_span]
    show ∃ s', law07_DailyBetter_b7 N l (r, x, u0, m0) r f (i : Int) u m = some (.cont s') ∧ _
    rw [hstart]
    by_cases ha : 0 < a
    · rw [dT ha, cond_true]
      refine ⟨(f, ((i + 1 : Nat) : Int), u1, m1), ?_, rfl, k2, fun j hj => ?_, fun j hj => k4 j (by omega), s1.mono (by omega)⟩
      · unfold law07_DailyBetter_j60
        rw [W_succ (by omega)]
      · by_cases e : j = i
        · subst e
          show BOk _ (f.getD j dv0) _
          rw [k4 j (Nat.le_refl _)]
          exact bok_refl ho (by omega)
        · exact k3 j (by omega)
    · rw [dF ha, cond_false]
      cases hk : (r.Days.getD i dv0).Known with
      | false =>
        rw [Bool.not_false, cond_true]
        obtain ⟨b, u2, m2, e2, b0, b1, s2⟩ := next_spec (N := N) hl (n := 60) s1 (by omega)
        obtain ⟨c, u3, m3, e3, c0, c1, s3⟩ := next_spec (N := N) hl (n := 60) s2 (by omega)
        obtain ⟨p1, p2⟩ := hset ⟨true, ⟨max 0 (x.getD i 0 - b), x.getD i 0 + c⟩⟩ (by
          have ev : vs (r.Days.getD i dv0) = ⟨0, 1000000000⟩ := by unfold vs; rw [hk]; rfl
          refine ⟨?_, ?_, fun _ => ?_⟩
          · rw [ev]
            show 0 ≤ max 0 (x.getD i 0 - b) ∧ max 0 (x.getD i 0 - b) ≤ _
            omega
          · rw [ev]
            show _ ≤ x.getD i 0 + c ∧ x.getD i 0 + c ≤ 1000000000
            omega
          · show 0 ≤ max 0 (x.getD i 0 - b) ∧ max 0 (x.getD i 0 - b) ≤ x.getD i 0 + c ∧ x.getD i 0 + c ≤ 1000000000
            omega)
        refine ⟨(f.set i ⟨true, ⟨max 0 (x.getD i 0 - b), x.getD i 0 + c⟩⟩, ((i + 1 : Nat) : Int), u3, m3), ?_, rfl, by simp [k2], p1, p2, s3.mono (by omega)⟩
        rw [e2, Option.bind_some, e3, Option.bind_some]
        unfold law07_DailyBetter_j60
        rw [W_succ (by omega), W_sm (n := x.getD i 0 - b) (by omega) (by omega), W_sm (n := x.getD i 0 + c) (by omega) (by omega)]
      | true =>
        have hv := ho.k hk
        rw [Bool.not_true, cond_false]
        obtain ⟨b, u2, m2, e2, b0, b1, s2⟩ := within_spec (N := N) hl (lo := (r.Days.getD i dv0).Flow.Lo) (hi := x.getD i 0) s1 (by omega) (by omega) (by omega) (by omega)
        obtain ⟨c, u3, m3, e3, c0, c1, s3⟩ := within_spec (N := N) hl (lo := x.getD i 0) (hi := (r.Days.getD i dv0).Flow.Hi) s2 (by omega) (by omega) (by omega) (by omega)
        obtain ⟨p1, p2⟩ := hset ⟨true, ⟨b, c⟩⟩ (by
          have ev : vs (r.Days.getD i dv0) = (r.Days.getD i dv0).Flow := by unfold vs; rw [hk]; rfl
          refine ⟨?_, ?_, fun _ => ?_⟩
          · rw [ev]
            exact ⟨b0, b1⟩
          · rw [ev]
            exact ⟨c0, c1⟩
          · show 0 ≤ b ∧ b ≤ c ∧ c ≤ 1000000000
            omega)
        refine ⟨(f.set i ⟨true, ⟨b, c⟩⟩, ((i + 1 : Nat) : Int), u3, m3), ?_, rfl, by simp [k2], p1, p2, s3.mono (by omega)⟩
        rw [e2, Option.bind_some, e3, Option.bind_some]
        unfold law07_DailyBetter_j60
        rw [W_succ (by omega)]) (by
    rintro ⟨f, i', u, m⟩ ⟨k1, -⟩
    simp only at k1
    subst k1
    show law07_DailyBetter_b7 N l (r, x, u0, m0) r f (x.length : Int) u m = _
    unfold law07_DailyBetter_b7
    rw [dF (by omega), cond_false]) x.length 0 (r.Days, 0, 0, 0) N (by omega) (by omega)
    ⟨rfl, hlen.symm, fun j hj => absurd hj (Nat.not_lt_zero _), fun j _ => rfl, new_ok⟩
  obtain ⟨f, i', u, m⟩ := s'
  obtain ⟨k1, k2, k3, k4, k5⟩ := h2
  exact ⟨f, i', u, m, h1, k2, k3, k5⟩
theorem mod_lt {a : Int} {n : Nat} (ha : 0 ≤ a ∧ a ≤ 255) (hn : 1 ≤ n) : ∃ k : Nat, (W a).tmod (n : Int) = (k : Int) ∧ k < n := by
  rw [W_sm (by omega) (by omega), tmod_mod ha.1]
  have h1 := Int.emod_nonneg a (show (n : Int) ≠ 0 by omega)
  have h2 := Int.emod_lt_of_pos a (show (0 : Int) < (n : Int) by omega)
  exact ⟨(a % (n : Int)).toNat, by omega, by omega⟩
theorem fill_true {r : daily_Record} {x : List Int} (h : MOk r x) (h1 : 1 ≤ x.length) (h60 : x.length ≤ 60) : ROk r ∧ agB r = true := by
  have hr := h.ok h1 h60
  exact ⟨hr, agB_iff.2 ((h.tru h60).agree hr.rise.1 hr.fall.1)⟩
theorem fillF_ok {r : daily_Record} (hr : ROk r) (ha : agB r = true) : fillF r = (told r, 0) := by
  unfold fillF
  rw [if_pos (check_iff.2 hr), if_pos ha]
theorem volR_ok {r : daily_Record} (hr : ROk r) (ha : agB r = true) {a b : Nat} (h1 : a ≤ b) (h2 : b < r.Days.length) : volR r (a : Int) (b : Int) = (⟨psum (tG r) a (b + 1 - a), psum (tL r) a (b + 1 - a)⟩, 0) := by
  unfold volR
  rw [if_pos (check_iff.2 hr), if_pos ⟨⟨by omega, by omega⟩, by omega⟩, if_pos ha, Int.toNat_natCast, show ((b : Int) + 1 - (a : Int)).toNat = b + 1 - a by omega]
theorem peakR_ok {r : daily_Record} (hr : ROk r) (ha : agB r = true) : peakR r = (⟨pkG r, pkL r⟩, pkD r, 0) := by
  unfold peakR
  rw [if_pos (check_iff.2 hr), if_pos ha]
theorem agaR_ok {r : daily_Record} (hr : ROk r) (ha : agB r = true) {l : List api_Span} (h1 : l.length = r.Days.length) (h2 : l.all daily_flows = true) : agaR r l = (filt (againP r l) r.Days.length, 0) := by
  unfold agaR
  rw [if_pos (check_iff.2 hr), if_pos h1, if_pos h2, if_pos ha]
theorem flows_iff {s : api_Span} : daily_flows s = true ↔ 0 ≤ s.Lo ∧ s.Lo ≤ s.Hi ∧ s.Hi ≤ 1000000000 := by
  unfold daily_flows daily_flow
  rw [in_dec, in_dec, Bool.and_eq_true, decide_eq_true_eq, decide_eq_true_eq]
  omega
theorem told_flows {r : daily_Record} (hr : ROk r) (ha : agB r = true) : (told r).all daily_flows = true := by
  unfold told
  rw [rl_all]
  intro i hi
  have h1 := told_bd hr i
  have h2 := agB_iff.1 ha i hi
  exact flows_iff.2 ⟨h1.1.1, h2, h1.2.2⟩
theorem told_getD {r : daily_Record} {i : Nat} {d : api_Span} (h : i < r.Days.length) : (told r).getD i d = ⟨tG r i, tL r i⟩ := rl_getD h
end Go.Nilo
