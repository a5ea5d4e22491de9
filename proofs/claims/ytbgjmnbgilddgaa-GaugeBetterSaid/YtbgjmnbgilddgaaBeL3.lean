/-
  What the plain functions compute, in plain arithmetic, part 3. Conditions: what each theorem names.
-/
import Derived.Test.YtbgjmnbgilddgaaBeL2
set_option linter.unusedSimpArgs false
set_option linter.unusedVariables false
namespace Go.Nilo
theorem everySpan {N : Nat} {l : List api_Span} (hl : l.length ≤ 1000000) (hN : l.length < N) : gauge_every_api_Span N l = some (!(l.any gauge_every_api_Span_1)) := by
  unfold gauge_every_api_Span slices_ContainsFunc_Lapi_Span_api_Span slices_IndexFunc_Lapi_Span_api_Span
  rcases indexLoop gauge_every_api_Span_1 l (by omega) (fun s4 => slices_IndexFunc_Lapi_Span_api_Span_b4 N l s4) (fun x => rfl) l.length 0 N (by omega) hN with ⟨k, h1, h2, h3⟩ | ⟨h1, h2⟩
  · rw [List.drop_zero] at h3
    rw [show ((0 : Nat) : Int) = 0 from rfl] at h1
    rw [h1, h3]
    simp [exK, h2]
  · rw [List.drop_zero] at h2
    rw [show ((0 : Nat) : Int) = 0 from rfl] at h1
    rw [h1, h2]
    simp [exK]

/-- A span that is allowed. -/
def Ok0 (s : api_Span) (hi : Int) : Prop := 0 ≤ s.Lo ∧ s.Lo ≤ s.Hi ∧ s.Hi ≤ hi
theorem Ok0.every {s : api_Span} {hi : Int} (h : Ok0 s hi) (hh : hi ≤ 1000000) : gauge_every_api_Span_1 s = false := by
  obtain ⟨h1, h2, h3⟩ := h
  unfold gauge_every_api_Span_1 gauge_Thinned_1 gauge_right gauge_in
  simp; omega

theorem thinned_span {N : Nat} (hN : 5 ≤ N) {R S F C : api_Span} (hR : Ok0 R 1000000) (hS : Ok0 S 1000000) (hF : Ok0 F 1000000) (hC : Ok0 C 1000000) :
    gauge_every_api_Span N ([R, S, F, C] : List api_Span) = some true := by
  rw [everySpan (by simp) (by simp; omega)]
  simp [hR.every, hS.every, hF.every, hC.every]

theorem thinned_false {N : Nat} (hN : 5 ≤ N) {R S F C : api_Span} (hR : Ok0 R 1000000) (hS : Ok0 S 1000000) (hF : Ok0 F 1000000) (hC : Ok0 C 1000000) (h : F.Lo ≤ C.Hi) :
    gauge_Thinned N ⟨R, S, F, C⟩ = some (⟨0, 0⟩, 7) := by
  unfold gauge_Thinned
  rw [thinned_span hN hR hS hF hC]
  simp [h]

theorem mul_bd {a b A B : Int} (h0 : 0 ≤ a) (h1 : 0 ≤ b) (h2 : a ≤ A) (h3 : b ≤ B) : 0 ≤ a * b ∧ a * b ≤ A * B :=
  ⟨Int.mul_nonneg h0 h1, Int.mul_le_mul h2 h3 h1 (by omega)⟩

theorem thinned_ok {N : Nat} (hN : 5 ≤ N) {R S F C : api_Span} (hR : Ok0 R 1000000) (hS : Ok0 S 1000000) (hF : Ok0 F 1000000) (hC : Ok0 C 1000000) (h1 : C.Hi < F.Lo) (h2 : F.Hi ≤ S.Lo) :
    gauge_Thinned N ⟨R, S, F, C⟩ = some (⟨R.Lo * (S.Lo - F.Hi) / (F.Hi - C.Lo), (R.Hi * (S.Hi - F.Lo) + (F.Lo - C.Hi) - 1) / (F.Lo - C.Hi)⟩, 0) := by
  have hh := thinned_span hN hR hS hF hC
  obtain ⟨r1, r2, r3⟩ := hR
  obtain ⟨s1, s2, s3⟩ := hS
  obtain ⟨f1, f2, f3⟩ := hF
  obtain ⟨c1, c2, c3⟩ := hC
  unfold gauge_Thinned
  rw [hh]
  have d1 : decide (F.Lo ≤ C.Hi) = false := by simp; omega
  have d2 : decide (S.Lo < F.Hi) = false := by simp; omega
  have e1 : W (F.Hi - C.Lo) = F.Hi - C.Lo := W_id (by omega) (by omega)
  have e2 : W (F.Lo - C.Hi) = F.Lo - C.Hi := W_id (by omega) (by omega)
  have e3 : W (S.Lo - F.Hi) = S.Lo - F.Hi := W_id (by omega) (by omega)
  have e4 : W (S.Hi - F.Lo) = S.Hi - F.Lo := W_id (by omega) (by omega)
  have b1 := mul_bd (a := R.Lo) (b := S.Lo - F.Hi) (A := 1000000) (B := 1000000) r1 (by omega) (by omega) (by omega)
  have b2 := mul_bd (a := R.Hi) (b := S.Hi - F.Lo) (A := 1000000) (B := 1000000) (by omega) (by omega) (by omega) (by omega)
  have z1 : nz (F.Hi - C.Lo) = some () := by unfold nz; rw [if_neg (by omega)]
  have z2 : nz (F.Lo - C.Hi) = some () := by unfold nz; rw [if_neg (by omega)]
  have e5 : W (R.Lo * (S.Lo - F.Hi)) = R.Lo * (S.Lo - F.Hi) := W_id (by omega) (by omega)
  have e6 : W (R.Hi * (S.Hi - F.Lo)) = R.Hi * (S.Hi - F.Lo) := W_id (by omega) (by omega)
  have e7 : W (R.Hi * (S.Hi - F.Lo) + (F.Lo - C.Hi)) = R.Hi * (S.Hi - F.Lo) + (F.Lo - C.Hi) := W_id (by omega) (by omega)
  have e8 : W (R.Hi * (S.Hi - F.Lo) + (F.Lo - C.Hi) - 1) = R.Hi * (S.Hi - F.Lo) + (F.Lo - C.Hi) - 1 := W_id (by omega) (by omega)
  have q1 : 0 ≤ R.Lo * (S.Lo - F.Hi) / (F.Hi - C.Lo) ∧ R.Lo * (S.Lo - F.Hi) / (F.Hi - C.Lo) ≤ R.Lo * (S.Lo - F.Hi) := ⟨Int.ediv_nonneg b1.1 (by omega), Int.ediv_le_self _ b1.1⟩
  have q2 : 0 ≤ (R.Hi * (S.Hi - F.Lo) + (F.Lo - C.Hi) - 1) / (F.Lo - C.Hi) ∧ (R.Hi * (S.Hi - F.Lo) + (F.Lo - C.Hi) - 1) / (F.Lo - C.Hi) ≤ R.Hi * (S.Hi - F.Lo) + (F.Lo - C.Hi) - 1 := ⟨Int.ediv_nonneg (by omega) (by omega), Int.ediv_le_self _ (by omega)⟩
  simp only [Option.bind_some, Bool.not_true, cond_false, d1, d2, Bool.or_false, e1, e2, e3, e4, z1, z2, e5, e6, e7, e8]
  rw [tdiv_div b1.1, tdiv_div (by omega), W_id (by omega) (by omega), W_id (by omega) (by omega)]

structure DyeOk (d : gauge_Dye) : Prop where
  r : Ok0 d.Rate 300
  s : Ok0 d.Strong 2000
  f : Ok0 d.Found 300
  c : Ok0 d.Clean 300
  cf : d.Clean.Hi < d.Found.Lo
  fs : d.Found.Hi ≤ d.Strong.Lo

theorem dyed_spec {N : Nat} {l : List Int} (hl : Bytes l) {u m : Int} {k : Nat} (hs : SOk u m k) (hk : k + 20 ≤ 1000000) :
    ∃ d u' m', law03_Dyed N ⟨l, u, m⟩ = some (d, u', m') ∧ DyeOk d := by
  obtain ⟨r, u1, m1, h1, a1, b1, s1⟩ := next_spec (N := N) hl (n := 200) hs (by omega)
  obtain ⟨x2, y2, u2, m2, h2, a2, b2, c2, d2, e2, f2, s2⟩ := around_spec (N := N) hl (n := r) (lo := 0) (hi := 300) (er := 9) s1 (by omega) (by omega) (by omega) (by omega) (by omega) (by omega)
  obtain ⟨r3, u3, m3, h3, a3, b3, s3⟩ := next_spec (N := N) hl (n := 9) s2 (by omega)
  obtain ⟨r4, u4, m4, h4, a4, b4, s4⟩ := within_spec (N := N) hl (lo := 15) (hi := 60) s3 (by omega) (by omega) (by omega) (by omega)
  obtain ⟨x5, y5, u5, m5, h5, a5, b5, c5, d5, e5, f5, s5⟩ := around_spec (N := N) hl (n := r3) (lo := 0) (hi := 300) (er := 2) s4 (by omega) (by omega) (by omega) (by omega) (by omega) (by omega)
  have w5 : W (y5 + 1) = y5 + 1 := W_id (by omega) (by omega)
  obtain ⟨x6, y6, u6, m6, h6, a6, b6, c6, d6, e6, f6, s6⟩ := around_spec (N := N) hl (n := r4) (lo := y5 + 1) (hi := 300) (er := 4) s5 (by omega) (by omega) (by omega) (by omega) (by omega) (by omega)
  obtain ⟨r7, u7, m7, h7, a7, b7, s7⟩ := next_spec (N := N) hl (n := 900) s6 (by omega)
  have w7 : W (y6 + r7) = y6 + r7 := W_id (by omega) (by omega)
  obtain ⟨x8, y8, u8, m8, h8, a8, b8, c8, d8, e8, f8, s8⟩ := around_spec (N := N) hl (n := y6 + r7) (lo := y6) (hi := 1000000) (er := 30) s7 (by omega) (by omega) (by omega) (by omega) (by omega) (by omega)
  refine ⟨⟨⟨x2, y2⟩, ⟨x8, y8⟩, ⟨x6, y6⟩, ⟨x5, y5⟩⟩, u8, m8, ?_, ⟨⟨by simp; omega, by simp; omega, by simp; omega⟩, ⟨by simp; omega, by simp; omega, by simp; omega⟩, ⟨by simp; omega, by simp; omega, by simp; omega⟩, ⟨by simp; omega, by simp; omega, by simp; omega⟩, by simp; omega, by simp; omega⟩⟩
  unfold law03_Dyed
  simp only [h1, h2, h3, h4, h5, h6, h7, h8, w5, w7, Option.bind_some]

end Go.Nilo
