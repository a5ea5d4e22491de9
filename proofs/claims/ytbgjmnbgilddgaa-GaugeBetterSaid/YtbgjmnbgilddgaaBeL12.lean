/-
  What the plain functions compute, in plain arithmetic, part 12. Conditions: what each theorem names.
-/
import Derived.Test.YtbgjmnbgilddgaaBeL11
set_option linter.unusedSimpArgs false
set_option linter.unusedVariables false
namespace Go.Nilo
theorem flow_sub {g : gauge_Gauging} {xs : List gauge_Vertical} (hI : FInv g.Verticals xs) :
    sumBy (·.Lo) (pans g) ≤ sumBy (·.Lo) (pans ⟨g.Left, g.Right, xs⟩) ∧ sumBy (·.Hi) (pans ⟨g.Left, g.Right, xs⟩) ≤ sumBy (·.Hi) (pans g) := by
  have hl := hI.l
  unfold pans
  dsimp only
  rw [hl, sumBy_map, sumBy_map, sumBy_map, sumBy_map]
  exact ⟨sumBy_le fun i hi => (fine_pan hI (List.mem_range.1 hi)).l, sumBy_le fun i hi => (fine_pan hI (List.mem_range.1 hi)).h⟩

theorem leg_law {N : Nat} (hN : 60 ≤ N) {g g' : gauge_Leg} (hg : LegOk g) (hs : LegSub g' g) :
    ∃ a b : api_Span, gauge_Cross N ([g, g] : List gauge_Leg) = some (a, 0) ∧ gauge_Cross N ([g', g'] : List gauge_Leg) = some (b, 0) ∧ decide (b.Lo < a.Lo) = false ∧ decide (a.Hi < b.Hi) = false := by
  have hg' := hs.ok hg
  have c1 := cross_spec (N := N) (by omega) (l := [g, g]) (by simp) (by simp) (by simpa using hg)
  have c2 := cross_spec (N := N) (by omega) (l := [g', g']) (by simp) (by simp) (by simpa using hg')
  have hb := leg_sub hs
  refine ⟨_, _, c1, c2, ?_, ?_⟩
  · simp [sumBy]; omega
  · simp [sumBy]; omega

theorem dye_law {N : Nat} (hN : 60 ≤ N) {d : gauge_Dye} (h : DyeOk d) {R S F C : api_Span} (hR : Sub R d.Rate) (hS : Sub S d.Strong) (hF : Sub F d.Found) (hC : Sub C d.Clean) :
    ∃ a b : api_Span, gauge_Thinned N d = some (a, 0) ∧ gauge_Thinned N ⟨R, S, F, C⟩ = some (b, 0) ∧ decide (a.Lo ≤ b.Lo) = true ∧ decide (b.Hi ≤ a.Hi) = true := by
  obtain ⟨R0, S0, F0, C0⟩ := d
  obtain ⟨hr, hs, hf, hc, hcf, hfs⟩ := h
  dsimp only at hr hs hf hc hcf hfs hR hS hF hC
  have up : ∀ {s : api_Span} {a b : Int}, Ok0 s a → a ≤ b → Ok0 s b := fun h hb => ⟨h.1, h.2.1, Int.le_trans h.2.2 hb⟩
  have T1 := thinned_ok (N := N) (by omega) (up hr (by omega)) (up hs (by omega)) (up hf (by omega)) (up hc (by omega)) hcf hfs
  obtain ⟨f1, f2, f3⟩ := id hF
  obtain ⟨c1, c2, c3⟩ := id hC
  obtain ⟨s1, s2, s3⟩ := id hS
  obtain ⟨r1, r2, r3⟩ := id hR
  have T2 := thinned_ok (N := N) (by omega) (up (hR.ok0 hr) (by omega)) (up (hS.ok0 hs) (by omega)) (up (hF.ok0 hf) (by omega)) (up (hC.ok0 hc) (by omega)) (show C.Hi < F.Lo by omega) (show F.Hi ≤ S.Lo by omega)
  obtain ⟨a1, a2, a3⟩ := hr
  refine ⟨_, _, T1, T2, ?_, ?_⟩
  · simp only [decide_eq_true_eq]
    have m := mul_bd (a := R0.Lo) (b := S0.Lo - F0.Hi) (A := R.Lo) (B := S.Lo - F.Hi) a1 (by omega) r1 (by omega)
    exact ediv_mono m.1 m.2 (by omega) (by obtain ⟨c4, c5, c6⟩ := hc; omega)
  · simp only [decide_eq_true_eq]
    have m := mul_bd (a := R.Hi) (b := S.Hi - F.Lo) (A := R0.Hi) (B := S0.Hi - F0.Lo) (by omega) (by omega) r3 (by omega)
    exact ceil_mono m.1 m.2 (by omega) (by omega)

theorem better_true {numbers errors better : List Int} (hn : Bytes numbers) (he : Bytes errors) (hb : Bytes better) {permille : Int} (hp : 0 ≤ permille ∧ permille ≤ 65535) : law03_GaugeBetter 60 numbers errors better permille = some true := by
  have s0' : SOk 0 0 0 := ⟨by omega, by omega, by omega, by omega⟩
  obtain ⟨r, n, u1, m1, e1, hr, n1, n2, -⟩ := section_spec (N := 60) (by omega) hn s0' (by omega) (most := 10) (by omega)
  obtain ⟨g, u2, m2, e2, hg, -, -, hV, hT, t2⟩ := gauged_spec (N := 60) (by omega) he s0' (by omega) hr n1 (by omega)
  obtain ⟨xs, u3, m3, e3, hI, t3⟩ := fine_loop (N := 60) (by omega) hg hb s0' (by omega)
  have hg' := fine_ok hg hI
  have hn' := hg.n'
  have hl := hI.l
  have p1 := panels_spec (N := 60) (by omega) hg
  have p2 := panels_spec (N := 60) (by omega) hg'
  have f1 := flow_spec (N := 60) (by omega) hg
  have f2 := flow_spec (N := 60) (by omega) hg'
  obtain ⟨fl, fh⟩ := flow_sub hI
  obtain ⟨x19, h19⟩ := loop19b (N := 60) (by omega) (a := pans g) (b := pans ⟨g.Left, g.Right, xs⟩) (by rw [pans_len]; exact hn') (by rw [pans_len, pans_len]; exact hl) (by
    intro i hi
    rw [pans_len] at hi
    rw [pans_get hi, pans_get (show i < xs.length by omega)]
    exact fine_pan hI hi)
  have hq : 0 ≤ (W permille).tmod 1001 ∧ (W permille).tmod 1001 ≤ 1000 := by
    rw [W_id (by omega) (by omega), tmod_mod hp.1]
    have := Int.emod_lt_of_pos permille (show (0 : Int) < 1001 by omega)
    have := Int.emod_nonneg permille (show (1001 : Int) ≠ 0 by omega)
    omega
  generalize hQ : (W permille).tmod 1001 = q at hq
  obtain ⟨can, sure, b1, l1, l2, m1', m2'⟩ := heavy_both (N := 60) (by omega) hg hq
  obtain ⟨can', sure', b2, l3, l4, m3', m4'⟩ := heavy_both (N := 60) (by omega) hg' hq
  dsimp only at m3' m4'
  rw [hl] at m3' m4'
  have getp : ∀ {f : api_Span → Int} {j : Nat}, j < g.Verticals.length → f ((pans g).getD j s0) = f (panI g j) := fun hj => by rw [pans_get hj]
  have getp' : ∀ {f : api_Span → Int} {j : Nat}, j < g.Verticals.length → f ((pans ⟨g.Left, g.Right, xs⟩).getD j s0) = f (panI ⟨g.Left, g.Right, xs⟩ j) := fun hj => by rw [pans_get (show _ < xs.length by omega)]
  have k1 := part_true (N := 60) (a := can') (b := can) l3 l1 (by omega) (by
    intro x hx
    obtain ⟨i, hi, rfl, hc⟩ := (m3' x).1 hx
    exact (m1' _).2 ⟨i, hi, rfl, heavy_mono hq (rest_le fun j hj => by rw [getp (f := (·.Lo)) hj, getp' (f := (·.Lo)) hj]; exact (fine_pan hI hj).l) (fine_pan hI hi).h hc⟩)
  have k2 := part_true (N := 60) (a := sure) (b := sure') l2 l4 (by omega) (by
    intro x hx
    obtain ⟨i, hi, rfl, hc⟩ := (m2' x).1 hx
    exact (m4' _).2 ⟨i, hi, rfl, heavy_mono hq (rest_le fun j hj => by rw [getp (f := (·.Hi)) hj, getp' (f := (·.Hi)) hj]; exact (fine_pan hI hj).h) (fine_pan hI hi).l hc⟩)
  have k3 := part_true (N := 60) (a := sure') (b := can') l4 l3 (by omega) (by
    intro x hx
    obtain ⟨i, hi, rfl, hc⟩ := (m4' x).1 hx
    exact (m3' _).2 ⟨i, hi, rfl, heavy_mono hq (rest_le fun j hj => by rw [getp' (f := (·.Lo)) hj, getp' (f := (·.Hi)) hj]; exact Int.le_trans (fine_pan hI hj).m (Int.le_refl _)) (fine_pan hI hi).m hc⟩)
  -- the leg
  obtain ⟨x, v1, w1, q1, a1, c1, t4⟩ := within_spec (N := 60) he (lo := -50) (hi := 50) t2 (by omega) (by omega) (by omega) (by omega)
  obtain ⟨xa, xb, v2, w2, q2, a2, c2, d2, g2, -, -, t5⟩ := around_spec (N := 60) he (n := x) (lo := -100) (hi := 100) (er := 9) t4 (by omega) (by omega) (by omega) (by omega) (by omega) (by omega)
  obtain ⟨y, v3, w3, q3, a3, c3, t6⟩ := within_spec (N := 60) he (lo := -50) (hi := 50) t5 (by omega) (by omega) (by omega) (by omega)
  obtain ⟨ya, yb, v4, w4, q4, a4, c4, d4, g4, -, -, t7⟩ := around_spec (N := 60) he (n := y) (lo := -100) (hi := 100) (er := 9) t6 (by omega) (by omega) (by omega) (by omega) (by omega) (by omega)
  obtain ⟨d, v5, w5, q5, a5, c5, t8⟩ := next_spec (N := 60) he (n := 99) t7 (by omega)
  obtain ⟨da, db, v6, w6, q6, a6, c6, d6, g6, -, -, t9⟩ := around_spec (N := 60) he (n := d) (lo := 0) (hi := 200) (er := 9) t8 (by omega) (by omega) (by omega) (by omega) (by omega) (by omega)
  obtain ⟨e, v7, w7, q7, a7, c7, t10⟩ := within_spec (N := 60) he (lo := -99) (hi := 99) t9 (by omega) (by omega) (by omega) (by omega)
  obtain ⟨ea, eb, v8, w8, q8, a8, c8, d8, g8, -, -, t11⟩ := around_spec (N := 60) he (n := e) (lo := -200) (hi := 200) (er := 9) t10 (by omega) (by omega) (by omega) (by omega) (by omega) (by omega)
  obtain ⟨f, v9, w9, q9, a9, c9, t12⟩ := within_spec (N := 60) he (lo := -99) (hi := 99) t11 (by omega) (by omega) (by omega) (by omega)
  obtain ⟨na, nb, v10, w10, q10, a10, c10, d10, g10, -, -, t13⟩ := around_spec (N := 60) he (n := f) (lo := -200) (hi := 200) (er := 9) t12 (by omega) (by omega) (by omega) (by omega) (by omega) (by omega)
  obtain ⟨X, o1, z1, j1, S1, y1⟩ := narrow_spec (N := 60) hb (s := ⟨xa, xb⟩) t3 (by omega) (by dsimp only; omega) (by dsimp only; omega) (by dsimp only; omega)
  obtain ⟨Y, o2, z2, j2, S2, y2⟩ := narrow_spec (N := 60) hb (s := ⟨ya, yb⟩) y1 (by omega) (by dsimp only; omega) (by dsimp only; omega) (by dsimp only; omega)
  obtain ⟨D, o3, z3, j3, S3, y3⟩ := narrow_spec (N := 60) hb (s := ⟨da, db⟩) y2 (by omega) (by dsimp only; omega) (by dsimp only; omega) (by dsimp only; omega)
  obtain ⟨E, o4, z4, j4, S4, y4⟩ := narrow_spec (N := 60) hb (s := ⟨ea, eb⟩) y3 (by omega) (by dsimp only; omega) (by dsimp only; omega) (by dsimp only; omega)
  obtain ⟨F, o5, z5, j5, S5, y5⟩ := narrow_spec (N := 60) hb (s := ⟨na, nb⟩) y4 (by omega) (by dsimp only; omega) (by dsimp only; omega) (by dsimp only; omega)
  have lok : LegOk ⟨⟨xa, xb⟩, ⟨ya, yb⟩, ⟨da, db⟩, ⟨ea, eb⟩, ⟨na, nb⟩⟩ := by
    refine ⟨⟨?_, ?_, ?_⟩, ⟨?_, ?_, ?_⟩, ⟨?_, ?_, ?_⟩, ?_, ⟨?_, ?_, ?_⟩, ⟨?_, ?_, ?_⟩⟩ <;> dsimp only <;> omega
  obtain ⟨ca, cb, cr1, cr2, cr3, cr4⟩ := leg_law (N := 60) (by omega) lok (g' := ⟨X, Y, D, E, F⟩) ⟨S1, S2, S3, S4, S5⟩
  -- the dye
  obtain ⟨dy, v11, w11, q11, hD⟩ := dyed_spec (N := 60) he t13 (by omega)
  obtain ⟨dr, ds, df, dc, -, -⟩ := id hD
  obtain ⟨R1, o6, z6, j6, S6, y6⟩ := narrow_spec (N := 60) hb (s := dy.Rate) y5 (by omega) (by have := dr.1; omega) (by have := dr.2.2; omega) dr.2.1
  obtain ⟨R2, o7, z7, j7, S7, y7⟩ := narrow_spec (N := 60) hb (s := dy.Strong) y6 (by omega) (by have := ds.1; omega) (by have := ds.2.2; omega) ds.2.1
  obtain ⟨R3, o8, z8, j8, S8, y8⟩ := narrow_spec (N := 60) hb (s := dy.Found) y7 (by omega) (by have := df.1; omega) (by have := df.2.2; omega) df.2.1
  obtain ⟨R4, o9, z9, j9, S9, y9⟩ := narrow_spec (N := 60) hb (s := dy.Clean) y8 (by omega) (by have := dc.1; omega) (by have := dc.2.2; omega) dc.2.1
  obtain ⟨ta, tb, th1, th2, th3, th4⟩ := dye_law (N := 60) (by omega) hD S6 S7 S8 S9
  -- the statement
  have hcopy : law03_CopyGauging 60 g = some g := by
    unfold law03_CopyGauging kit_Copy_gauge_Vertical
    rw [room_ok (by omega)]
    rfl
  unfold law03_GaugeBetter kit_New
  simp only [Option.bind_some, e1, e2, hcopy]
  rw [e3]
  simp only [Option.bind_some, exK, p1, p2, f1, f2]
  have hlen : (((pans g).length : Nat) : Int) = (((pans ⟨g.Left, g.Right, xs⟩).length : Nat) : Int) := by rw [pans_len, pans_len]; dsimp only; omega
  have d1 : decide (sumBy (·.Lo) (pans ⟨g.Left, g.Right, xs⟩) < sumBy (·.Lo) (pans g)) = false := by simp only [decide_eq_false_iff_not]; omega
  have d2 : decide (sumBy (·.Hi) (pans g) < sumBy (·.Hi) (pans ⟨g.Left, g.Right, xs⟩)) = false := by simp only [decide_eq_false_iff_not]; omega
  rw [hlen, d1, d2]
  simp only [bne_self_eq_false, Bool.or_false, cond_false]
  rw [h19, hQ]
  simp only [Option.bind_some, b1, b2, bne_self_eq_false, Bool.or_false, cond_false, k1, k2, k3, Bool.not_true, cond_true]
  simp only [q1, q2, q3, q4, q5, q6, q7, q8, q9, q10, Option.bind_some, j1, j2, j3, j4, j5, cr1, cr2, cr3, cr4, bne_self_eq_false, Bool.or_false, cond_false]
  simp only [q11, j6, j7, j8, j9, th1, th2, th3, th4, Option.bind_some, awake_true]
  simp
end Go.Nilo
