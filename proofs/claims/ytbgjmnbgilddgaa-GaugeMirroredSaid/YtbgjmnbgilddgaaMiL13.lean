/-
  What the plain functions compute, in plain arithmetic, part 13. Conditions: what each theorem names.
-/
import Derived.Test.YtbgjmnbgilddgaaMiL12
set_option linter.unusedSimpArgs false
set_option linter.unusedVariables false
namespace Go.Nilo
structure SInv (left : Int) (i : Nat) (at' : Int) (P : List gauge_Point) : Prop where
  l : P.length = i
  b : left ≤ at' ∧ at' ≤ left + 30 * i
  p : ∀ j, j < i → left < (P.getD j p0).At ∧ (P.getD j p0).At ≤ at' ∧ 0 ≤ (P.getD j p0).Depth ∧ (P.getD j p0).Depth ≤ 2000 ∧ 0 ≤ (P.getD j p0).Cost ∧ (P.getD j p0).Cost ≤ 1000
  up : ∀ j, j + 1 < i → (P.getD j p0).At < (P.getD (j + 1) p0).At
theorem SInv.step {left : Int} {i : Nat} {at' r d c : Int} {P : List gauge_Point} (h : SInv left i at' P) (hr : 1 ≤ r ∧ r ≤ 30) (hd : 0 ≤ d ∧ d ≤ 2000) (hc : 0 ≤ c ∧ c ≤ 1000) : SInv left (i + 1) (at' + r) (P ++ [⟨at' + r, d, c⟩]) := by
  obtain ⟨l, b, p, up⟩ := h
  refine ⟨by simp [l], by omega, ?_, ?_⟩
  · intro j hj
    by_cases hji : j < i
    · rw [getD_lt (by omega)]; have := p j hji; omega
    · obtain rfl : j = P.length := by omega
      rw [getD_eq]; dsimp only; omega
  · intro j hj
    by_cases hji : j + 1 < i
    · rw [getD_lt (by omega), getD_lt (by omega)]; exact up j hji
    · obtain rfl : i = j + 1 := by omega
      rw [getD_lt (by omega), show j + 1 = P.length by omega, getD_eq]
      have := p j (by omega)
      dsimp only
      omega
theorem sited_spec {N : Nat} (hN : 60 ≤ N) {bytes : List Int} (hb : Bytes bytes) {u m : Int} {k : Nat} (hs : SOk u m k) (hk : k ≤ 100000) :
    ∃ s u' m', law03_Sited N ⟨bytes, u, m⟩ 12 = some (s, u', m') ∧ StOk s := by
  obtain ⟨left, u1, m1, e1, a1, b1, s1⟩ := next_spec (N := N) hb (n := 40) hs (by omega)
  obtain ⟨gap, u2, m2, e2, a2, b2, s2⟩ := within_spec (N := N) hb (lo := 10) (hi := 90) s1 (by omega) (by omega) (by omega) (by omega)
  obtain ⟨stp, u3, m3, e3, a3, b3, s3⟩ := within_spec (N := N) hb (lo := 20) (hi := 90) s2 (by omega) (by omega) (by omega) (by omega)
  obtain ⟨n', u4, m4, e4, a4, b4, s4⟩ := next_spec (N := N) hb (n := 13) s3 (by omega)
  obtain ⟨n, rfl⟩ : ∃ k : Nat, n' = (k : Int) := ⟨n'.toNat, by omega⟩
  obtain ⟨⟨at', x, v, w, P⟩, h1, hx, hI, hS⟩ := loopInv (fun s6 => law03_Sited_b6 N ⟨bytes, u, m⟩ ((n : Int), u4, m4) s6.1 s6.2.1 s6.2.2.1 s6.2.2.2.1 s6.2.2.2.2)
    (fun i s => s.2.1 = (i : Int) ∧ SInv left i s.1 s.2.2.2.2 ∧ SOk s.2.2.1 s.2.2.2.1 (k + 10 + 3 * i)) n
    (by
      rintro i ⟨at', x, v, w, P⟩ hi ⟨rfl, hI, hS⟩
      dsimp only at hI hS ⊢
      obtain ⟨r, u5, m5, e5, a5, b5, s5⟩ := within_spec (N := N) hb (lo := 1) (hi := 30) hS (by omega) (by omega) (by omega) (by omega)
      obtain ⟨d, u6, m6, e6, a6, b6, s6⟩ := next_spec (N := N) hb (n := 100) s5 (by omega)
      obtain ⟨c, u7, m7, e7, a7, b7, s7⟩ := next_spec (N := N) hb (n := 40) s6 (by omega)
      have hbb := hI.b
      have w1 : W (at' + r) = at' + r := W_id (by omega) (by omega)
      refine ⟨(at' + r, ((i + 1 : Nat) : Int), u7, m7, P ++ [⟨at' + r, d, c⟩]), ?_, rfl, hI.step ⟨a5, b5⟩ ⟨a6, by omega⟩ ⟨a7, by omega⟩, s7⟩
      unfold law03_Sited_b6
      rw [lt_dec hi]
      simp only [cond_true, e5, Option.bind_some, w1, e6, e7, W_succ (i := i) (by omega)]
      rw [room_ok (by simp [hI.l]; omega)]
      rfl)
    (by
      rintro ⟨at', x, v, w, P⟩ ⟨rfl, -⟩
      dsimp only
      unfold law03_Sited_b6
      rw [ge_dec, cond_false])
    n 0 (left, 0, u4, m4, []) N (by omega) (by omega) ⟨rfl, ⟨rfl, by omega, by intro j hj; omega, by intro j hj; omega⟩, ⟨s4.u0, by have := s4.u1; push_cast at this ⊢; omega, s4.m0, s4.m1⟩⟩
  dsimp only at hx hI hS
  obtain ⟨r, u8, m8, e8, a8, b8, s8⟩ := within_spec (N := N) hb (lo := 1) (hi := 30) hS (by omega) (by omega) (by omega) (by omega)
  obtain ⟨l, b, p, up⟩ := hI
  have w1 : W (at' + r) = at' + r := W_id (by omega) (by omega)
  refine ⟨⟨left, at' + r, gap, stp, P⟩, u8, m8, ?_, ⟨a1, by dsimp only; omega, by dsimp only; omega, by dsimp only; omega, by dsimp only; omega, by dsimp only; omega, ?_, ?_⟩⟩
  · unfold law03_Sited
    rw [show W (12 + 1) = 13 from rfl, e1]
    simp only [Option.bind_some, e2, e3, e4]
    rw [h1]
    simp only [exK, Option.bind_some, e8, w1]
  · intro i hi
    have := p i (by dsimp only at hi; omega)
    dsimp only
    omega
  · intro i hi
    exact up i (by dsimp only at hi; omega)

/-! ### The loops of the statement -/
theorem loop9 {N : Nat} (hN : 60 ≤ N) {g : gauge_Gauging} (h : GOk g) {q : Int × Int} : loopO (fun s9 => law03_GaugeMirrored_b9 N (g, q) g.Verticals.reverse s9.1 s9.2) N (0, g.Verticals.reverse) = some (.go ((g.Verticals.length : Int), (mirG g).Verticals)) := by
  have hn := h.n'
  have hl := h.l
  have hr := h.r
  have := mK_loop (ρ := Bool) v0 (fun v => (⟨W (W (g.Left + g.Right) - v.At), v.Depth, v.Speed⟩ : gauge_Vertical)) (xs := g.Verticals.reverse) (fun s9 => law03_GaugeMirrored_b9 N (g, q) g.Verticals.reverse s9.1 s9.2) (fun k l hk => by
    show law03_GaugeMirrored_b9 N (g, q) g.Verticals.reverse (k : Int) l = _
    unfold law03_GaugeMirrored_b9
    rw [lt_dec hk, cond_true, Int.toNat_natCast]
    cases getI l (k : Int) <;> rfl) (fun l => by
    show law03_GaugeMirrored_b9 N (g, q) g.Verticals.reverse (g.Verticals.reverse.length : Int) l = _
    unfold law03_GaugeMirrored_b9
    rw [ge_dec, cond_false]) (N := N) (by simp; omega) (by simp; omega)
  rw [this, List.length_reverse]
  congr 3
  refine List.map_congr_left fun v hv => ?_
  have := h.v v (List.mem_reverse.1 hv)
  obtain ⟨a, b, -, -, -⟩ := this
  unfold mirV
  rw [W_id (n := g.Left + g.Right) (by omega) (by omega), W_id (by omega) (by omega)]
theorem loop12 {N : Nat} (hN : 60 ≤ N) {s : gauge_Site} (h : StOk s) {q : Int × Int} : loopO (fun s12 => law03_GaugeMirrored_b12 N (s, q) s.Points.reverse s12.1 s12.2) N (0, s.Points.reverse) = some (.go ((s.Points.length : Int), (mirS s).Points)) := by
  have hn := h.n
  have hl := h.l
  have hr := h.r
  have := mK_loop (ρ := Bool) p0 (fun v => (⟨W (W (s.Left + s.Right) - v.At), v.Depth, v.Cost⟩ : gauge_Point)) (xs := s.Points.reverse) (fun s12 => law03_GaugeMirrored_b12 N (s, q) s.Points.reverse s12.1 s12.2) (fun k l hk => by
    show law03_GaugeMirrored_b12 N (s, q) s.Points.reverse (k : Int) l = _
    unfold law03_GaugeMirrored_b12
    rw [lt_dec hk, cond_true, Int.toNat_natCast]
    cases getI l (k : Int) <;> rfl) (fun l => by
    show law03_GaugeMirrored_b12 N (s, q) s.Points.reverse (s.Points.reverse.length : Int) l = _
    unfold law03_GaugeMirrored_b12
    rw [ge_dec, cond_false]) (N := N) (by simp; omega) (by simp; omega)
  rw [this, List.length_reverse]
  congr 3
  refine List.map_congr_left fun v hv => ?_
  obtain ⟨j, hj, rfl⟩ := List.getElem_of_mem (List.mem_reverse.1 hv)
  have := h.p j hj
  rw [get_getD (d := p0) hj]
  unfold mirP
  rw [W_id (n := s.Left + s.Right) (by omega) (by omega), W_id (by omega) (by omega)]
theorem loop22 {N : Nat} {g : gauge_Gauging} {can sure : List Int} (hn : g.Verticals.length ≤ 30) (hc : can.length ≤ 30) (hb : ∀ x ∈ can, 0 ≤ x ∧ x < 100) (hN : 60 ≤ N) {q : Int × Int} {z : Int} :
    loopO (fun s22 => law03_GaugeMirrored_b22 N (g, q) (can, sure, z) s22.1 s22.2.1 s22.2.2) N (can, can.reverse.map (fun x => (g.Verticals.length : Int) - 1 - x), 0) = some (.go (can, can.reverse.map (fun x => (g.Verticals.length : Int) - 1 - x), (can.length : Int))) := by
  refine runS (ρ := Bool) (fun k : Nat => (can, can.reverse.map (fun x => (g.Verticals.length : Int) - 1 - x), (k : Int))) can.length _ (fun k hk => ?_) ?_ can.length 0 N (by omega) (by omega)
  · show law03_GaugeMirrored_b22 N (g, q) (can, sure, z) can (can.reverse.map (fun x => (g.Verticals.length : Int) - 1 - x)) (k : Int) = _
    have hx := hb can[k] (List.getElem_mem _)
    unfold law03_GaugeMirrored_b22
    have hlen : (can.reverse.map (fun x => (g.Verticals.length : Int) - 1 - x)).length = can.length := by simp
    rw [lt_dec hk, cond_true, hlen, W_id (n := (can.length : Int) - 1) (by omega) (by omega), W_id (by omega) (by omega), show (can.length : Int) - 1 - (k : Int) = ((can.length - 1 - k : Nat) : Int) by omega, getI_nat (by rw [hlen]; omega), Option.bind_some, getI_nat hk, Option.bind_some]
    have e : (can.reverse.map (fun x => (g.Verticals.length : Int) - 1 - x))[can.length - 1 - k]'(by rw [hlen]; omega) = (g.Verticals.length : Int) - 1 - can[k] := by
      rw [List.getElem_map, List.getElem_reverse]
      simp only [show can.length - 1 - (can.length - 1 - k) = k by omega]
    dsimp only
    rw [e, W_id (n := (g.Verticals.length : Int) - 1) (by omega) (by omega), W_id (by omega) (by omega), bne_self_eq_false, cond_false, W_succ (by omega)]
  · show law03_GaugeMirrored_b22 N (g, q) (can, sure, z) can _ (can.length : Int) = _
    unfold law03_GaugeMirrored_b22
    rw [ge_dec, cond_false]
theorem hvK_mem {mine oth : api_Span → Int} {l : List api_Span} {p : Int} {k : Nat} : ∀ x ∈ hvK mine oth l p k, 0 ≤ x ∧ x < k := by
  intro x hx
  obtain ⟨i, hi, rfl⟩ := List.mem_map.1 hx
  have := List.mem_range.1 (List.mem_filter.1 hi).1
  omega
theorem mirrored_true {numbers errors points : List Int} {permille : Int} (hn : Bytes numbers) (he : Bytes errors) (hp : Bytes points) (hpm : 0 ≤ permille ∧ permille ≤ 65535) : law03_GaugeMirrored 60 numbers errors points permille = some true := by
  have z0 : SOk 0 0 0 := ⟨by omega, by omega, by omega, by omega⟩
  obtain ⟨r, n, u1, m1, e1, hr, n1, n2, -⟩ := section_spec (N := 60) (by omega) hn z0 (by omega) (most := 10) (by omega)
  obtain ⟨g, u2, m2, e2, hg, -, -, -, -, -⟩ := gauged_spec (N := 60) (by omega) he z0 (by omega) hr n1 (by omega)
  obtain ⟨s, u3, m3, e3, hs⟩ := sited_spec (N := 60) (by omega) hp z0 (by omega)
  have hgn := hg.n'
  have hsn := hs.n
  have hpp : 0 ≤ (W permille).tmod 1001 ∧ (W permille).tmod 1001 ≤ 1000 := by
    rw [W_id (by omega) (by omega), tmod_mod (by omega)]
    omega
  have hcg : law03_CopyGauging 60 g = some g := by unfold law03_CopyGauging kit_Copy_gauge_Vertical; rw [room_ok (by omega)]; rfl
  have hcs : law03_CopySite 60 s = some s := by unfold law03_CopySite kit_Copy_gauge_Point; rw [room_ok (by omega)]; rfl
  have hf1 := flow_spec (N := 60) (by omega) hg
  have hf2 : gauge_Flow 60 ⟨g.Left, g.Right, (mirG g).Verticals⟩ = _ := mir_flow (N := 60) (by omega) hg
  have hh1 := heavy_eq (N := 60) (by omega) hg hpp
  have hh2 : gauge_Heavy 60 ⟨g.Left, g.Right, (mirG g).Verticals⟩ ((W permille).tmod 1001) = _ := heavy_eq (N := 60) (by omega) (mir_ok hg) hpp
  have hpl : (pans g).length = g.Verticals.length := pans_len
  rw [mir_len, mir_pans] at hh2
  have hv1 := hvK_rev (mine := (·.Hi)) (oth := (·.Lo)) (l := pans g) (p := (W permille).tmod 1001)
  have hv2 := hvK_rev (mine := (·.Lo)) (oth := (·.Hi)) (l := pans g) (p := (W permille).tmod 1001)
  rw [hpl] at hv1 hv2
  rw [hv1, hv2] at hh2
  have h22 := loop22 (N := 60) (g := g) (can := hvK (·.Hi) (·.Lo) (pans g) ((W permille).tmod 1001) g.Verticals.length) (sure := hvK (·.Lo) (·.Hi) (pans g) ((W permille).tmod 1001) g.Verticals.length) hgn (Nat.le_trans hvK_len hgn) (fun x hx => by have := hvK_mem x hx; omega) (by omega) (q := (u2, m2)) (z := 0)
  obtain ⟨o1, c1, k1, ep1, hp1⟩ := plan_spec (N := 60) (by omega) hs
  obtain ⟨o2, c2, k2, ep2, hp2⟩ := plan_spec (N := 60) (by omega) (mirS_ok hs)
  have ep2' : gauge_Plan 60 ⟨s.Left, s.Right, s.Gap, s.Step_, (mirS s).Points⟩ = some (o2, c2, k2) := ep2
  rw [mirS_len] at hp2
  have hfin : k1 = k2 ∧ c1 = c2 ∧ o1.length = o2.length := by
    have back : ∀ c p, Pth (mirS s) 0 (s.Points.length + 1) c p → Pth s 0 (s.Points.length + 1) c p := fun c p w => by
      have := mir_way (s := mirS s) (c := c) (p := p) (by rw [mirS_len]; exact w)
      rwa [mirS_mirS, mirS_len] at this
    rcases hp1 with ⟨rfl, rfl, q1, q2⟩ | ⟨rfl, hB⟩
    · rcases hp2 with ⟨rfl, rfl, q3, q4⟩ | ⟨rfl, hB2⟩
      · exact ⟨rfl, rfl, by omega⟩
      · have w := hB2.w
        rw [mirS_len] at w
        exact absurd (back _ _ w) (q2 _ _)
    · rcases hp2 with ⟨rfl, rfl, q3, q4⟩ | ⟨rfl, hB2⟩
      · exact absurd (mir_way hB.w) (q4 _ _)
      · have w := hB2.w
        have hle2 := hB2.le
        rw [mirS_len] at w hle2
        have l1 := hB.le _ _ (back _ _ w)
        have l2 := hle2 _ _ (mir_way hB.w)
        unfold lexle at l1 l2
        exact ⟨rfl, by omega, by omega⟩
  obtain ⟨rfl, rfl, hol⟩ := hfin
  unfold law03_GaugeMirrored kit_New
  simp only [Option.bind_some, e1, e2, e3, hcg, hcs]
  rw [rev_v (by omega) (by omega), Option.bind_some, rev_p (by omega) (by omega), Option.bind_some, loop9 (by omega) hg, Option.bind_some]
  simp only [exK]
  rw [loop12 (by omega) hs, Option.bind_some]
  simp only [exK]
  rw [hf1, Option.bind_some, hf2, Option.bind_some, hh1, Option.bind_some, hh2, Option.bind_some]
  dsimp only
  simp only [List.length_map, List.length_reverse, bne_self_eq_false, beq_self_eq_true, Bool.and_self, Bool.not_true, Bool.or_self, cond_false]
  rw [h22, Option.bind_some]
  simp only [exK]
  rw [ep1, Option.bind_some, ep2', Option.bind_some]
  dsimp only
  rw [hol]
  simp only [beq_self_eq_true, Bool.and_self, cond_true, awake_true, Option.bind_some]
end Go.Nilo
