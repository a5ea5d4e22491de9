/-
  What the plain functions compute, in plain arithmetic, part 6. Conditions: what each theorem names.
-/
import Derived.Test.YtbgjmnbgilddgaaTrL5
set_option linter.unusedSimpArgs false
set_option linter.unusedVariables false
namespace Go.Nilo
theorem gather_loop {N : Nat} (hN : 60 ≤ N) {r8 : List Int × Int × Int} {rough : List gauge_Leg} (hl : rough.length ≤ 12) (hr : r8.1.length ≤ 12) (hm : ∀ x ∈ r8.1, 0 ≤ x ∧ x < rough.length) :
    loopO (fun s18 => law03_GaugeTrack_b18 N r8 s18.1 s18.2.1 s18.2.2.1 s18.2.2.2) N (rough, ([] : List gauge_Leg), r8.1, 0) = some (.go (rough, r8.1.map (fun i => rough.getD i.toNat (ptLeg 0 0 0 0 0)), r8.1, (r8.1.length : Int))) := by
  obtain ⟨⟨a, b, c, i⟩, h1, rfl, rfl, rfl, h2⟩ := loopInv (fun s18 => law03_GaugeTrack_b18 N r8 s18.1 s18.2.1 s18.2.2.1 s18.2.2.2)
    (fun i s => s.1 = rough ∧ s.2.2.1 = r8.1 ∧ s.2.2.2 = (i : Int) ∧ s.2.1 = (r8.1.take i).map (fun i => rough.getD i.toNat (ptLeg 0 0 0 0 0))) r8.1.length
    (by
      rintro i ⟨a, b, c, j⟩ hi ⟨rfl, rfl, rfl, h2⟩
      dsimp only at h2 hl hm ⊢
      have hx := hm r8.1[i] (List.getElem_mem _)
      have hlt : decide ((i : Int) < ((r8.1.length : Nat) : Int)) = true := by simp; omega
      have hg : getI a r8.1[i] = some (a.getD r8.1[i].toNat (ptLeg 0 0 0 0 0)) := by
        unfold getI
        rw [if_pos hx.1, List.getElem?_eq_getElem (by omega)]
        simp [List.getD, List.getElem?_eq_getElem (show r8.1[i].toNat < a.length by omega)]
      have hle : (b ++ [a.getD r8.1[i].toNat (ptLeg 0 0 0 0 0)]).length ≤ 1000000 := by
        rw [h2]; simp; omega
      refine ⟨(a, b ++ [a.getD r8.1[i].toNat (ptLeg 0 0 0 0 0)], r8.1, ((i + 1 : Nat) : Int)), ?_, rfl, rfl, rfl, ?_⟩
      · unfold law03_GaugeTrack_b18
        rw [hlt, getI_nat hi, W_succ (by omega)]
        simp only [cond_true, Option.bind_some, hg]
        rw [room_ok hle]
        rfl
      · dsimp only
        rw [h2, List.take_succ_eq_append_getElem hi, List.map_append]
        rfl)
    (by
      rintro ⟨a, b, c, j⟩ ⟨rfl, rfl, rfl, h2⟩
      dsimp only
      unfold law03_GaugeTrack_b18
      simp)
    r8.1.length 0 (rough, [], r8.1, 0) N (by omega) (by omega) ⟨rfl, rfl, rfl, rfl⟩
  dsimp only at h2
  rw [h1, h2, List.take_length]

theorem track_true {numbers errors : List Int} (hn : Bytes numbers) (he : Bytes errors) : law03_GaugeTrack 60 numbers errors = some true := by
  have s0 : SOk 0 0 0 := ⟨by omega, by omega, by omega, by omega⟩
  obtain ⟨d, u1, m1, e1, d0, d1, s1⟩ := next_spec (N := 60) hn (n := 300) s0 (by omega)
  obtain ⟨e, u2, m2, e2, a2, b2, s2⟩ := within_spec (N := 60) hn (lo := -300) (hi := 300) s1 (by omega) (by omega) (by omega) (by omega)
  obtain ⟨n, u3, m3, e3, a3, b3, s3⟩ := within_spec (N := 60) hn (lo := -300) (hi := 300) s2 (by omega) (by omega) (by omega) (by omega)
  obtain ⟨many', u4, m4, e4, a4, b4, s4⟩ := within_spec (N := 60) hn (lo := 2) (hi := 12) s3 (by omega) (by omega) (by omega) (by omega)
  obtain ⟨many, rfl⟩ : ∃ k : Nat, many' = (k : Int) := ⟨many'.toNat, by omega⟩
  obtain ⟨x, y, just, rough, v1, w1, v2, w2, hloop, hI, hS⟩ := track_loop (N := 60) (by omega) hn he (r2 := (d, u1, m1)) (r3 := (e, u2, m2)) (r4 := (n, u3, m3)) (r5 := ((many : Int), u4, m4)) ⟨d0, by omega⟩ ⟨a2, b2⟩ ⟨a3, b3⟩ (many := many) rfl (by omega) s4 s0 (by omega) (by omega)
  obtain ⟨jl, rl, -, -, pt, ok, sl, sh, rlo, rhi, fin⟩ := hI
  dsimp only at pt sl sh rlo rhi
  obtain ⟨rfl, rfl⟩ := fin rfl
  have z0 : d * (e * 0 - n * 0) = 0 := by simp
  rw [z0] at sl sh rlo rhi
  have jok : ∀ g ∈ just, LegOk g := by
    intro g hg
    obtain ⟨dx, dy, rfl, h1, h2⟩ := pt g hg
    exact ptOk (by omega) (by omega) (by omega) (by omega) (by omega)
  have cj := cross_spec (N := 60) (by omega) (l := just) (by omega) (by omega) jok
  have cr := cross_spec (N := 60) (by omega) (l := rough) (by omega) (by omega) ok
  obtain ⟨out, v3, w3, e5, hp, s5⟩ := mixed_spec (N := 60) he (n := rough.length) hS (by omega) (by omega)
  have hol : out.length = rough.length := by
    have := hp.length_eq
    simpa [rangeI] using this
  have hg := gather_loop (N := 60) (by omega) (r8 := (out, v3, w3)) (rough := rough) (by omega) (by dsimp only; omega) (fun x hx => by
    have := rangeI_mem (hp.mem_iff.1 hx)
    omega)
  have hpm := perm_of_idx (g0 := ptLeg 0 0 0 0 0) hp
  generalize out.map (fun i => rough.getD i.toNat (ptLeg 0 0 0 0 0)) = mixed at hg hpm
  have mok : ∀ g ∈ mixed, LegOk g := fun g hg => ok g (hpm.mem_iff.1 hg)
  have ml : mixed.length = rough.length := hpm.length_eq
  have cm := cross_spec (N := 60) (by omega) (l := mixed) (by omega) (by omega) mok
  rw [sumBy_perm hpm, sumBy_perm hpm] at cm
  obtain ⟨i, u6, m6, e6, a6, b6, s6⟩ := next_spec (N := 60) he (n := ((just.length : Nat) : Int)) s5 (by omega)
  obtain ⟨i, rfl⟩ : ∃ k : Nat, i = (k : Int) := ⟨i.toNat, by omega⟩
  have hi : i < just.length := by omega
  obtain ⟨dx, dy, hge, hdx, hdy⟩ := pt just[i] (List.getElem_mem _)
  obtain ⟨p, u7, m7, e7, a7, b7, s7⟩ := within_spec (N := 60) he (lo := -40) (hi := 40) s6 (by omega) (by omega) (by omega) (by omega)
  obtain ⟨q, u8, m8, e8, a8, b8, s8⟩ := within_spec (N := 60) he (lo := -40) (hi := 40) s7 (by omega) (by omega) (by omega) (by omega)
  have wp : W (dx - p) = dx - p := W_id (by omega) (by omega)
  have wq : W (dy - q) = dy - q := W_id (by omega) (by omega)
  have o1 : LegOk (ptLeg dx dy d e n) := ptOk (by omega) (by omega) (by omega) (by omega) (by omega)
  have o2 : LegOk (ptLeg p q d e n) := ptOk (by omega) (by omega) (by omega) (by omega) (by omega)
  have o3 : LegOk (ptLeg (dx - p) (dy - q) d e n) := ptOk (by omega) (by omega) (by omega) (by omega) (by omega)
  have c1 := cross_spec (N := 60) (by omega) (l := [ptLeg dx dy d e n]) (by simp) (by simp) (by simpa using o1)
  have c2 := cross_spec (N := 60) (by omega) (l := [ptLeg p q d e n, ptLeg (dx - p) (dy - q) d e n]) (by simp) (by simp) (by
    intro g hg
    simp only [List.mem_cons, List.not_mem_nil, or_false] at hg
    rcases hg with rfl | rfl
    · exact o2
    · exact o3)
  have hsum : d * (e * q - n * p) + d * (e * (dy - q) - n * (dx - p)) = d * (e * dy - n * dx) := by
    have := dist d e n p q (dx - p) (dy - q)
    rw [show q + (dy - q) = dy by omega, show p + (dx - p) = dx by omega] at this
    omega
  have l1 : sumBy legLo [ptLeg dx dy d e n] = d * (e * dy - n * dx) := by simp [sumBy, legLo_pt]
  have l2 : sumBy legHi [ptLeg dx dy d e n] = d * (e * dy - n * dx) := by simp [sumBy, legHi_pt]
  have l3 : sumBy legLo [ptLeg p q d e n, ptLeg (dx - p) (dy - q) d e n] = d * (e * dy - n * dx) := by
    rw [← hsum]; simp [sumBy, legLo_pt]
  have l4 : sumBy legHi [ptLeg p q d e n, ptLeg (dx - p) (dy - q) d e n] = d * (e * dy - n * dx) := by
    rw [← hsum]; simp [sumBy, legHi_pt]
  rw [l1, l2] at c1
  rw [l3, l4] at c2
  unfold law03_GaugeTrack law03_span kit_New
  simp only [Option.bind_some, e1, e2, e3, e4]
  rw [hloop]
  simp only [Option.bind_some, exK, cj, cr, sl, sh]
  have k1 : decide (0 < sumBy legLo rough) = false := by simp; omega
  have k2 : decide (sumBy legHi rough < 0) = false := by simp; omega
  simp only [k1, k2, e5, Option.bind_some, hg, cm, e6, getI_nat hi, e7, e8, hge]
  have w3' : W ((ptLeg dx dy d e n).X.Lo - p) = dx - p := wp
  have w4' : W ((ptLeg dx dy d e n).Y.Lo - q) = dy - q := wq
  rw [w3', w4', c1]
  have c2' : gauge_Cross 60 ([(⟨⟨p, p⟩, ⟨q, q⟩, (ptLeg dx dy d e n).Depth, (ptLeg dx dy d e n).East, (ptLeg dx dy d e n).North⟩ : gauge_Leg), (⟨⟨dx - p, dx - p⟩, ⟨dy - q, dy - q⟩, (ptLeg dx dy d e n).Depth, (ptLeg dx dy d e n).East, (ptLeg dx dy d e n).North⟩ : gauge_Leg)] : List gauge_Leg) = some (⟨d * (e * dy - n * dx), d * (e * dy - n * dx)⟩, 0) := c2
  rw [c2']
  simp [awake_true]
end Go.Nilo
