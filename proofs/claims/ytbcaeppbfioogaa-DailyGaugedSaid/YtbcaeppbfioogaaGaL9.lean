/-
  What the plain functions compute, in plain arithmetic, part 9. Conditions: what each theorem names.
-/
import Derived.Test.YtbcaeppbfioogaaGaL8
set_option linter.unusedSimpArgs false
set_option linter.unusedVariables false
namespace Go.Nilo
theorem SOk.mono {u m : Int} {k k' : Nat} (h : SOk u m k) (hk : k ≤ k') : SOk u m k' := ⟨h.u0, by have := h.u1; omega, h.m0, h.m1⟩
theorem wd_bd2 {g : gauge_Gauging} (h : GOk g) {i : Nat} (hi : i < g.Verticals.length) : wd g i ≤ g.Right - g.Left := by
  have hv := h.v g.Verticals[i] (List.getElem_mem _)
  have a := hv.a
  have b := hv.b
  unfold wd
  split
  · rename_i h1
    have hv1 := h.v g.Verticals[i + 1] (List.getElem_mem _)
    have a1 := hv1.a
    have b1 := hv1.b
    split
    · rename_i h2
      have hv2 := h.v (g.Verticals[i - 1]'h2.2) (List.getElem_mem _)
      have a2 := hv2.a
      have b2 := hv2.b
      omega
    · omega
  · split
    · rename_i h2
      have hv2 := h.v (g.Verticals[i - 1]'h2.2) (List.getElem_mem _)
      have a2 := hv2.a
      have b2 := hv2.b
      omega
    · omega
theorem pan_hi {w : Int} {v : gauge_Vertical} (hw : 0 ≤ w ∧ w ≤ 450) (hd : 0 ≤ v.Depth.Lo ∧ v.Depth.Lo ≤ v.Depth.Hi ∧ v.Depth.Hi ≤ 308) (hs : -420 ≤ v.Speed.Lo ∧ v.Speed.Lo ≤ v.Speed.Hi ∧ v.Speed.Hi ≤ 420) : (pan v w).Hi ≤ 58212000 := by
  have h1 := mn_le (a := ⟨w, w⟩) (b := v.Depth) (A := 450) (B := 308) ⟨Int.le_refl _, by dsimp only; omega, by dsimp only; omega⟩ ⟨hd.2.1, by omega, by omega⟩
  have s1 : Spn ⟨mn ⟨w, w⟩ v.Depth, mx ⟨w, w⟩ v.Depth⟩ 138600 := ⟨h1.2.2, h1.1, h1.2.1⟩
  have h2 := mn_le (b := v.Speed) (B := 420) s1 ⟨hs.2.1, by omega, by omega⟩
  unfold pan
  dsimp only
  omega
theorem sum_le {α : Type} {f : α → Int} {B : Int} : ∀ (l : List α), (∀ x ∈ l, f x ≤ B) → sumBy f l ≤ (l.length : Int) * B
  | [], _ => by simp [sumBy]
  | x :: l, h => by
    have h1 := sum_le l fun y hy => h y (List.mem_cons_of_mem _ hy)
    have h2 := h x List.mem_cons_self
    have e : sumBy f (x :: l) = f x + sumBy f l := by simp [sumBy]
    rw [e, List.length_cons]
    push_cast
    rw [Int.add_mul]
    omega
/-- What is read better: speeds. -/
theorem b35_loop {N : Nat} (hN : 60 ≤ N) {g : gauge_Gauging} (h : GOk g) {ds sp : List Int} (ht : TrueOf g ds sp) {better : List Int} (hb : Bytes better) {u m : Int} {k : Nat} (hs : SOk u m k) (hk : k ≤ 10000) :
    ∃ xs i u' m', loopO (fun s35 : Int × Int × Int × List gauge_Vertical => law07_DailyGauged_b35 N better sp g s35.1 s35.2.1 s35.2.2.1 s35.2.2.2) N (0, u, m, g.Verticals) = some (.go (i, u', m', xs)) ∧ FInv g.Verticals xs ∧ TrueOf ⟨g.Left, g.Right, xs⟩ ds sp ∧ SOk u' m' (k + 30) := by
  have hn' := h.n'
  have hd0 : ∀ j, j < g.Verticals.length → In (ds.getD j 0) (g.Verticals.getD j v0).Depth := fun j hj => by
    rw [← get_getD hj]
    exact ht.d j hj
  have hs0 : ∀ j, j < g.Verticals.length → In (sp.getD j 0) (g.Verticals.getD j v0).Speed := fun j hj => by
    rw [← get_getD hj]
    exact ht.s j hj
  obtain ⟨⟨x, u', m', xs⟩, h1, hx, hI, hT, hS⟩ := loopInv (fun s35 : Int × Int × Int × List gauge_Vertical => law07_DailyGauged_b35 N better sp g s35.1 s35.2.1 s35.2.2.1 s35.2.2.2)
    (fun i s => s.1 = (i : Int) ∧ FInv g.Verticals s.2.2.2 ∧ (∀ j, j < g.Verticals.length → In (ds.getD j 0) (s.2.2.2.getD j v0).Depth ∧ In (sp.getD j 0) (s.2.2.2.getD j v0).Speed) ∧ SOk s.2.1 s.2.2.1 (k + i)) g.Verticals.length
    (by
      rintro i ⟨x, v, w, xs⟩ hi ⟨rfl, hI, hT, hS⟩
      dsimp only at hI hT hS ⊢
      obtain ⟨a, u1, m1, e1, a0, a1, s1⟩ := next_spec (N := N) hb (n := 2) hS (by omega)
      have hl := hI.l
      cases ha : (a == 0) with
      | true =>
        refine ⟨(((i + 1 : Nat) : Int), u1, m1, xs.set i ⟨(xs.getD i v0).At, (xs.getD i v0).Depth, ⟨sp.getD i 0, sp.getD i 0⟩⟩), ?_, rfl, ?_, ?_, s1⟩
        · unfold law07_DailyGauged_b35 law07_DailyGauged_j56
          rw [lt_dec hi, cond_true, e1, Option.bind_some, ha, cond_true, getI_getD (by rw [ht.sl]; exact hi), Option.bind_some, Option.bind_some, show law07_span N (sp.getD i 0) (sp.getD i 0) = some ⟨sp.getD i 0, sp.getD i 0⟩ from rfl, Option.bind_some, getI_d v0 (by omega), Option.bind_some, W_succ (by omega), Int.toNat_natCast]
        · exact hI.set hi (hI.v i hi).1 (hI.v i hi).2.1 ⟨(hs0 i hi).1, Int.le_refl _, (hs0 i hi).2⟩
        · intro j hj
          rw [getD_set (by omega)]
          split
          · rename_i e
            subst e
            exact ⟨(hT j hj).1, ⟨Int.le_refl _, Int.le_refl _⟩⟩
          · exact hT j hj
      | false =>
        refine ⟨(((i + 1 : Nat) : Int), u1, m1, xs), ?_, rfl, hI, hT, s1⟩
        unfold law07_DailyGauged_b35 law07_DailyGauged_j56
        rw [lt_dec hi, cond_true, e1, Option.bind_some, ha, cond_false, W_succ (by omega)])
    (by
      rintro ⟨x, v, w, xs⟩ ⟨rfl, -⟩
      dsimp only
      unfold law07_DailyGauged_b35
      rw [ge_dec, cond_false])
    g.Verticals.length 0 (0, u, m, g.Verticals) N (by omega) (by omega) ⟨rfl, ⟨rfl, fun j hj => by
      have hv := h.v (g.Verticals.getD j v0) (by rw [← get_getD hj]; exact List.getElem_mem _)
      exact ⟨rfl, Sub.refl hv.d.le, Sub.refl hv.s.le⟩⟩, fun j hj => ⟨hd0 j hj, hs0 j hj⟩, hs⟩
  dsimp only at hI hT hS
  have hl := hI.l
  refine ⟨xs, x, u', m', h1, hI, ⟨by rw [ht.dl]; exact hl.symm, by rw [ht.sl]; exact hl.symm, fun i hi => ?_, fun i hi => ?_⟩, hS.mono (by omega)⟩
  · have hi' : i < xs.length := hi
    show In (ds.getD i 0) (xs[i]).Depth
    rw [get_getD (d := v0)]
    exact (hT i (by omega)).1
  · have hi' : i < xs.length := hi
    show In (sp.getD i 0) (xs[i]).Speed
    rw [get_getD (d := v0)]
    exact (hT i (by omega)).2
/-- Speeds that are none below 0. -/
theorem b30_loop {N : Nat} (hN : 60 ≤ N) {r : law03_River × Int × Int} {S : Nat → Int} {n : Nat} (hn : n ≤ 50) (hS : r.1.Speeds = rl n S) :
    loopO (fun s30 : Int × List Int => law07_DailyGauged_b30 N r s30.1 s30.2) N (0, r.1.Speeds) = some (.go ((n : Int), rl n fun j => max 0 (S j))) := by
  have := runS (fun i : Nat => ((i : Int), rl n fun j => if j < i then max 0 (S j) else S j)) n (fun s30 : Int × List Int => law07_DailyGauged_b30 N r s30.1 s30.2) (fun i hi => by
    show law07_DailyGauged_b30 N r (i : Int) (rl n fun j => if j < i then max 0 (S j) else S j) = _
    unfold law07_DailyGauged_b30
    rw [hS, rl_len, lt_dec hi, cond_true, rl_get hi, Option.bind_some, Option.bind_some, if_neg (by omega), W_succ (by omega), Int.toNat_natCast, rl_set]
    congr 3
    refine rl_congr fun j hj => ?_
    by_cases e : i = j
    · subst e
      rw [if_pos rfl, if_pos (by omega)]
    · rw [if_neg e]
      by_cases h : j < i
      · rw [if_pos h, if_pos (by omega)]
      · rw [if_neg h, if_neg (by omega)]) (by
    show law07_DailyGauged_b30 N r (n : Int) _ = _
    unfold law07_DailyGauged_b30
    rw [hS, rl_len, ge_dec, cond_false]) (N := N) (by omega)
  have e0 : (rl n fun j => if j < 0 then max 0 (S j) else S j) = r.1.Speeds := by
    rw [hS]
    exact rl_congr fun j hj => if_neg (by omega)
  have e1 : (rl n fun j => if j < n then max 0 (S j) else S j) = rl n fun j => max 0 (S j) := rl_congr fun j hj => if_pos hj
  rw [e0, e1] at this
  exact this
/-- One gauging: the true flow, what is known of it, and what is known better. -/
theorem one_gauging {N : Nat} (hN : 60 ≤ N) {numbers errors better : List Int} (hn : Bytes numbers) (he : Bytes errors) (hb : Bytes better) {u1 m1 u2 m2 u3 m3 : Int} {k1 k2 k3 : Nat} (s1 : SOk u1 m1 k1) (s2 : SOk u2 m2 k2) (s3 : SOk u3 m3 k3) (h1 : k1 ≤ 5000) (h2 : k2 ≤ 5000) (h3 : k3 ≤ 5000) :
    ∃ (r : law03_River) (u1' m1' z : Int) (sp : List Int) (g : gauge_Gauging) (u2' m2' i u3' m3' : Int) (xs : List gauge_Vertical) (fl : Int) (a b : api_Span),
      law03_Section N ⟨numbers, u1, m1⟩ 4 = some (r, u1', m1') ∧ loopO (fun s30 : Int × List Int => law07_DailyGauged_b30 N (r, u1', m1') s30.1 s30.2) N (0, r.Speeds) = some (.go (z, sp)) ∧
      law03_Gauged N ⟨errors, u2, m2⟩ ⟨r.Left, r.Right, r.At, r.Depth, sp⟩ = some (g, u2', m2') ∧ law03_CopyGauging N g = some g ∧
      loopO (fun s35 : Int × Int × Int × List gauge_Vertical => law07_DailyGauged_b35 N better sp g s35.1 s35.2.1 s35.2.2.1 s35.2.2.2) N (0, u3, m3, g.Verticals) = some (.go (i, u3', m3', xs)) ∧
      gauge_Real N g r.Depth sp = some (fl, 0) ∧ gauge_Flow N g = some (a, 0) ∧ gauge_Flow N ⟨g.Left, g.Right, xs⟩ = some (b, 0) ∧
      0 ≤ fl ∧ a.Lo ≤ b.Lo ∧ b.Lo ≤ fl ∧ fl ≤ b.Hi ∧ b.Hi ≤ a.Hi ∧ a.Hi ≤ 1000000000 ∧ SOk u1' m1' (k1 + 100) ∧ SOk u2' m2' (k2 + 100) ∧ SOk u3' m3' (k3 + 30) := by
  obtain ⟨r, n, u1', m1', e1, hr, n1, n4, t1⟩ := section_spec hN hn s1 (by omega) (most := 4) (by omega)
  have hS : r.Speeds = rl n fun j => r.Speeds.getD j 0 := rl_of hr.sl
  have e2 := b30_loop hN (r := (r, u1', m1')) (n := n) (by omega) hS
  generalize hsp : (rl n fun j => max 0 (r.Speeds.getD j 0)) = sp at e2
  have spl : sp.length = n := by rw [← hsp]; exact rl_len
  have spg : ∀ j, j < n → sp.getD j 0 = max 0 (r.Speeds.getD j 0) := fun j hj => by rw [← hsp]; exact rl_getD hj
  have hr' : RvOk ⟨r.Left, r.Right, r.At, r.Depth, sp⟩ n := ⟨hr.al, hr.dl, spl, hr.l0, hr.r1, hr.w, hr.a, hr.up, hr.d, fun j hj => by
    have := hr.s j hj
    show -40 ≤ sp.getD j 0 ∧ sp.getD j 0 ≤ 400
    rw [spg j hj]
    omega⟩
  obtain ⟨g, u2', m2', e3, hg, gl, gr, hV, hT, t2⟩ := gauged_spec hN he s2 (by omega) hr' n1 (by omega)
  have hT' : TrueOf g r.Depth sp := hT
  have gn : g.Verticals.length = n := hV.l
  have e4 : law03_CopyGauging N g = some g := by
    unfold law03_CopyGauging kit_Copy_gauge_Vertical
    rw [room_ok (by omega)]
    rfl
  obtain ⟨xs, i, u3', m3', e5, hF, hX, t3⟩ := b35_loop hN hg hT' hb s3 (by omega)
  have e6 := real_spec (N := N) (by omega) hg hT'
  have e7 := flow_spec (N := N) (by omega) hg
  have hgx := fine_ok hg hF
  have e8 := flow_spec (N := N) (by omega) hgx
  have f1 := flow_sub hF
  have f2 := real_in_flow hX
  have hxl : xs.length = g.Verticals.length := hF.l
  have hreal : realSum ⟨g.Left, g.Right, xs⟩ r.Depth sp xs.length = realSum g r.Depth sp g.Verticals.length := by
    unfold realSum
    rw [hxl]
    refine sumBy_congr fun j hj => ?_
    unfold realAt
    rw [fine_wd hF (List.mem_range.1 hj)]
  have f3 : 0 ≤ realSum g r.Depth sp g.Verticals.length := by
    unfold realSum
    have : sumBy (fun _ => (0 : Int)) (List.range g.Verticals.length) ≤ sumBy (realAt g r.Depth sp) (List.range g.Verticals.length) := sumBy_le fun j hj => by
      have hj' := List.mem_range.1 hj
      have hw := wd_bd hg hj'
      have hd := hr.d j (by omega)
      unfold realAt
      rw [spg j (by omega)]
      exact Int.mul_nonneg (Int.mul_nonneg hw.1 hd.1) (by omega)
    have e : sumBy (fun _ => (0 : Int)) (List.range g.Verticals.length) = 0 := by
      unfold sumBy
      generalize List.range g.Verticals.length = l
      induction l with
      | nil => rfl
      | cons x l ih => simpa using ih
    omega
  have f4 : sumBy (·.Hi) (pans g) ≤ 1000000000 := by
    have : sumBy (·.Hi) (pans g) ≤ ((pans g).length : Int) * 58212000 := sum_le _ fun s hs => by
      unfold pans at hs
      obtain ⟨j, hj, rfl⟩ := List.mem_map.1 hs
      have hj' := List.mem_range.1 hj
      have hw := wd_bd hg hj'
      have hw2 := wd_bd2 hg hj'
      have hrw := hr.w
      have hv := hg.v (g.Verticals.getD j v0) (by rw [← get_getD hj']; exact List.getElem_mem _)
      obtain ⟨-, -, -, p4, -, -, -, p8, p9, p10⟩ := hV.v j (by omega)
      have q1 := hv.d.le
      have q2 := hv.s.le
      have g1 : g.Left = r.Left := gl
      have g2 : g.Right = r.Right := gr
      exact pan_hi ⟨hw.1, by omega⟩ ⟨p4, q1, p8⟩ ⟨p9, q2, p10⟩
    rw [pans_len] at this
    omega
  refine ⟨r, u1', m1', (n : Int), sp, g, u2', m2', i, u3', m3', xs, _, _, _, e1, e2, e3, e4, e5, e6, e7, e8, f3, f1.1, ?_, ?_, f1.2, f4, t1, t2, t3⟩
  · have := f2.1
    rw [hreal] at this
    exact this
  · have := f2.2
    rw [hreal] at this
    exact this
end Go.Nilo
