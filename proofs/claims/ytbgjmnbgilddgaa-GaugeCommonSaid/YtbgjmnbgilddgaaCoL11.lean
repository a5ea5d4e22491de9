/-
  What the plain functions compute, in plain arithmetic, part 11. Conditions: what each theorem names.
-/
import Derived.Test.YtbgjmnbgilddgaaCoL10
set_option linter.unusedSimpArgs false
set_option linter.unusedVariables false
namespace Go.Nilo
/-! ### The loops of the statement -/
theorem sum_bd {f : api_Span → Int} {g : gauge_Gauging} (h : ∀ i, i < g.Verticals.length → (f (panI g i)).natAbs ≤ 100000000000) : ∀ n, n ≤ g.Verticals.length → (sumBy f ((List.range n).map (panI g))).natAbs ≤ 100000000000 * n
  | 0, _ => by simp [sumBy]
  | n + 1, hn => by
    have ih := sum_bd h n (by omega)
    have := h n (by omega)
    rw [List.range_succ, List.map_append, List.map_cons, List.map_nil, sumBy_snoc]
    omega
structure CInv (l : List api_Span) (F : Int) (i : Nat) : Prop where
  n : l.length = i
  f : ∀ j, j < i → (sA l j).Lo ≤ F ∧ F ≤ (sA l j).Hi
  b : ∀ j, j < i → -800000000000 ≤ (sA l j).Lo ∧ (sA l j).Hi ≤ 800000000000
theorem sA_lt {l : List api_Span} {x : api_Span} {j : Nat} (h : j < l.length) : sA (l ++ [x]) j = sA l j := getD_lt h
theorem sA_eq {l : List api_Span} {x : api_Span} : sA (l ++ [x]) l.length = x := getD_eq
theorem CInv.step {l : List api_Span} {F : Int} {i : Nat} {x : api_Span} (h : CInv l F i) (h1 : x.Lo ≤ F ∧ F ≤ x.Hi) (h2 : -800000000000 ≤ x.Lo ∧ x.Hi ≤ 800000000000) : CInv (l ++ [x]) F (i + 1) := by
  obtain ⟨rfl, f, b⟩ := h
  refine ⟨by simp, ?_, ?_⟩
  · intro j hj
    by_cases hji : j < l.length
    · rw [sA_lt hji]; exact f j hji
    · obtain rfl : j = l.length := by omega
      rw [sA_eq]; exact h1
  · intro j hj
    by_cases hji : j < l.length
    · rw [sA_lt hji]; exact b j hji
    · obtain rfl : j = l.length := by omega
      rw [sA_eq]; exact h2
theorem loop7 {N : Nat} (hN : 60 ≤ N) {r : law03_River} {n : Nat} (hr : ROk r n) (h1n : 1 ≤ n) (hn : n ≤ 8) {errors : List Int} (he : Bytes errors) {u m : Int} {k : Nat} (hs : SOk u m k) (hk : k ≤ 1000) {many : Int} (hm : 0 ≤ many ∧ many ≤ 255) {q : Int × Int} :
    ∃ (l : List api_Span) (c : Nat) (u' m' : Int), loopO (fun s7 => law03_GaugeCommon_b7 N errors many (r, q) s7.1 s7.2.1 s7.2.2.1 s7.2.2.2) N (([] : List api_Span), 0, u, m) = some (.go (l, (c : Int), u', m')) ∧ 2 ≤ c ∧ c ≤ 6 ∧ CInv l (flowS r n) c ∧ SOk u' m' (k + 1000) := by
  obtain ⟨c, hc⟩ : ∃ c : Nat, W (2 + ((W many).tmod 5)) = (c : Int) ∧ 2 ≤ c ∧ c ≤ 6 := by
    rw [W_id (n := many) (by omega) (by omega), tmod_mod (by omega), W_id (by omega) (by omega)]
    exact ⟨(2 + many % 5).toNat, by omega, by omega, by omega⟩
  obtain ⟨hc, c1, c2⟩ := hc
  obtain ⟨⟨l, x, u', m'⟩, h1, hI, hx, hS⟩ := loopInv (fun s7 => law03_GaugeCommon_b7 N errors many (r, q) s7.1 s7.2.1 s7.2.2.1 s7.2.2.2)
    (fun i s => CInv s.1 (flowS r n) i ∧ s.2.1 = (i : Int) ∧ SOk s.2.2.1 s.2.2.2 (k + 100 * i)) c
    (by
      rintro i ⟨l, x, u', m'⟩ hi ⟨hI, rfl, hS⟩
      dsimp only at hS hI ⊢
      obtain ⟨g, u1, m1, e1, hg, hl, hrr, hV, hT, s1⟩ := gauged_spec hN he hS (by omega) hr h1n (by omega)
      have hf := flow_spec (N := N) (by omega) hg
      have hin := real_in hT n (by rw [hV.l]; exact Nat.le_refl _)
      have hlen := hV.l
      have hrf := real_flow hr hl hrr hV n (Nat.le_refl _)
      rw [hrf] at hin
      have hb1 := sum_bd (f := (·.Lo)) (g := g) (fun i hi => (panI_bd hg hi).lo) n (by omega)
      have hb2 := sum_bd (f := (·.Hi)) (g := g) (fun i hi => (panI_bd hg hi).hi) n (by omega)
      have hp : pans g = (List.range n).map (panI g) := by unfold pans; rw [hlen]
      rw [hp] at hf
      refine ⟨(l ++ [⟨sumBy (·.Lo) ((List.range n).map (panI g)), sumBy (·.Hi) ((List.range n).map (panI g))⟩], ((i + 1 : Nat) : Int), u1, m1), ?_, hI.step hin (by dsimp only; omega), rfl, s1⟩
      unfold law03_GaugeCommon_b7
      rw [hc, lt_dec hi, cond_true, e1, Option.bind_some, hf, Option.bind_some, show ((0 : Int) != 0) = false from rfl, cond_false, room_ok (by simp [hI.n]; omega), Option.bind_some, W_succ (by omega)])
    (by
      rintro ⟨l, x, u', m'⟩ ⟨-, rfl, -⟩
      dsimp only
      unfold law03_GaugeCommon_b7
      rw [hc, ge_dec, cond_false])
    c 0 ([], 0, u, m) N (by omega) (by omega) ⟨⟨rfl, by intro j hj; omega, by intro j hj; omega⟩, rfl, hs⟩
  dsimp only at hI hx hS
  subst hx
  exact ⟨l, c, u', m', h1, c1, c2, hI, ⟨hS.u0, by have := hS.u1; omega, hS.m0, hS.m1⟩⟩
theorem loop11 {N : Nat} (hN : 60 ≤ N) {r : law03_River} {n : Nat} (hr : ROk r n) (hn : n ≤ 8) {q : Int × Int} :
    loopO (fun s11 => law03_GaugeCommon_b11 N (r, q) s11.1 s11.2.1 s11.2.2.1 s11.2.2.2.1 s11.2.2.2.2) N (0, r.At, 0, r.Depth, r.Speeds) = some (.go (flowS r n, r.At, (n : Int), r.Depth, r.Speeds)) := by
  have hal := hr.al
  have hdl := hr.dl
  have hsl := hr.sl
  refine runS (ρ := Bool) (fun i : Nat => (flowS r i, r.At, (i : Int), r.Depth, r.Speeds)) n (fun s11 => law03_GaugeCommon_b11 N (r, q) s11.1 s11.2.1 s11.2.2.1 s11.2.2.2.1 s11.2.2.2.2) (fun i hi => ?_) ?_ (N := N) (by omega)
  · show law03_GaugeCommon_b11 N (r, q) (flowS r i) r.At (i : Int) r.Depth r.Speeds = _
    have ha := hr.a i hi
    have h0 := hr.l0
    have h1 := hr.r1
    have hb := flow_bd hr i (by omega)
    have hb1 := flow_bd hr (i + 1) (by omega)
    have hw := rw_bd hr hi
    have hd := hr.d i hi
    have hs := hr.s i hi
    have m1 := absmul (x := rw' r i) (y := r.Depth.getD i 0) (A := 10000) (B := 299) (by omega) (by omega)
    have m2 := absmul (x := rw' r i * r.Depth.getD i 0) (y := r.Speeds.getD i 0) (A := 10000 * 299) (B := 400) m1 (by omega)
    have key : ∀ left right : Int, left < r.At.getD i 0 → r.At.getD i 0 < right → right - left = rw' r i → 0 ≤ left → right ≤ 10000 → law03_GaugeCommon_j45 N (flowS r i) r.At (i : Int) r.Depth r.Speeds (r.At.getD i 0) left right = some (.cont (flowS r (i + 1), r.At, ((i + 1 : Nat) : Int), r.Depth, r.Speeds)) := by
      intro left right h2 h3 h4 h5 h6
      unfold law03_GaugeCommon_j45
      rw [decide_eq_false (show ¬ r.At.getD i 0 ≤ left by omega), decide_eq_false (show ¬ right ≤ r.At.getD i 0 by omega), Bool.or_false, cond_false, getI_getD (by omega), Option.bind_some, getI_getD (by omega), Option.bind_some, W_succ (by omega), W_id (n := right - left) (by omega) (by omega), h4, W_id (n := rw' r i * _) (by omega) (by omega), W_id (n := rw' r i * _ * _) (by omega) (by omega)]
      rw [flowS] at hb1 ⊢
      rw [W_id (by omega) (by omega)]
    have hat : ∀ left : Int, left < r.At.getD i 0 → left = (if 0 < i then r.At.getD (i - 1) 0 else r.Left) → 0 ≤ left → law03_GaugeCommon_j44 N (r, q) (flowS r i) r.At (i : Int) r.Depth r.Speeds (r.At.getD i 0) left = some (.cont (flowS r (i + 1), r.At, ((i + 1 : Nat) : Int), r.Depth, r.Speeds)) := by
      intro left h2 h3 h4
      unfold law03_GaugeCommon_j44
      rw [W_succ (by omega)]
      by_cases hl : i + 1 < n
      · have hu := hr.up i hl
        have ha1 := hr.a (i + 1) hl
        rw [show ((r.At.length : Nat) : Int) = (n : Int) by omega, lt_dec hl, cond_true, getI_getD (by omega), Option.bind_some]
        refine key _ _ h2 hu ?_ h4 (by omega)
        unfold rw'
        rw [hal, if_pos hl, ← h3]
      · obtain rfl : n = i + 1 := by omega
        rw [show ((r.At.length : Nat) : Int) = ((i + 1 : Nat) : Int) by omega, ge_dec, cond_false]
        refine key _ _ h2 ha.2 ?_ h4 h1
        unfold rw'
        rw [hal, if_neg hl, ← h3]
    unfold law03_GaugeCommon_b11
    rw [show ((r.At.length : Nat) : Int) = (n : Int) by omega, lt_dec hi, cond_true, getI_getD (by omega), Option.bind_some]
    by_cases hz : 0 < i
    · have hu := hr.up (i - 1) (by omega)
      have ha2 := hr.a (i - 1) (by omega)
      rw [show i - 1 + 1 = i by omega] at hu
      rw [decide_eq_true (show (0 : Int) < (i : Int) by omega), cond_true, W_id (by omega) (by omega), show (i : Int) - 1 = ((i - 1 : Nat) : Int) by omega, getI_getD (by omega), Option.bind_some]
      exact hat _ hu (by rw [if_pos hz]) (by omega)
    · rw [decide_eq_false (show ¬ (0 : Int) < (i : Int) by omega), cond_false]
      exact hat _ ha.1 (by rw [if_neg hz]) h0
  · show law03_GaugeCommon_b11 N (r, q) (flowS r n) r.At (n : Int) r.Depth r.Speeds = _
    unfold law03_GaugeCommon_b11
    rw [show ((r.At.length : Nat) : Int) = (n : Int) by omega, ge_dec, cond_false]
theorem loop19 {N : Nat} {l : List api_Span} (h : l.length < N) (hl : l.length ≤ 100) {z : Int} : loopO (fun s19 => law03_GaugeCommon_b19 N l (⟨comL l l.length, comH l l.length⟩, z) s19.1 s19.2) N (l, 0) = some (.go (l, (l.length : Int))) := by
  refine runS (ρ := Bool) (fun i : Nat => (l, (i : Int))) l.length (fun s19 => law03_GaugeCommon_b19 N l (⟨comL l l.length, comH l l.length⟩, z) s19.1 s19.2) (fun i hi => ?_) ?_ (N := N) h
  · show law03_GaugeCommon_b19 N l (⟨comL l l.length, comH l l.length⟩, z) l (i : Int) = _
    have := com_in (l := l) l.length i hi
    unfold law03_GaugeCommon_b19
    rw [lt_dec hi, cond_true, getI_sA hi, Option.bind_some, decide_eq_false (by dsimp only; omega), decide_eq_false (by dsimp only; omega), Bool.or_false, cond_false, W_succ (by omega)]
  · show law03_GaugeCommon_b19 N l (⟨comL l l.length, comH l l.length⟩, z) l (l.length : Int) = _
    unfold law03_GaugeCommon_b19
    rw [ge_dec, cond_false]
theorem loop23 {N : Nat} {l : List api_Span} (h : l.length < N) (hl : l.length ≤ 100) : loopO (fun s23 => law03_GaugeCommon_b23 N l s23.1 s23.2) N ((sA l 0).Hi, 0) = some (.go (mostF l l.length, (l.length : Int))) := by
  refine runS (ρ := Bool) (fun i : Nat => (mostF l i, (i : Int))) l.length (fun s23 => law03_GaugeCommon_b23 N l s23.1 s23.2) (fun i hi => ?_) ?_ (N := N) h
  · show law03_GaugeCommon_b23 N l (mostF l i) (i : Int) = _
    unfold law03_GaugeCommon_b23
    rw [lt_dec hi, cond_true, getI_sA hi, Option.bind_some, W_succ (by omega)]
    rfl
  · show law03_GaugeCommon_b23 N l (mostF l l.length) (l.length : Int) = _
    unfold law03_GaugeCommon_b23
    rw [ge_dec, cond_false]

theorem common_true {numbers errors : List Int} {many more : Int} (hn : Bytes numbers) (he : Bytes errors) (hm : 0 ≤ many ∧ many ≤ 255) (hmo : 0 ≤ more ∧ more ≤ 255) : law03_GaugeCommon 60 numbers errors many more = some true := by
  have z0 : SOk 0 0 0 := ⟨by omega, by omega, by omega, by omega⟩
  obtain ⟨r, n, u1, m1, e1, hr, n1, n2, -⟩ := section_spec (N := 60) (by omega) hn z0 (by omega) (most := 8) (by omega)
  obtain ⟨l, c, u2, m2, e7, c1, c2, hI, hS⟩ := loop7 (N := 60) (by omega) hr n1 (by omega) he z0 (by omega) hm (q := (u1, m1))
  have e11 := loop11 (N := 60) (by omega) hr (by omega) (q := (u1, m1))
  obtain ⟨rfl, hf, hb⟩ := hI
  have hok : SOKs l := ⟨by omega, by omega, fun j hj => by have := hf j hj; have := hb j hj; omega⟩
  have hcom := com_true (by omega) hf l.length (Nat.le_refl _)
  have hcp := common_prog (N := 60) (by omega) hok
  rw [if_neg (by omega)] at hcp
  have hap := apart_prog (N := 60) (by omega) hok
  have hav : apV l = (0, 0, 5) := by unfold apV; rw [apF_true hf]
  rw [hav] at hap
  have hbd := (com_bd (A := 800000000000) (by omega) (fun j hj => by have := hf j hj; have := hb j hj; omega) l.length (Nat.le_refl _)).2.2
  obtain ⟨i', u3, m3, e5, a5, b5, -⟩ := next_spec (N := 60) he (n := W (((l.length : Nat) : Int) + 1)) hS (by omega)
  rw [W_succ (by omega)] at e5 b5
  obtain ⟨i, rfl⟩ : ∃ i : Nat, i' = (i : Int) := ⟨i'.toNat, by omega⟩
  have hi : i ≤ l.length := by omega
  have hx : ∀ j, j < l.length → (sA l j).Hi < (⟨mostF l l.length + 1 + more, mostF l l.length + 500⟩ : api_Span).Lo := fun j hj => by
    have := com_in (l := l) l.length j hj
    dsimp only
    omega
  have hbl := bad_len (x := (⟨mostF l l.length + 1 + more, mostF l l.length + 500⟩ : api_Span)) hi
  have hbok : SOKs (badL l i ⟨mostF l l.length + 1 + more, mostF l l.length + 500⟩) := ⟨by omega, by omega, fun j hj => by
    rcases Nat.lt_trichotomy j i with h | h | h
    · rw [bad_lt hi h]; exact hok.s j (by omega)
    · subst h; rw [bad_eq hi]; dsimp only; omega
    · obtain ⟨j, rfl⟩ : ∃ j', j = j' + 1 := ⟨j - 1, by omega⟩
      rw [bad_gt hi (by omega)]; exact hok.s j (by omega)⟩
  have hbc := bad_com (by omega) hi hx
  have hcp2 := common_prog (N := 60) (by omega) hbok
  rw [if_pos hbc] at hcp2
  have hap2 := apart_prog (N := 60) (by omega) hbok
  have hav2 : apV (badL l i ⟨mostF l l.length + 1 + more, mostF l l.length + 500⟩) = (0, ((max i 1 : Nat) : Int), 0) := by unfold apV; rw [bad_apart (by omega) hi hf hx]; rfl
  rw [hav2] at hap2
  have hins : slices_Insert_Lapi_Span_api_Span 60 l (i : Int) ([⟨W (W (mostF l l.length + 1) + W more), W (mostF l l.length + 500)⟩] : List api_Span) = some (badL l i ⟨mostF l l.length + 1 + more, mostF l l.length + 500⟩) := by
    unfold slices_Insert_Lapi_Span_api_Span insO
    rw [if_pos ⟨by omega, by omega, by simp; omega, by simp⟩, W_id (n := more) (by omega) (by omega), W_id (n := mostF l l.length + 1) (by omega) (by omega), W_id (by omega) (by omega), W_id (by omega) (by omega), Int.toNat_natCast]
    rfl
  have hcopy : kit_Copy_api_Span 60 l = some l := by unfold kit_Copy_api_Span; rw [room_ok (by omega)]; rfl
  unfold law03_GaugeCommon kit_New
  simp only [Option.bind_some, e1]
  rw [e7]
  simp only [Option.bind_some, exK]
  rw [e11]
  simp only [Option.bind_some, exK]
  rw [hcp, Option.bind_some, hap, Option.bind_some]
  dsimp only
  rw [decide_eq_false (show ¬ flowS r n < comL l l.length by omega), decide_eq_false (show ¬ comH l l.length < flowS r n by omega)]
  rw [show ((((0 : Int) != 0) || ((5 : Int) != 5)) || false || false) = false from rfl, cond_false]
  rw [loop19 (by omega) (by omega), Option.bind_some]
  simp only [exK]
  rw [show (0 : Int) = ((0 : Nat) : Int) from rfl, getI_sA (by omega), Option.bind_some]
  rw [show ((0 : Nat) : Int) = (0 : Int) from rfl, loop23 (by omega) (by omega), Option.bind_some]
  simp only [exK]
  rw [W_succ (by omega), e5, Option.bind_some, hcopy, Option.bind_some, hins, Option.bind_some, hcp2, Option.bind_some, hap2, Option.bind_some]
  dsimp only
  rw [show (((max i 1 : Nat) : Int) == max (i : Int) 1) = true from by rw [beq_iff_eq]; omega, show ((((7 : Int) == 7) && ((0 : Int) == 0)) && ((0 : Int) == 0) && true) = true from rfl, cond_true, awake_true]
  rfl
end Go.Nilo
