/-
  What the plain functions compute, in plain arithmetic, part 10. Conditions: what each theorem names.
-/
import Derived.Test.YtbgjmnbgilddgaaMiL9
set_option linter.unusedSimpArgs false
set_option linter.unusedVariables false
namespace Go.Nilo
/-! ### A section from the other bank -/
def mirV (g : gauge_Gauging) (v : gauge_Vertical) : gauge_Vertical := ⟨g.Left + g.Right - v.At, v.Depth, v.Speed⟩
def mirG (g : gauge_Gauging) : gauge_Gauging := ⟨g.Left, g.Right, g.Verticals.reverse.map (mirV g)⟩
theorem mir_len {g : gauge_Gauging} : (mirG g).Verticals.length = g.Verticals.length := by simp [mirG]
theorem mir_get {g : gauge_Gauging} {i : Nat} (hi : i < g.Verticals.length) : (mirG g).Verticals.getD i v0 = mirV g (g.Verticals.getD (g.Verticals.length - 1 - i) v0) := by
  have h1 : i < (mirG g).Verticals.length := by rw [mir_len]; exact hi
  rw [← get_getD h1, ← get_getD (d := v0) (show g.Verticals.length - 1 - i < g.Verticals.length by omega)]
  simp [mirG]
theorem mir_ok {g : gauge_Gauging} (h : GOk g) : GOk (mirG g) := by
  have hl := h.l
  have hr := h.r
  refine ⟨hl, hr, by rw [mir_len]; exact h.n, by rw [mir_len]; exact h.n', ?_, ?_⟩
  · intro v hv
    obtain ⟨x, hx, rfl⟩ := List.mem_map.1 hv
    have := h.v x (List.mem_reverse.1 hx)
    obtain ⟨a, b, c, d, e⟩ := this
    exact ⟨by show g.Left < g.Left + g.Right - x.At; omega, by show g.Left + g.Right - x.At < g.Right; omega, c, d, e⟩
  · intro i hi
    rw [mir_len] at hi
    rw [get_getD (d := v0), get_getD (d := v0), mir_get (by omega), mir_get (by omega)]
    have := h.up (g.Verticals.length - 1 - (i + 1)) (by omega)
    rw [get_getD (d := v0), get_getD (d := v0)] at this
    rw [show g.Verticals.length - 1 - (i + 1) + 1 = g.Verticals.length - 1 - i by omega] at this
    show g.Left + g.Right - _ < g.Left + g.Right - _
    omega
theorem wd_eq {g : gauge_Gauging} {i : Nat} (hi : i < g.Verticals.length) : wd g i = (if i + 1 < g.Verticals.length then (g.Verticals.getD (i + 1) v0).At else g.Right) - (if 0 < i then (g.Verticals.getD (i - 1) v0).At else g.Left) := by
  unfold wd
  congr 1
  · by_cases h : i + 1 < g.Verticals.length
    · rw [dif_pos h, if_pos h, get_getD (d := v0)]
    · rw [dif_neg h, if_neg h]
  · by_cases h : 0 < i
    · rw [dif_pos ⟨h, by omega⟩, if_pos h, get_getD (d := v0)]
    · rw [dif_neg (by omega), if_neg h]
theorem mir_wd {g : gauge_Gauging} {i : Nat} (hi : i < g.Verticals.length) : wd (mirG g) i = wd g (g.Verticals.length - 1 - i) := by
  have hat : ∀ j, j < g.Verticals.length → ((mirG g).Verticals.getD j v0).At = g.Left + g.Right - (g.Verticals.getD (g.Verticals.length - 1 - j) v0).At := fun j hj => by
    rw [mir_get hj]
    rfl
  have hl : (mirG g).Left = g.Left := rfl
  have hr : (mirG g).Right = g.Right := rfl
  rw [wd_eq (by rw [mir_len]; exact hi), wd_eq (by omega), mir_len, hl, hr]
  by_cases h1 : i + 1 < g.Verticals.length
  · rw [if_pos h1, hat _ h1, if_pos (show 0 < g.Verticals.length - 1 - i by omega), show g.Verticals.length - 1 - i - 1 = g.Verticals.length - 1 - (i + 1) by omega]
    by_cases h2 : 0 < i
    · rw [if_pos h2, hat _ (by omega), if_pos (by omega), show g.Verticals.length - 1 - (i - 1) = g.Verticals.length - 1 - i + 1 by omega]
      omega
    · rw [if_neg h2, if_neg (by omega)]
      omega
  · rw [if_neg h1, if_neg (show ¬ 0 < g.Verticals.length - 1 - i by omega)]
    by_cases h2 : 0 < i
    · rw [if_pos h2, hat _ (by omega), if_pos (by omega), show g.Verticals.length - 1 - (i - 1) = g.Verticals.length - 1 - i + 1 by omega]
      omega
    · rw [if_neg h2, if_neg (by omega)]
theorem mir_pan {g : gauge_Gauging} {i : Nat} (hi : i < g.Verticals.length) : panI (mirG g) i = panI g (g.Verticals.length - 1 - i) := by
  unfold panI
  rw [mir_get hi, mir_wd hi]
  rfl
theorem range_rev (n : Nat) : List.range n = (List.range n).reverse.map (fun i => n - 1 - i) := by
  refine List.ext_getElem (by simp) fun m h1 h2 => ?_
  have : m < n := by simpa using h1
  simp
  omega
theorem mir_pans {g : gauge_Gauging} : pans (mirG g) = (pans g).reverse := by
  refine List.ext_getElem (by simp [pans, mir_len]) fun m h1 h2 => ?_
  have hm : m < g.Verticals.length := by simpa [pans, mir_len] using h1
  simp only [pans, List.getElem_map, List.getElem_range, List.getElem_reverse, List.length_map, List.length_range]
  exact mir_pan hm
theorem mir_flow {N : Nat} (hN : 40 ≤ N) {g : gauge_Gauging} (h : GOk g) : gauge_Flow N (mirG g) = some (⟨sumBy (·.Lo) (pans g), sumBy (·.Hi) (pans g)⟩, 0) := by
  rw [flow_spec hN (mir_ok h), mir_pans, sumBy_perm (List.reverse_perm _), sumBy_perm (List.reverse_perm _)]

/-! ### Heavy panels, in their order -/
def hvB (mine oth : api_Span → Int) (l : List api_Span) (p : Int) (i : Nat) : Bool := decide (p * hsum mine oth l i l.length < 1000 * mine (l.getD i s0))
def hvK (mine oth : api_Span → Int) (l : List api_Span) (p : Int) (k : Nat) : List Int := ((List.range k).filter (hvB mine oth l p)).map fun i : Nat => (i : Int)
theorem hvK_len {mine oth : api_Span → Int} {l : List api_Span} {p : Int} {k : Nat} : (hvK mine oth l p k).length ≤ k := by
  unfold hvK
  rw [List.length_map]
  have := List.length_filter_le (hvB mine oth l p) (List.range k)
  rwa [List.length_range] at this
theorem hvK_step {mine oth : api_Span → Int} {l : List api_Span} {p : Int} {k : Nat} : hvK mine oth l p (k + 1) = cond (hvB mine oth l p k) (hvK mine oth l p k ++ [(k : Int)]) (hvK mine oth l p k) := by
  unfold hvK
  rw [List.range_succ, List.filter_append, List.map_append]
  cases h : hvB mine oth l p k <;> simp [h]
theorem heavy_list {N : Nat} (hN : 40 ≤ N) {l : List api_Span} (hl : l.length ≤ 30) (hs : ∀ s ∈ l, Spn s 100000000000) {p : Int} (hp : 0 ≤ p ∧ p ≤ 1000) :
    gauge_heavy N l p = some (hvK (·.Hi) (·.Lo) l p l.length) := by
  have := runS (ρ := List Int) (fun k : Nat => (hvK (·.Hi) (·.Lo) l p k, (k : Int))) l.length (fun s5 => gauge_heavy_b5 N l p s5.1 s5.2) (fun k hk => by
    show gauge_heavy_b5 N l p (hvK (·.Hi) (·.Lo) l p k) (k : Int) = _
    obtain ⟨e1, b1⟩ := heavy_inner hN hl hs k
    have hsp := hs l[k] (List.getElem_mem _)
    have p1 := hsp.lo
    have p2 := hsp.hi
    have hb := absmul (x := p) (A := 1000) (by omega) b1
    have w1 : W (p * hsum (·.Hi) (·.Lo) l k l.length) = p * hsum (·.Hi) (·.Lo) l k l.length := W_id (by omega) (by omega)
    have w2 : W (1000 * l[k].Hi) = 1000 * l[k].Hi := W_id (by omega) (by omega)
    unfold gauge_heavy_b5
    rw [lt_dec hk, cond_true, e1, Option.bind_some]
    simp only [exK]
    rw [getI_nat hk, Option.bind_some]
    unfold gauge_high_1
    rw [w1, w2, hvK_step]
    have e : decide (p * hsum (·.Hi) (·.Lo) l k l.length < 1000 * l[k].Hi) = hvB (·.Hi) (·.Lo) l p k := by unfold hvB; rw [get_getD (d := s0) hk]
    rw [e]
    cases hvB (·.Hi) (·.Lo) l p k with
    | false => rw [cond_false, cond_false]; unfold gauge_heavy_j9; rw [W_succ (by omega)]
    | true =>
      have := hvK_len (mine := (·.Hi)) (oth := (·.Lo)) (l := l) (p := p) (k := k)
      rw [cond_true, cond_true, room_ok (by simp; omega), Option.bind_some]; unfold gauge_heavy_j9; rw [W_succ (by omega)]) (by
    show gauge_heavy_b5 N l p _ (l.length : Int) = _
    unfold gauge_heavy_b5
    rw [ge_dec, cond_false]) l.length 0 N (by omega) (by omega)
  unfold gauge_heavy
  rw [show loopO (fun s5 => gauge_heavy_b5 N l p s5.1 s5.2) N (([] : List Int), 0) = _ from this, Option.bind_some]
  simp only [exK]
theorem heavy_s2_list {N : Nat} (hN : 40 ≤ N) {l : List api_Span} (hl : l.length ≤ 30) (hs : ∀ s ∈ l, Spn s 100000000000) {p : Int} (hp : 0 ≤ p ∧ p ≤ 1000) :
    gauge_heavy_s2 N l p = some (hvK (·.Lo) (·.Hi) l p l.length) := by
  have := runS (ρ := List Int) (fun k : Nat => (hvK (·.Lo) (·.Hi) l p k, (k : Int))) l.length (fun s5 => gauge_heavy_s2_b5 N l p s5.1 s5.2) (fun k hk => by
    show gauge_heavy_s2_b5 N l p (hvK (·.Lo) (·.Hi) l p k) (k : Int) = _
    obtain ⟨e1, b1⟩ := heavy_s2_inner hN hl hs k
    have hsp := hs l[k] (List.getElem_mem _)
    have p1 := hsp.lo
    have p2 := hsp.hi
    have hb := absmul (x := p) (A := 1000) (by omega) b1
    have w1 : W (p * hsum (·.Lo) (·.Hi) l k l.length) = p * hsum (·.Lo) (·.Hi) l k l.length := W_id (by omega) (by omega)
    have w2 : W (1000 * l[k].Lo) = 1000 * l[k].Lo := W_id (by omega) (by omega)
    unfold gauge_heavy_s2_b5
    rw [lt_dec hk, cond_true, e1, Option.bind_some]
    simp only [exK]
    rw [getI_nat hk, Option.bind_some]
    unfold gauge_low_1
    rw [w1, w2, hvK_step]
    have e : decide (p * hsum (·.Lo) (·.Hi) l k l.length < 1000 * l[k].Lo) = hvB (·.Lo) (·.Hi) l p k := by unfold hvB; rw [get_getD (d := s0) hk]
    rw [e]
    cases hvB (·.Lo) (·.Hi) l p k with
    | false => rw [cond_false, cond_false]; unfold gauge_heavy_s2_j9; rw [W_succ (by omega)]
    | true =>
      have := hvK_len (mine := (·.Lo)) (oth := (·.Hi)) (l := l) (p := p) (k := k)
      rw [cond_true, cond_true, room_ok (by simp; omega), Option.bind_some]; unfold gauge_heavy_s2_j9; rw [W_succ (by omega)]) (by
    show gauge_heavy_s2_b5 N l p _ (l.length : Int) = _
    unfold gauge_heavy_s2_b5
    rw [ge_dec, cond_false]) l.length 0 N (by omega) (by omega)
  unfold gauge_heavy_s2
  rw [show loopO (fun s5 => gauge_heavy_s2_b5 N l p s5.1 s5.2) N (([] : List Int), 0) = _ from this, Option.bind_some]
  simp only [exK]
theorem heavy_eq {N : Nat} (hN : 40 ≤ N) {g : gauge_Gauging} (h : GOk g) {p : Int} (hp : 0 ≤ p ∧ p ≤ 1000) :
    gauge_Heavy N g p = some (hvK (·.Hi) (·.Lo) (pans g) p g.Verticals.length, hvK (·.Lo) (·.Hi) (pans g) p g.Verticals.length, 0) := by
  have hn' := h.n'
  have e1 := heavy_list (N := N) hN (l := pans g) (by rw [pans_len]; exact hn') (pans_spn h) hp
  have e2 := heavy_s2_list (N := N) hN (l := pans g) (by rw [pans_len]; exact hn') (pans_spn h) hp
  rw [pans_len] at e1 e2
  unfold gauge_Heavy gauge_Heavy_j3 gauge_high gauge_low
  rw [panels_spec hN h]
  have hin : gauge_in p 0 1000 = true := by unfold gauge_in; simp; omega
  simp only [Option.bind_some, hin, e1, e2, Bool.not_true, Bool.and_false, cond_false, bne_self_eq_false]

/-! ### The other way round -/
theorem getD_rev {l : List api_Span} {i : Nat} (hi : i < l.length) : l.reverse.getD i s0 = l.getD (l.length - 1 - i) s0 := by
  rw [← get_getD (d := s0) (show i < l.reverse.length by simpa using hi), ← get_getD (d := s0) (show l.length - 1 - i < l.length by omega)]
  simp
theorem hsum_rev {mine oth : api_Span → Int} {l : List api_Span} {i : Nat} (hi : i < l.length) : hsum mine oth l.reverse i l.length = hsum mine oth l (l.length - 1 - i) l.length := by
  unfold hsum
  rw [sumBy_congr (g := fun j => (fun j => if j = l.length - 1 - i then mine (l.getD j s0) else oth (l.getD j s0)) (l.length - 1 - j)) (fun j hj => by
    have hj := List.mem_range.1 hj
    rw [getD_rev hj]
    by_cases e : j = i
    · subst e; rw [if_pos rfl]; exact (if_pos rfl).symm
    · rw [if_neg e]; exact (if_neg (by omega)).symm), ← sumBy_map (fun j => if j = l.length - 1 - i then mine (l.getD j s0) else oth (l.getD j s0)) (fun j => l.length - 1 - j)]
  refine sumBy_perm ?_
  conv => rhs; rw [range_rev l.length]
  exact ((List.reverse_perm _).symm.map _)
theorem hvB_rev {mine oth : api_Span → Int} {l : List api_Span} {p : Int} {i : Nat} (hi : i < l.length) : hvB mine oth l.reverse p i = hvB mine oth l p (l.length - 1 - i) := by
  unfold hvB
  rw [List.length_reverse, hsum_rev hi, getD_rev hi]
theorem hvK_rev {mine oth : api_Span → Int} {l : List api_Span} {p : Int} : hvK mine oth l.reverse p l.length = (hvK mine oth l p l.length).reverse.map fun x => (l.length : Int) - 1 - x := by
  unfold hvK
  conv => lhs; rw [range_rev l.length]
  rw [List.filter_map, ← List.map_reverse, List.map_map, List.map_map, ← List.filter_reverse]
  have e : (List.range l.length).reverse.filter (hvB mine oth l.reverse p ∘ fun i => l.length - 1 - i) = (List.range l.length).reverse.filter (hvB mine oth l p) := by
    refine List.filter_congr fun x hx => ?_
    have hx := List.mem_range.1 (List.mem_reverse.1 hx)
    show hvB mine oth l.reverse p (l.length - 1 - x) = _
    rw [hvB_rev (by omega), show l.length - 1 - (l.length - 1 - x) = x by omega]
  rw [e]
  refine List.map_congr_left fun x hx => ?_
  have hx := List.mem_range.1 (List.mem_reverse.1 (List.mem_filter.1 hx).1)
  show ((l.length - 1 - x : Nat) : Int) = (l.length : Int) - 1 - (x : Int)
  omega
end Go.Nilo
