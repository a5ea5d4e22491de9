/-
  What the plain functions compute, in plain arithmetic, part 6. Conditions: what each theorem names.
-/
import Derived.Test.YtlbmcojegiabpaaDeL5
set_option linter.unusedSimpArgs false
set_option linter.unusedVariables false
namespace Go.Nilo
theorem scanS' {σ ρ : Type} (st : Nat → σ) (g : Nat → Option ρ) (n : Nat) (b : σ → Option (Step σ ρ))
    (hb : ∀ (i : Nat), i < n → (∀ j, j < i → g j = none) → b (st i) = some (match g i with | some r => .ret r | none => .cont (st (i + 1)))) (hend : b (st n) = some (.brk (st n))) :
    ∀ (m i N : Nat), i + m = n → m < N → (∀ j, j < i → g j = none) → loopO b N (st i) = some (match firstG g i m with | some r => .out r | none => .go (st n))
  | m, i, 0, _, h, _ => by omega
  | 0, i, N + 1, hi, _, _ => by
    obtain rfl : i = n := by omega
    unfold loopO
    rw [hend]
    rfl
  | m + 1, i, N + 1, hi, hN, hno => by
    unfold loopO firstG
    rw [hb i (by omega) hno]
    cases hf : g i with
    | some r => rfl
    | none => exact scanS' st g n b hb hend m (i + 1) N (by omega) (by omega) (fun j hj => by
        by_cases hji : j = i
        · subst hji; exact hf
        · exact hno j (by omega))

/-! ### A debt goes on -/
def nextD (b : share_Border) (d : Int) (t : share_Truth) (spill : Bool) : Int := cond spill 0 (max (0 - b.Credit) (d + dueF b.Table t.Index - t.Delivered))
def mpN (b : share_Border) (mp : Int → Option Int) (t : share_Truth) : Int → Option Int := cond (!(mp t.Index).isSome) (setM mp t.Index (dueF b.Table t.Index)) mp
def MapOk (T : List share_Point) (mp : Int → Option Int) : Prop := ∀ k v, mp k = some v → v = dueF T k
structure TOk (t : share_Truth) : Prop where
  i : 0 ≤ t.Index ∧ t.Index ≤ 1000000000
  d : 0 ≤ t.Delivered ∧ t.Delivered ≤ 1000000000
theorem mpN_ok {b : share_Border} {mp : Int → Option Int} (h : MapOk b.Table mp) (t : share_Truth) : MapOk b.Table (mpN b mp t) := by
  unfold mpN
  cases hmk : mp t.Index with
  | some v => exact h
  | none =>
    intro k v hk
    have hk' : setM mp t.Index (dueF b.Table t.Index) k = some v := hk
    unfold setM at hk'
    by_cases hkt : k = t.Index
    · rw [if_pos hkt] at hk'
      cases hk'
      rw [hkt]
    · rw [if_neg hkt] at hk'
      exact h k v hk'
theorem due_bd9 {b : share_Border} (h : BOk b) (t : Int) : 0 ≤ dueF b.Table t ∧ dueF b.Table t ≤ 1000000000 := (due_bd h t).2.2
theorem goes_spec {N : Nat} (hN : 60 ≤ N) {b : share_Border} (h : BOk b) {t : share_Truth} (ht : TOk t) {spill : Bool} {mp : Int → Option Int} (hm : MapOk b.Table mp) {d : Int} (hd : -1000000000000 ≤ d ∧ d ≤ 1000000000000) :
    share_Border_goes_1 N t spill mp b d = some (nextD b d t spill, mpN b mp t, nextD b d t spill) := by
  have hb := due_bd9 h t.Index
  have hc := h.c
  have hti := ht.i
  have htd := ht.d
  have w1 : W (0 - b.Credit) = 0 - b.Credit := W_id (by omega) (by omega)
  have w2 : W (d + dueF b.Table t.Index) = d + dueF b.Table t.Index := W_id (by omega) (by omega)
  have w3 : W (d + dueF b.Table t.Index - t.Delivered) = d + dueF b.Table t.Index - t.Delivered := W_id (by omega) (by omega)
  have hj : ∀ mp', share_Border_goes_1_j3 N t spill b d (dueF b.Table t.Index) mp' = some (nextD b d t spill, mp', nextD b d t spill) := by
    intro mp'
    unfold share_Border_goes_1_j3 share_Border_goes_1_j5 nextD
    rw [w1, w2, w3]
    cases spill <;> rfl
  unfold share_Border_goes_1 mpN
  cases hmk : mp t.Index with
  | none =>
    rw [due_spec hN h hti]
    exact hj _
  | some v =>
    have := hm _ _ hmk
    subst this
    exact hj _
theorem behind_spec {N : Nat} (hN : 60 ≤ N) {b : share_Border} (h : BOk b) {t : share_Truth} (ht : TOk t) {spill : Bool} {d : Int} (hd : -1000000000000 ≤ d ∧ d ≤ 1000000000000) :
    ref09_behind N (refB b) d t.Index t.Delivered spill = some (nextD b d t spill) := by
  have hb := due_bd9 h t.Index
  have hc := h.c
  have hti := ht.i
  have htd := ht.d
  have w1 : W (0 - b.Credit) = 0 - b.Credit := W_id (by omega) (by omega)
  have w2 : W (d + dueF b.Table t.Index) = d + dueF b.Table t.Index := W_id (by omega) (by omega)
  have w3 : W (d + dueF b.Table t.Index - t.Delivered) = d + dueF b.Table t.Index - t.Delivered := W_id (by omega) (by omega)
  unfold ref09_behind nextD
  cases spill with
  | true => rfl
  | false =>
    rw [cond_false, cond_false, due_ref hN h hti, Option.bind_some, w2, w3]
    show cond (decide (d + dueF b.Table t.Index - t.Delivered < W (0 - b.Credit))) (some (W (0 - b.Credit))) _ = _
    rw [w1]
    by_cases hlt : d + dueF b.Table t.Index - t.Delivered < 0 - b.Credit
    · have : decide (d + dueF b.Table t.Index - t.Delivered < 0 - b.Credit) = true := by rw [decide_eq_true_eq]; exact hlt
      rw [this, cond_true]
      congr 1
      omega
    · have : decide (d + dueF b.Table t.Index - t.Delivered < 0 - b.Credit) = false := by rw [decide_eq_false_iff_not]; exact hlt
      rw [this, cond_false]
      congr 1
      omega

def debtS (b : share_Border) (sp : Nat → Bool) (ts : Nat → share_Truth) (start : Int) : Nat → Int
  | 0 => start
  | n + 1 => nextD b (debtS b sp ts start n) (ts n) (sp n)
def mpS (b : share_Border) (ts : Nat → share_Truth) : Nat → Int → Option Int
  | 0 => fun _ => none
  | n + 1 => mpN b (mpS b ts n) (ts n)
theorem mpS_ok (b : share_Border) (ts : Nat → share_Truth) : ∀ n, MapOk b.Table (mpS b ts n)
  | 0 => fun _ _ h => nomatch h
  | n + 1 => mpN_ok (mpS_ok b ts n) (ts n)
theorem debtS_bd {b : share_Border} (h : BOk b) {sp : Nat → Bool} {ts : Nat → share_Truth} {start : Int} (hs : -1000000000 ≤ start ∧ start ≤ 1000000000) : ∀ (n : Nat), (∀ j, j < n → TOk (ts j)) → -(2000000000 * (n : Int) + 1000000000) ≤ debtS b sp ts start n ∧ debtS b sp ts start n ≤ 2000000000 * (n : Int) + 1000000000
  | 0, _ => by unfold debtS; omega
  | n + 1, ht => by
    have ih := debtS_bd h (sp := sp) hs n (fun j hj => ht j (by omega))
    have hb := due_bd9 h (ts n).Index
    have hc := h.c
    have htd := (ht n (by omega)).d
    rw [debtS]
    unfold nextD
    cases sp n
    · rw [cond_false]; omega
    · rw [cond_true]; omega
theorem debtS_far {b : share_Border} (h : BOk b) {sp : Nat → Bool} {ts : Nat → share_Truth} {start : Int} (hs : -1000000000 ≤ start ∧ start ≤ 1000000000) {n : Nat} (hn : n ≤ 50) (ht : ∀ j, j < n → TOk (ts j)) : -1000000000000 ≤ debtS b sp ts start n ∧ debtS b sp ts start n ≤ 1000000000000 := by
  have := debtS_bd h (sp := sp) hs n ht
  omega

/-! ### Which years are right -/
def okY (y : share_Year) : Bool := (decide (0 ≤ y.Index.Lo) && decide (y.Index.Lo ≤ y.Index.Hi) && decide (y.Index.Hi ≤ 1000000000)) && (decide (0 ≤ y.Delivered.Lo) && decide (y.Delivered.Lo ≤ y.Delivered.Hi) && decide (y.Delivered.Hi ≤ 1000000000))
def okS (s : api_Span) : Bool := decide (-1000000000 ≤ s.Lo) && decide (s.Lo ≤ s.Hi) && decide (s.Hi ≤ 1000000000)
def chkY (b : share_Border) (s : api_Span) (l : List share_Year) : Int := if chkB b = 0 then (if okS s then (if l.length ≤ 40 then (if l.all okY then 0 else 100) else 3) else 4) else chkB b
theorem every_year {N : Nat} (hN : 60 ≤ N) {l : List share_Year} (hl : l.length ≤ 45) : share_every_share_Year N l = some (l.all okY) := by
  have hf : ∀ y, share_every_share_Year_1 y = !okY y := by
    intro y
    unfold share_every_share_Year_1 share_asked_1 share_waters share_water share_in okY
    congr 1
    rw [Bool.eq_iff_iff]
    simp only [Bool.and_eq_true, decide_eq_true_eq]
    omega
  have hany : l.any share_every_share_Year_1 = !l.all okY := by
    rw [List.all_eq_not_any_not, Bool.not_not]
    congr 1
    exact funext hf
  unfold share_every_share_Year slices_ContainsFunc_Lshare_Year_share_Year slices_IndexFunc_Lshare_Year_share_Year
  rcases indexLoop share_every_share_Year_1 l (by omega) (fun s4 => slices_IndexFunc_Lshare_Year_share_Year_b4 N l s4) (fun x => rfl) l.length 0 N (by omega) (by omega) with ⟨k, a1, a2, a3⟩ | ⟨a1, a2⟩
  · rw [List.drop_zero, hany] at a3
    rw [show ((0 : Nat) : Int) = 0 from rfl] at a1
    rw [a1]
    have : l.all okY = false := by simpa using a3
    rw [this]
    simp [exK, a2]
  · rw [List.drop_zero, hany] at a2
    rw [show ((0 : Nat) : Int) = 0 from rfl] at a1
    rw [a1]
    have : l.all okY = true := by simpa using a2
    rw [this]
    simp [exK]
theorem asked_prog {N : Nat} (hN : 60 ≤ N) {b : share_Border} {s : api_Span} {l : List share_Year} (hb : b.Table.length ≤ 15) (hl : l.length ≤ 45) : share_asked N b s l = some (chkY b s l) := by
  unfold share_asked chkY
  rw [cb_prog hN hb, Option.bind_some]
  by_cases h : chkB b = 0
  · rw [if_pos h, h]
    have e : ((!share_in s.Lo (-1000000000) s.Hi) || decide (1000000000 < s.Hi)) = !okS s := by
      unfold share_in okS
      rw [Bool.eq_iff_iff]
      simp only [Bool.or_eq_true, Bool.not_eq_true', decide_eq_true_eq, Bool.and_eq_false_iff, decide_eq_false_iff_not]
      omega
    show cond ((!share_in s.Lo (-1000000000) s.Hi) || decide (1000000000 < s.Hi)) _ _ = _
    rw [e]
    cases okS s with
    | false => rfl
    | true =>
      rw [Bool.not_true, cond_false]
      by_cases h40 : l.length ≤ 40
      · have : decide (40 < ((l.length : Nat) : Int)) = false := by rw [decide_eq_false_iff_not]; omega
        rw [this, cond_false, every_year hN hl, if_pos h40]
        cases l.all okY <;> rfl
      · have : decide (40 < ((l.length : Nat) : Int)) = true := by rw [decide_eq_true_eq]; omega
        rw [this, if_neg h40]
        rfl
  · have : (chkB b != 0) = true := bne_iff_ne.2 h
    rw [if_neg h, this, cond_true]
theorem wrong_of {s : api_Span} {a b : Int} : ref09_wrong s a b = !(decide (a ≤ s.Lo) && decide (s.Lo ≤ s.Hi) && decide (s.Hi ≤ b)) := by
  unfold ref09_wrong
  rw [Bool.eq_iff_iff]
  simp only [Bool.or_eq_true, Bool.not_eq_true', decide_eq_true_eq, Bool.and_eq_false_iff, decide_eq_false_iff_not]
  omega
def y0 : share_Year := ⟨⟨0, 0⟩, ⟨0, 0⟩, false⟩
def t0 : share_Truth := ⟨0, 0⟩
theorem refY_get {l : List share_Year} {i : Nat} (hi : i < l.length) : getI (l.map refY) (i : Int) = some (refY (l.getD i y0)) := by
  rw [getI_nat (by simpa using hi)]
  simp [hi, List.getD]
theorem refT_get {l : List share_Truth} {i : Nat} (hi : i < l.length) : getI (l.map refT) (i : Int) = some (refT (l.getD i t0)) := by
  rw [getI_nat (by simpa using hi)]
  simp [hi, List.getD]
theorem all_first {α ρ : Type} {p : α → Bool} {d : α} {l : List α} {v : ρ} : ∀ n i, i + n = l.length → firstG (fun j => cond (p (l.getD j d)) none (some v)) i n = cond ((l.drop i).all p) none (some v)
  | 0, i, h => by
    rw [List.drop_eq_nil_of_le (by omega)]
    rfl
  | n + 1, i, h => by
    have hi : i < l.length := by omega
    unfold firstG
    rw [List.drop_eq_getElem_cons hi, List.all_cons, ← get_getD (d := d) hi]
    cases hp : p l[i] with
    | true =>
      rw [cond_true, Bool.true_and]
      exact all_first n (i + 1) (by omega)
    | false => rfl
theorem years_ref {N : Nat} (hN : 60 ≤ N) {b : share_Border} {s : api_Span} {l : List share_Year} (hb : b.Table.length ≤ 15) (hl : l.length ≤ 45) : ref09_years N (refB b) s (l.map refY) = some (chkY b s l) := by
  unfold ref09_years chkY
  rw [cb_ref hN hb, Option.bind_some, List.length_map]
  by_cases h : chkB b = 0
  · rw [if_pos h, h]
    have e : ref09_wrong s (-1000000000) 1000000000 = !okS s := wrong_of
    show cond (ref09_wrong s (-1000000000) 1000000000) _ _ = _
    rw [e]
    cases okS s with
    | false => rfl
    | true =>
      rw [Bool.not_true, cond_false]
      by_cases h40 : l.length ≤ 40
      · have : decide (40 < ((l.length : Nat) : Int)) = false := by rw [decide_eq_false_iff_not]; omega
        rw [this, cond_false, if_pos h40]
        have hs := scanS (ρ := Int) (fun i : Nat => (i : Int)) (fun j => cond (okY (l.getD j y0)) none (some 100)) l.length (fun s14 => ref09_years_b14 N (l.map refY) s14) (fun i hi => by
          show ref09_years_b14 N (l.map refY) (i : Int) = _
          unfold ref09_years_b14
          rw [List.length_map, lt_dec hi, cond_true, refY_get hi, Option.bind_some, W_succ (by omega)]
          show Option.bind (cond (ref09_wrong (l.getD i y0).Index 0 1000000000) (some true) (some (ref09_wrong (l.getD i y0).Delivered 0 1000000000))) _ = _
          rw [wrong_of, wrong_of]
          unfold okY
          cases (decide (0 ≤ (l.getD i y0).Index.Lo) && decide ((l.getD i y0).Index.Lo ≤ (l.getD i y0).Index.Hi) && decide ((l.getD i y0).Index.Hi ≤ 1000000000)) <;>
            cases (decide (0 ≤ (l.getD i y0).Delivered.Lo) && decide ((l.getD i y0).Delivered.Lo ≤ (l.getD i y0).Delivered.Hi) && decide ((l.getD i y0).Delivered.Hi ≤ 1000000000)) <;> rfl) (by
          show ref09_years_b14 N (l.map refY) (l.length : Int) = _
          unfold ref09_years_b14
          rw [List.length_map, ge_dec, cond_false]) l.length 0 N (by omega) (by omega)
        show Option.bind (loopO _ N ((0 : Nat) : Int)) _ = _
        rw [hs, all_first l.length 0 (by omega), List.drop_zero]
        cases l.all okY <;> rfl
      · have : decide (40 < ((l.length : Nat) : Int)) = true := by rw [decide_eq_true_eq]; omega
        rw [this, if_neg h40]
        rfl
  · have : (chkB b != 0) = true := bne_iff_ne.2 h
    rw [if_neg h, this, cond_true]
structure YsOk (b : share_Border) (s : api_Span) (l : List share_Year) : Prop where
  b : BOk b
  s : -1000000000 ≤ s.Lo ∧ s.Lo ≤ s.Hi ∧ s.Hi ≤ 1000000000
  n : l.length ≤ 40
  y : ∀ i, i < l.length → (0 ≤ (l.getD i y0).Index.Lo ∧ (l.getD i y0).Index.Lo ≤ (l.getD i y0).Index.Hi ∧ (l.getD i y0).Index.Hi ≤ 1000000000) ∧ (0 ≤ (l.getD i y0).Delivered.Lo ∧ (l.getD i y0).Delivered.Lo ≤ (l.getD i y0).Delivered.Hi ∧ (l.getD i y0).Delivered.Hi ≤ 1000000000)
theorem chkY_ok {b : share_Border} {s : api_Span} {l : List share_Year} (h : chkY b s l = 0) : YsOk b s l := by
  unfold chkY at h
  split at h
  · rename_i hb
    split at h
    · rename_i hs
      split at h
      · rename_i hl
        split at h
        · rename_i ha
          refine ⟨chkB_ok hb, ?_, hl, fun i hi => ?_⟩
          · unfold okS at hs
            simp only [Bool.and_eq_true, decide_eq_true_eq] at hs
            omega
          · have := List.all_eq_true.1 ha l[i] (List.getElem_mem hi)
            rw [get_getD (d := y0) hi] at this
            unfold okY at this
            simp only [Bool.and_eq_true, decide_eq_true_eq] at this
            omega
        · omega
      · omega
    · omega
  · rename_i hb
    exact absurd h hb
end Go.Nilo
