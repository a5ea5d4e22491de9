/-
  What the plain functions compute, in plain arithmetic, part 4. Conditions: what each theorem names.
-/
import Derived.Test.YtpfmkhhhamdpeaaGreatRoL3
set_option linter.unusedSimpArgs false
set_option linter.unusedVariables false
namespace Go.Nilo
theorem bg_get (f : api_Span → Int) : ∀ (l : List crew_Visit) (s : Int) (i : Nat) (h : i < l.length), (bg f s l).getD i 0 = bgn f (lv f s (l.take i)) l[i]
  | v :: l, s, 0, _ => rfl
  | v :: l, s, i + 1, h => by
    have := bg_get f l (bgn f s v + f v.Work) i (by simpa using h)
    simpa only [bg, lv, List.getD_cons_succ, List.take_succ_cons, List.getElem_cons_succ] using this
def rv (v : crew_Visit) : ref11_Visit := ⟨v.Way, v.Work, v.Open, v.Close⟩
theorem getI_rv {l : List crew_Visit} {i : Nat} (hi : i < l.length) : getI (l.map rv) (i : Int) = some (rv l[i]) := by
  rw [getI_nat (by simpa using hi)]; simp
theorem visits_ok {N : Nat} {l : List crew_Visit} (hl : l.length ≤ 100) (hN : 101 ≤ N) : law11_visits N l = some (l.map rv) := by
  unfold law11_visits
  have hrun := runS (ρ := List ref11_Visit) (fun i : Nat => ((l.map rv).take i, (i : Int))) l.length (fun s5 => law11_visits_b5 N l s5.1 s5.2) (fun i hi => by
    show law11_visits_b5 N l _ _ = _
    unfold law11_visits_b5
    have e3 : (l.map rv).take (i + 1) = (l.map rv).take i ++ [rv l[i]] := by
      rw [List.take_succ_eq_append_getElem (by simpa using hi)]; simp
    simp only [lt_dec hi, cond_true, getI_nat hi, Option.bind_some, W_succ (show i < 9223372036854775807 by omega)]
    rw [room_ok (by simp; omega), e3]
    rfl) (by
    show law11_visits_b5 N l _ _ = _
    unfold law11_visits_b5
    rw [ge_dec, cond_false]) (N := N) (by omega)
  have e0 : (([] : List ref11_Visit), (0 : Int)) = ((l.map rv).take 0, ((0 : Nat) : Int)) := rfl
  rw [e0, hrun, Option.bind_some]
  show some ((l.map rv).take l.length) = _
  rw [List.take_of_length_le (by simp)]
theorem bad_rv (v : crew_Visit) : (((((ref11_wrong (rv v).Way 100000) || (ref11_wrong (rv v).Work 100000)) || (decide ((rv v).Open < 0))) || (decide (100000 < (rv v).Close))) || (decide ((rv v).Close < (rv v).Open))) = !crew_rounded_1 v := by
  show ((((((decide (v.Way.Lo < 0) || decide (100000 < v.Way.Hi)) || decide (v.Way.Hi < v.Way.Lo)) || ((decide (v.Work.Lo < 0) || decide (100000 < v.Work.Hi)) || decide (v.Work.Hi < v.Work.Lo))) || decide (v.Open < 0)) || decide (100000 < v.Close)) || decide (v.Close < v.Open)) = !crew_rounded_1 v
  by_cases h : VOk v
  · rw [vok_iff.2 h]
    obtain ⟨a1, a2, a3, b1, b2, b3, c1, c2, c3⟩ := h
    simp only [Bool.not_true, Bool.or_eq_false_iff, decide_eq_false_iff_not]
    omega
  · have h1 : crew_rounded_1 v = false := by
      rw [Bool.eq_false_iff]
      exact fun e => h (vok_iff.1 e)
    rw [h1]
    simp only [Bool.not_false, Bool.or_eq_true, decide_eq_true_eq]
    refine Decidable.byContradiction fun hc => h ?_
    constructor <;> omega
theorem round_ok {N : Nat} {l : List crew_Visit} (hl : l.length ≤ 100) (hN : 101 ≤ N) : ref11_Round N (l.map rv) = some (rndCode l) := by
  unfold ref11_Round rndCode
  rw [List.length_map]
  by_cases h : 1 ≤ l.length ∧ l.length ≤ 20
  · rw [if_pos h]
    have c : ((decide (((l.length : Nat) : Int) < 1)) || (decide (20 < ((l.length : Nat) : Int)))) = false := by
      rw [Bool.or_eq_false_iff, decide_eq_false_iff_not, decide_eq_false_iff_not]; omega
    rw [c, cond_false]
    have hs := scanS (ρ := Int) (fun i : Nat => (i : Int)) (fun j => cond (crew_rounded_1 (l.getD j ⟨⟨0, 0⟩, ⟨0, 0⟩, 0, 0⟩)) none (some 120)) l.length (fun s7 => ref11_Round_b7 N (l.map rv) s7) (fun i hi => by
      show ref11_Round_b7 N (l.map rv) _ = _
      unfold ref11_Round_b7
      rw [List.length_map, lt_dec hi, cond_true, getI_rv hi, Option.bind_some, W_succ (by omega), bad_rv, get_getD (d := (⟨⟨0, 0⟩, ⟨0, 0⟩, 0, 0⟩ : crew_Visit)) hi]
      cases crew_rounded_1 (l.getD i ⟨⟨0, 0⟩, ⟨0, 0⟩, 0, 0⟩) <;> rfl) (by
      show ref11_Round_b7 N (l.map rv) _ = _
      unfold ref11_Round_b7
      rw [List.length_map, ge_dec, cond_false]) l.length 0 N (by omega) (by omega)
    rw [show ((0 : Nat) : Int) = 0 from rfl, all_first l.length 0 (by omega), List.drop_zero] at hs
    rw [hs]
    cases l.all crew_rounded_1 <;> rfl
  · rw [if_neg h]
    have c : ((decide (((l.length : Nat) : Int) < 1)) || (decide (20 < ((l.length : Nat) : Int)))) = true := by
      rw [Bool.or_eq_true, decide_eq_true_eq, decide_eq_true_eq]; omega
    rw [c]
    rfl
theorem cond_max {β : Type} (f : Int → β) (x o : Int) : cond (decide (x < o)) (f o) (f x) = f (max x o) := by
  by_cases h : x < o
  · rw [decide_eq_true h, cond_true, show max x o = o by omega]
  · rw [decide_eq_false h, cond_false, show max x o = x by omega]
theorem refhours_ok {N : Nat} (hN : 101 ≤ N) {l : List crew_Visit} (hl : ∀ v ∈ l, VOk v) (hn : 1 ≤ l.length ∧ l.length ≤ 20) {start : Int} (h0 : 0 ≤ start) (h1 : start ≤ 100000) : ref11_Hours N start (l.map rv) = some (hrs start l, 0) := by
  unfold ref11_Hours
  have hc : rndCode l = 0 := by
    unfold rndCode
    rw [if_pos hn, if_pos (List.all_eq_true.2 fun v hv => vok_iff.2 (hl v hv))]
  rw [round_ok (by omega) hN, hc, Option.bind_some]
  have hm : ref11_outside start 0 100000 = false := by
    unfold ref11_outside
    rw [Bool.or_eq_false_iff, decide_eq_false_iff_not, decide_eq_false_iff_not]; omega
  rw [hm]
  simp only [bne_self_eq_false, cond_false]
  have hrun := runS (ρ := List api_Span × Int) (fun i : Nat => (lv api_Span.Lo start (l.take i), lv api_Span.Hi start (l.take i), (hrs start l).take i, (i : Int))) l.length (fun s13 => ref11_Hours_b13 N (l.map rv) s13.1 s13.2.1 s13.2.2.1 s13.2.2.2) (fun i hi => by
    have hv := hl l[i] (List.getElem_mem _)
    have ha := lv_bd sel_lo (l := l.take i) (s := start) (fun v hv => hl v (List.mem_of_mem_take hv)) h0
    have hb := lv_bd sel_hi (l := l.take i) (s := start) (fun v hv => hl v (List.mem_of_mem_take hv)) h0
    rw [List.length_take] at ha hb
    have ba := bgn_bd sel_lo hv ha.1
    have bb := bgn_bd sel_hi hv hb.1
    show ref11_Hours_b13 N (l.map rv) (lv api_Span.Lo start (l.take i)) (lv api_Span.Hi start (l.take i)) ((hrs start l).take i) (i : Int) = _
    unfold ref11_Hours_b13
    rw [List.length_map, lt_dec hi, cond_true, getI_rv hi, Option.bind_some]
    have e1 : W (lv api_Span.Lo start (l.take i) + (rv l[i]).Way.Lo) = lv api_Span.Lo start (l.take i) + l[i].Way.Lo := W_id (by show _ ≤ _ + l[i].Way.Lo; omega) (by show _ + l[i].Way.Lo ≤ _; omega)
    have e2 : W (lv api_Span.Hi start (l.take i) + (rv l[i]).Way.Hi) = lv api_Span.Hi start (l.take i) + l[i].Way.Hi := W_id (by show _ ≤ _ + l[i].Way.Hi; omega) (by show _ + l[i].Way.Hi ≤ _; omega)
    rw [cond_max (fun a => ref11_Hours_j20 N (lv api_Span.Hi start (l.take i)) ((hrs start l).take i) (i : Int) (rv l[i]) a)]
    unfold ref11_Hours_j20
    rw [cond_max (fun a => ref11_Hours_j21 N ((hrs start l).take i) (i : Int) (rv l[i]) (max (W (lv api_Span.Lo start (l.take i) + (rv l[i]).Way.Lo)) (rv l[i]).Open) a), e1, e2]
    unfold ref11_Hours_j21
    have f1 : max (lv api_Span.Lo start (l.take i) + l[i].Way.Lo) (rv l[i]).Open = bgn api_Span.Lo (lv api_Span.Lo start (l.take i)) l[i] := rfl
    have f2 : max (lv api_Span.Hi start (l.take i) + l[i].Way.Hi) (rv l[i]).Open = bgn api_Span.Hi (lv api_Span.Hi start (l.take i)) l[i] := rfl
    rw [f1, f2]
    have g1 : W (bgn api_Span.Lo (lv api_Span.Lo start (l.take i)) l[i] + (rv l[i]).Work.Lo) = lv api_Span.Lo start (l.take (i + 1)) := by
      rw [List.take_succ_eq_append_getElem hi, lv_snoc]
      exact W_id (by show _ ≤ _ + l[i].Work.Lo; omega) (by show _ + l[i].Work.Lo ≤ _; omega)
    have g2 : W (bgn api_Span.Hi (lv api_Span.Hi start (l.take i)) l[i] + (rv l[i]).Work.Hi) = lv api_Span.Hi start (l.take (i + 1)) := by
      rw [List.take_succ_eq_append_getElem hi, lv_snoc]
      exact W_id (by show _ ≤ _ + l[i].Work.Hi; omega) (by show _ + l[i].Work.Hi ≤ _; omega)
    have g3 : (hrs start l).take (i + 1) = (hrs start l).take i ++ [⟨bgn api_Span.Lo (lv api_Span.Lo start (l.take i)) l[i], bgn api_Span.Hi (lv api_Span.Hi start (l.take i)) l[i]⟩] := by
      rw [List.take_succ_eq_append_getElem (by rw [hrs_len]; exact hi), hrs_get hi, bg_get _ _ _ _ hi, bg_get _ _ _ _ hi]
    rw [g1, g2, room_ok (by simp [hrs_len]; omega), g3, W_succ (by omega)]
    rfl) (by
    show ref11_Hours_b13 N (l.map rv) _ _ _ _ = _
    unfold ref11_Hours_b13
    rw [List.length_map, ge_dec, cond_false]) (N := N) (by omega)
  have e0 : (start, start, ([] : List api_Span), (0 : Int)) = (lv api_Span.Lo start (l.take 0), lv api_Span.Hi start (l.take 0), (hrs start l).take 0, ((0 : Nat) : Int)) := rfl
  rw [e0, hrun, Option.bind_some]
  show some ((hrs start l).take l.length, (0 : Int)) = _
  rw [List.take_of_length_le (by rw [hrs_len]; exact Nat.le_refl _)]
theorem refhours_code {N : Nat} {l : List crew_Visit} (hl : l.length ≤ 29) (hN : 101 ≤ N) (h : rndCode l ≠ 0) {start : Int} : ref11_Hours N start (l.map rv) = some ([], rndCode l) := by
  unfold ref11_Hours
  rw [round_ok (by omega) (by omega), Option.bind_some]
  have : (rndCode l != 0) = true := by simpa using h
  rw [this]
  rfl
theorem refhours_range {N : Nat} {l : List crew_Visit} (hN : 101 ≤ N) (h : rndCode l = 0) {start : Int} (hs : ¬ (0 ≤ start ∧ start ≤ 100000)) : ref11_Hours N start (l.map rv) = some ([], 4) := by
  unfold ref11_Hours
  have := (rnd_zero h).1
  rw [round_ok (by omega) (by omega), h, Option.bind_some]
  have hm : ref11_outside start 0 100000 = true := by
    unfold ref11_outside
    rw [Bool.or_eq_true, decide_eq_true_eq, decide_eq_true_eq]; omega
  rw [hm]
  rfl
/-! ### Late -/
theorem fi_snoc {p : Nat → Bool} : ∀ {m k : Nat}, fi p k (m + 1) = if fi p k m = -1 then (if p (k + m) then ((k + m : Nat) : Int) else -1) else fi p k m
  | 0, k => by simp [fi]
  | m + 1, k => by
    rw [show fi p k (m + 1 + 1) = if p k then (k : Int) else fi p (k + 1) (m + 1) from rfl, show fi p k (m + 1) = if p k then (k : Int) else fi p (k + 1) m from rfl]
    by_cases h : p k = true
    · rw [if_pos h, if_pos h, if_neg (by omega)]
    · rw [if_neg h, if_neg h, fi_snoc, show k + 1 + m = k + (m + 1) by omega]
theorem late_step {p : Nat → Bool} {i : Nat} {β : Type} (x : Option Bool) (hx : x = some (p i)) (F : Int → Option β) : (Option.bind (cond (fi p 0 i == -1) x (some false)) fun t => cond t (F (i : Int)) (F (fi p 0 i))) = F (fi p 0 (i + 1)) := by
  subst hx
  rw [fi_snoc, Nat.zero_add]
  by_cases h : fi p 0 i = -1
  · rw [h, if_pos rfl, show ((-1 : Int) == -1) = true from rfl, cond_true, Option.bind_some]
    cases p i <;> rfl
  · rw [if_neg h, beq_eq_false_iff_ne.2 h]; rfl
theorem reflate_ok {N : Nat} (hN : 101 ≤ N) {l : List crew_Visit} (hl : ∀ v ∈ l, VOk v) (hn : 1 ≤ l.length ∧ l.length ≤ 20) {start : Int} (h0 : 0 ≤ start) (h1 : start ≤ 100000) :
    ref11_Late N start (l.map rv) = some (fi (lateH start l) 0 l.length, fi (lateL start l) 0 l.length, 0) := by
  unfold ref11_Late
  rw [refhours_ok hN hl hn h0 h1, Option.bind_some]
  simp only [bne_self_eq_false, cond_false]
  have hrun := runS (ρ := Int × Int × Int) (fun i : Nat => (fi (lateH start l) 0 i, fi (lateL start l) 0 i, (i : Int))) l.length (fun s9 => ref11_Late_b9 N (l.map rv) (hrs start l, 0) s9.1 s9.2.1 s9.2.2) (fun i hi => by
    show ref11_Late_b9 N (l.map rv) (hrs start l, 0) (fi (lateH start l) 0 i) (fi (lateL start l) 0 i) (i : Int) = _
    unfold ref11_Late_b9
    have g1 : getI (hrs start l) (i : Int) = some ⟨(bg api_Span.Lo start l).getD i 0, (bg api_Span.Hi start l).getD i 0⟩ := by
      rw [getI_nat (by rw [hrs_len]; exact hi), hrs_get hi]
    have c1 : (rv l[i]).Close = (l.getD i ⟨⟨0, 0⟩, ⟨0, 0⟩, 0, 0⟩).Close := by rw [← get_getD hi]; rfl
    rw [List.length_map, lt_dec hi, cond_true]
    refine (late_step (p := lateH start l) _ (by show (Option.bind (getI (hrs start l) (i : Int)) _) = _; rw [g1, getI_rv hi, Option.bind_some, Option.bind_some, c1]; rfl) (fun c => ref11_Late_j14 N (l.map rv) (hrs start l, 0) (fi (lateL start l) 0 i) (i : Int) c)).trans ?_
    show ref11_Late_j14 N (l.map rv) (hrs start l, 0) (fi (lateL start l) 0 i) (i : Int) (fi (lateH start l) 0 (i + 1)) = _
    unfold ref11_Late_j14
    refine (late_step (p := lateL start l) _ (by show (Option.bind (getI (hrs start l) (i : Int)) _) = _; rw [g1, getI_rv hi, Option.bind_some, Option.bind_some, c1]; rfl) (fun c => ref11_Late_j13 N (i : Int) (fi (lateH start l) 0 (i + 1)) c)).trans ?_
    show ref11_Late_j13 N (i : Int) (fi (lateH start l) 0 (i + 1)) (fi (lateL start l) 0 (i + 1)) = _
    unfold ref11_Late_j13
    rw [W_succ (by omega)]) (by
    show ref11_Late_b9 N (l.map rv) _ _ _ _ = _
    unfold ref11_Late_b9
    rw [List.length_map, ge_dec, cond_false]) (N := N) (by omega)
  have e0 : ((-1 : Int), (-1 : Int), (0 : Int)) = (fi (lateH start l) 0 0, fi (lateL start l) 0 0, ((0 : Nat) : Int)) := rfl
  rw [e0, hrun, Option.bind_some]
  rfl
/-! ### Latest -/
theorem early_iff {l : List crew_Visit} (hl : ∀ v ∈ l, VOk v) {s : Int} (h : s ≤ 200000) : fi (lateH s l) 0 l.length = -1 ↔ ∃ B, lat l = some B ∧ s ≤ B := by
  rw [fi_none, ← inT_iff, inT_late hl h]
  constructor
  · intro h i hi; exact h i (Nat.zero_le _) (by omega)
  · intro h i _ hi; exact h i (by omega)
theorem bisect {N : Nat} (hN : 101 ≤ N) {l : List crew_Visit} (hl : ∀ v ∈ l, VOk v) (hn : 1 ≤ l.length ∧ l.length ≤ 20) : ∀ (M K : Nat) (T : Int) (g b : Int), T = (2 : Int) ^ M → M < K → 0 ≤ g → g < b → b ≤ 100001 → fi (lateH g l) 0 l.length = -1 → (b = 100001 ∨ fi (lateH b l) 0 l.length ≠ -1) → b - g ≤ T →
    ∃ g', loopO (fun s12 => ref11_Latest_b12 N (l.map rv) s12.1 s12.2) K (g, b) = some (.go (g', g' + 1)) ∧ 0 ≤ g' ∧ g' ≤ 100000 ∧ fi (lateH g' l) 0 l.length = -1 ∧ (g' + 1 = 100001 ∨ fi (lateH (g' + 1) l) 0 l.length ≠ -1)
  | M, 0, T, g, b, _, h, _, _, _, _, _, _ => by omega
  | M, K + 1, T, g, b, hT, hK, h0, h1, h2, h3, h4, h5 => by
    by_cases hb : b = g + 1
    · subst hb
      refine ⟨g, ?_, h0, by omega, h3, h4⟩
      unfold loopO
      have : ref11_Latest_b12 N (l.map rv) g (g + 1) = some (.brk (g, g + 1)) := by
        unfold ref11_Latest_b12
        rw [W_id (by omega) (by omega), show decide (1 < g + 1 - g) = false by rw [decide_eq_false_iff_not]; omega]
        rfl
      dsimp only
      rw [this]
    · obtain ⟨M, rfl⟩ : ∃ M', M = M' + 1 := ⟨M - 1, by
        rcases Nat.eq_zero_or_pos M with rfl | h
        · rw [Int.pow_zero] at hT; omega
        · omega⟩
      have hT2 : T = 2 ^ M * 2 := by rw [hT, Int.pow_succ]
      have hm : W ((W (g + b)).tdiv 2) = (g + b) / 2 := by
        rw [W_id (n := g + b) (by omega) (by omega), tdiv_div (by omega), W_id (by omega) (by omega)]
      have hstep : ref11_Latest_b12 N (l.map rv) g b = cond (fi (lateH ((g + b) / 2) l) 0 l.length == -1) (some (.cont ((g + b) / 2, b))) (some (.cont (g, (g + b) / 2))) := by
        unfold ref11_Latest_b12
        rw [W_id (n := b - g) (by omega) (by omega), show decide (1 < b - g) = true by rw [decide_eq_true_eq]; omega, cond_true, hm, reflate_ok hN hl hn (by omega) (by omega), Option.bind_some]
      by_cases hp : fi (lateH ((g + b) / 2) l) 0 l.length = -1
      · obtain ⟨g', a1, a2⟩ := bisect hN hl hn M K (2 ^ M) ((g + b) / 2) b rfl (by omega) (by omega) (by omega) h2 hp h4 (by omega)
        refine ⟨g', ?_, a2⟩
        unfold loopO
        dsimp only
        rw [hstep, hp]
        exact a1
      · obtain ⟨g', a1, a2⟩ := bisect hN hl hn M K (2 ^ M) g ((g + b) / 2) rfl (by omega) (by omega) (by omega) (by omega) h3 (Or.inr hp) (by omega)
        refine ⟨g', ?_, a2⟩
        unfold loopO
        dsimp only
        rw [hstep, beq_eq_false_iff_ne.2 hp]
        exact a1
theorem reflatest_ok {N : Nat} (hN : 101 ≤ N) {l : List crew_Visit} (h : rndCode l = 0) : ref11_Latest N (l.map rv) = some (match lat l with | none => (0, 5) | some B => if B < 0 then (0, 5) else (B, 0)) := by
  obtain ⟨hn, hl⟩ := rnd_zero h
  unfold ref11_Latest
  rw [round_ok (by omega) hN, h, Option.bind_some]
  simp only [bne_self_eq_false, cond_false]
  rw [reflate_ok hN hl hn (by omega) (by omega), Option.bind_some]
  by_cases h0 : fi (lateH 0 l) 0 l.length = -1
  · obtain ⟨B, hB, hB0⟩ := (early_iff hl (by omega)).1 h0
    obtain ⟨g, a1, a2, a3, a4, a5⟩ := bisect hN hl hn 17 N (2 ^ 17) 0 100001 rfl (by omega) (by omega) (by omega) (by omega) h0 (Or.inl rfl) (by decide)
    obtain ⟨B', hB', hg⟩ := (early_iff hl (by omega)).1 a4
    rw [hB] at hB'
    obtain rfl := Option.some.inj hB'
    have hle := (lat_le hl hB).2.1 (by intro e; rw [e] at hn; simp at hn)
    have : g = B := by
      rcases a5 with a5 | a5
      · omega
      · by_cases hc : g + 1 ≤ B
        · exact absurd ((early_iff hl (by omega)).2 ⟨B, hB, hc⟩) a5
        · omega
    subst this
    dsimp only
    rw [h0, show ((-1 : Int) != -1) = false from rfl, cond_false, a1, hB]
    dsimp only
    rw [if_neg (by omega)]
    rfl
  · dsimp only
    rw [bne_iff_ne.2 h0, cond_true]
    have hno : ¬ ∃ B, lat l = some B ∧ (0 : Int) ≤ B := fun e => h0 ((early_iff hl (by omega)).2 e)
    cases hlat : lat l with
    | none => rfl
    | some B =>
      dsimp only
      rw [if_pos (by
        rcases Int.lt_or_le B 0 with h | h
        · exact h
        · exact absurd ⟨B, hlat, h⟩ hno)]
theorem latest_code {N : Nat} {l : List crew_Visit} (hl : l.length ≤ 29) (hN : 101 ≤ N) (h : rndCode l ≠ 0) : crew_Latest N l = some (0, rndCode l) ∧ ref11_Latest N (l.map rv) = some (0, rndCode l) := by
  have h2 : (rndCode l != 0) = true := by simpa using h
  constructor
  · unfold crew_Latest
    rw [rounded_spec (by omega) (by omega), Option.bind_some, h2]
    rfl
  · unfold ref11_Latest
    rw [round_ok (by omega) (by omega), Option.bind_some, h2]
    rfl
theorem late_bad {N : Nat} {l : List crew_Visit} {start c : Int} (hc : c ≠ 0) (h1 : crew_Hours N start l = some ([], c)) (h2 : ref11_Hours N start (l.map rv) = some ([], c)) : crew_Late N start l = some (0, 0, c) ∧ ref11_Late N start (l.map rv) = some (0, 0, c) := by
  have hb : (c != 0) = true := by simpa using hc
  constructor
  · unfold crew_Late
    rw [h1, Option.bind_some, hb]
    rfl
  · unfold ref11_Late
    rw [h2, Option.bind_some, hb]
    rfl
end Go.Nilo
