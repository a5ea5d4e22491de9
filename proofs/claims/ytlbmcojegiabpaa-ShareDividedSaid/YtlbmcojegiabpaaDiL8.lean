/-
  What the plain functions compute, in plain arithmetic, part 8. Conditions: what each theorem names.
-/
import Derived.Test.YtlbmcojegiabpaaDiL7
set_option linter.unusedSimpArgs false
set_option linter.unusedVariables false
namespace Go.Nilo
theorem every_share {N : Nat} {l : List Int} (hl : l.length < N) (hl' : l.length ≤ 1000000) : share_every_int_s2 N l = some (l.all fun x => inB x 0 366) := by
  unfold share_every_int_s2 slices_ContainsFunc_Lint_int_s2 slices_IndexFunc_Lint_int_s2
  exact every_gen (f := share_every_int_1_s2) (fun x => rfl) hl hl' _ (fun x => rfl)

def chkS (l s : List Int) (rule : Int) : Int := if chkC l = 0 then (if s.length = l.length then (if s.all fun x => inB x 0 366 then (if inB rule 0 2 then 0 else 2) else 4) else 2) else chkC l
theorem shared_prog {N : Nat} (hN : 60 ≤ N) {l s : List Int} {rule : Int} (hl : l.length ≤ 15) (hs : s.length ≤ 15) : share_shared N l s rule = some (chkS l s rule) := by
  unfold share_shared chkS
  rw [claimed_prog hN hl, Option.bind_some]
  by_cases h : chkC l = 0
  · rw [if_pos h, h]
    show cond (((s.length : Nat) : Int) != ((l.length : Nat) : Int)) _ _ = _
    by_cases he : s.length = l.length
    · have hne : (((s.length : Nat) : Int) != ((l.length : Nat) : Int)) = false := by rw [he]; simp
      rw [hne, cond_false, if_pos he, every_share (by omega) (by omega), Option.bind_some]
      have er : share_Rule_right rule = inB rule 0 2 := rfl
      rw [er]
      cases s.all fun x => inB x 0 366 <;> cases inB rule 0 2 <;> rfl
    · have hne : (((s.length : Nat) : Int) != ((l.length : Nat) : Int)) = true := by rw [bne_iff_ne]; omega
      rw [hne, if_neg he]
      rfl
  · have : (chkC l != 0) = true := bne_iff_ne.2 h
    rw [if_neg h, this, cond_true]
structure ShOk (l s : List Int) (rule : Int) : Prop where
  c : COk l
  n : s.length = l.length
  s : ∀ i, i < l.length → 0 ≤ s.getD i 0 ∧ s.getD i 0 ≤ 366
  r : 0 ≤ rule ∧ rule ≤ 2
theorem chkS_ok {l s : List Int} {rule : Int} (h : chkS l s rule = 0) : ShOk l s rule := by
  unfold chkS at h
  split at h
  · rename_i hc
    split at h
    · rename_i hn
      split at h
      · rename_i ha
        split at h
        · rename_i hr
          unfold inB at hr
          exact ⟨chkC_ok hc, hn, fun i hi => all_in ha (by omega), by simpa only [Bool.and_eq_true, decide_eq_true_eq] using hr⟩
        · omega
      · omega
    · omega
  · rename_i hc
    exact absurd h hc
theorem scanE {σ ρ : Type} (st : Nat → σ) (g : Nat → Option (σ ⊕ ρ)) (n : Nat) (b : σ → Option (Step σ ρ))
    (hb : ∀ (i : Nat), i < n → b (st i) = some (match g i with | some (.inl s') => .brk s' | some (.inr r) => .ret r | none => .cont (st (i + 1)))) (hend : b (st n) = some (.brk (st n))) :
    ∀ (m i N : Nat), i + m = n → m < N → loopO b N (st i) = some (match firstG g i m with | some (.inl s') => .go s' | some (.inr r) => .out r | none => .go (st n))
  | m, i, 0, _, h => by omega
  | 0, i, N + 1, hi, _ => by
    obtain rfl : i = n := by omega
    unfold loopO
    rw [hend]
    rfl
  | m + 1, i, N + 1, hi, hN => by
    unfold loopO firstG
    rw [hb i (by omega)]
    cases hf : g i with
    | some r =>
      cases r with
      | inl s' => rfl
      | inr r => rfl
    | none => exact scanE st g n b hb hend m (i + 1) N (by omega) (by omega)
theorem firstG_map {α β : Type} {g : Nat → Option α} (f : α → β) : ∀ n i, firstG (fun j => (g j).map f) i n = (firstG g i n).map f
  | 0, i => rfl
  | n + 1, i => by
    unfold firstG
    cases g i with
    | some r => rfl
    | none => exact firstG_map f n (i + 1)
theorem firstG_congr {ρ : Type} {g g' : Nat → Option ρ} : ∀ (n i : Nat), (∀ j, i ≤ j → j < i + n → g j = g' j) → firstG g i n = firstG g' i n
  | 0, _, _ => rfl
  | n + 1, i, h => by
    unfold firstG
    rw [h i (Nat.le_refl _) (by omega), firstG_congr n (i + 1) (fun j h1 h2 => h j (by omega) (by omega))]

/-! ### The first unfair share -/
def sI (s : List Int) (i : Nat) : Int := s.getD i 0
def unf (l s : List Int) (rule : Int) (i k : Nat) : Bool := decide (0 < sI s i) && decide (k ≠ i) && decide (cN l i * askI rule (sI s k + 1) < cN l k * askI rule (sI s i))
def unfG (l s : List Int) (rule : Int) (i k : Nat) : Option (Nat × Nat) := cond (unf l s rule i k) (some (i, k)) none
def unfR (l s : List Int) (rule : Int) (i : Nat) : Option (Nat × Nat) := firstG (unfG l s rule i) 0 l.length
def unfF (l s : List Int) (rule : Int) : Option (Nat × Nat) := firstG (unfR l s rule) 0 l.length
def unfV (l s : List Int) (rule : Int) : Int × Int × Int := if chkS l s rule = 0 then (match unfF l s rule with | some (i, k) => ((i : Int), (k : Int), 0) | none => (0, 0, 5)) else (0, 0, chkS l s rule)
theorem unfair_prog {N : Nat} (hN : 60 ≤ N) {l s : List Int} {rule : Int} (hl : l.length ≤ 15) (hs : s.length ≤ 15) : share_Unfair N l s rule = some (unfV l s rule) := by
  unfold share_Unfair unfV
  rw [shared_prog hN hl hs, Option.bind_some]
  by_cases h : chkS l s rule = 0
  · rw [if_pos h, h]
    have ho := chkS_ok h
    have hn := ho.c.n
    have hsl := ho.n
    have hin : ∀ i, i < l.length → loopO (fun s18 : Int => share_Unfair_b18 N l s rule (i : Int) (sI s i) s18) N 0 = some (match (unfR l s rule i).map (fun p => (Step.brk ((p.1 : Int), (p.2 : Int), (0 : Int), (p.1 : Int)) : Step (Int × Int × Int × Int) (Int × Int × Int))) with | some r => Ex.out r | none => Ex.go (l.length : Int)) := by
      intro i hi
      have ci : 1 ≤ cN l i ∧ cN l i ≤ 1000000 := ho.c.c i hi
      have si : 0 ≤ sI s i ∧ sI s i ≤ 366 := ho.s i hi
      have := scanS (ρ := Step (Int × Int × Int × Int) (Int × Int × Int)) (fun k : Nat => (k : Int)) (fun k => (unfG l s rule i k).map (fun p => (Step.brk ((p.1 : Int), (p.2 : Int), (0 : Int), (p.1 : Int)) : Step (Int × Int × Int × Int) (Int × Int × Int)))) l.length (fun s18 : Int => share_Unfair_b18 N l s rule (i : Int) (sI s i) s18) (fun k hk => by
        have ck : 1 ≤ cN l k ∧ cN l k ≤ 1000000 := ho.c.c k hk
        have sk : 0 ≤ sI s k ∧ sI s k ≤ 366 := ho.s k hk
        have hsk : getI s (k : Int) = some (sI s k) := by rw [getI_nat (by omega), get_getD (d := (0 : Int)) (by omega)]; rfl
        have hck : getI l (k : Int) = some (cN l k) := by rw [getI_nat hk, get_getD (d := (0 : Int)) hk]; rfl
        have hci : getI l (i : Int) = some (cN l i) := by rw [getI_nat hi, get_getD (d := (0 : Int)) hi]; rfl
        show share_Unfair_b18 N l s rule (i : Int) (sI s i) (k : Int) = _
        unfold share_Unfair_b18
        rw [show ((s.length : Nat) : Int) = (l.length : Int) by omega, lt_dec hk, cond_true, hsk, Option.bind_some, hck, Option.bind_some, W_id (n := sI s k + 1) (by omega) (by omega), day_spec (by omega) (by omega), Option.bind_some, hci, Option.bind_some, day_spec (by omega) (by omega), Option.bind_some, more_spec (by omega) (by omega) (askI_bd (by omega)) (askI_bd (by omega)), W_succ (by omega)]
        have e : ((k : Int) != (i : Int)) = decide (k ≠ i) := by rw [Bool.eq_iff_iff, bne_iff_ne, decide_eq_true_eq]; omega
        rw [e]
        unfold unfG unf
        cases decide (0 < sI s i) <;> cases decide (k ≠ i) <;> cases decide (cN l i * askI rule (sI s k + 1) < cN l k * askI rule (sI s i)) <;> rfl) (by
        show share_Unfair_b18 N l s rule (i : Int) (sI s i) (l.length : Int) = _
        unfold share_Unfair_b18
        rw [show ((s.length : Nat) : Int) = (l.length : Int) by omega, ge_dec, cond_false]) l.length 0 N (by omega) (by omega)
      rw [firstG_map] at this
      have e : firstG (unfG l s rule i) 0 l.length = unfR l s rule i := rfl
      rw [e] at this
      refine (show loopO _ N ((0 : Nat) : Int) = _ from this).trans ?_
      cases unfR l s rule i <;> rfl
    have := scanE (ρ := Int × Int × Int) (fun i : Nat => ((0 : Int), (0 : Int), (5 : Int), (i : Int))) (fun i => (unfR l s rule i).map (fun p => (Sum.inl ((p.1 : Int), (p.2 : Int), (0 : Int), (p.1 : Int)) : (Int × Int × Int × Int) ⊕ (Int × Int × Int)))) l.length (fun s10 => share_Unfair_b10 N l s rule s10.1 s10.2.1 s10.2.2.1 s10.2.2.2) (fun i hi => by
      have hsi : getI s (i : Int) = some (sI s i) := by rw [getI_nat (by omega), get_getD (d := (0 : Int)) (by omega)]; rfl
      show share_Unfair_b10 N l s rule 0 0 5 (i : Int) = _
      unfold share_Unfair_b10
      rw [show ((s.length : Nat) : Int) = (l.length : Int) by omega, lt_dec hi, cond_true, hsi, Option.bind_some, hin i hi, W_succ (by omega)]
      cases unfR l s rule i <;> rfl) (by
      show share_Unfair_b10 N l s rule 0 0 5 (l.length : Int) = _
      unfold share_Unfair_b10
      rw [show ((s.length : Nat) : Int) = (l.length : Int) by omega, ge_dec, cond_false]) l.length 0 N (by omega) (by omega)
    show Option.bind (loopO _ N (0, 0, 5, ((0 : Nat) : Int))) _ = _
    rw [this, firstG_map]
    show _ = some (match unfF l s rule with | some (i, k) => ((i : Int), (k : Int), (0 : Int)) | none => (0, 0, 5))
    have e : firstG (unfR l s rule) 0 l.length = unfF l s rule := rfl
    rw [e]
    cases unfF l s rule <;> rfl
  · have : (chkS l s rule != 0) = true := bne_iff_ne.2 h
    rw [if_neg h, this, cond_true]
theorem ask_nn {rule n : Int} (hr : 0 ≤ rule ∧ rule ≤ 2) (h1 : 1 ≤ n) (h2 : n ≤ 400) : 0 ≤ askI rule n ∧ askI rule n ≤ 200000 := by
  rcases askI_cases (n := n) hr with ⟨-, h⟩ | ⟨-, h⟩ | ⟨-, h⟩ <;> omega
/-! ### What a divisor proves -/
def okV (l s : List Int) (rule : Int) (x : api_Ratio) (i : Nat) : Bool := !(decide (2 * cN l i * x.D < askI rule (sI s i) * x.N)) && !(decide (askI rule (sI s i + 1) * x.N < 2 * cN l i * x.D))
def proB (l s : List Int) (rule : Int) (x : api_Ratio) : Bool := (firstG (fun i => cond (okV l s rule x i) none (some ())) 0 l.length).isNone
def okX (x : api_Ratio) : Bool := inB x.N 1 1000000000 && inB x.D 1 1000000000 && !decide (2000000 * x.D < x.N)
def proV (l s : List Int) (rule : Int) (x : api_Ratio) : Bool × Int := if chkS l s rule = 0 then (if okX x then (proB l s rule x, 0) else (false, 4)) else (false, chkS l s rule)
theorem okX_eq (x : api_Ratio) : (((!(inB x.N 1 1000000000)) || (!(inB x.D 1 1000000000))) || (decide ((W (2000000 * x.D)) < x.N))) = !okX x := by
  unfold okX
  cases h1 : inB x.N 1 1000000000 with
  | false => rfl
  | true =>
    cases h2 : inB x.D 1 1000000000 with
    | false => rfl
    | true =>
      unfold inB at h2
      simp only [Bool.and_eq_true, decide_eq_true_eq] at h2
      rw [W_id (n := 2000000 * x.D) (by omega) (by omega)]
      cases decide (2000000 * x.D < x.N) <;> rfl
theorem okX_bd {x : api_Ratio} (h : okX x = true) : (1 ≤ x.N ∧ x.N ≤ 1000000000) ∧ (1 ≤ x.D ∧ x.D ≤ 1000000000) ∧ x.N ≤ 2000000 * x.D := by
  unfold okX inB at h
  simp only [Bool.and_eq_true, decide_eq_true_eq, Bool.not_eq_true', decide_eq_false_iff_not] at h
  omega
theorem proves_prog {N : Nat} (hN : 60 ≤ N) {l s : List Int} {rule : Int} {x : api_Ratio} (hl : l.length ≤ 15) (hs : s.length ≤ 15) : share_Proves N l s rule x = some (proV l s rule x) := by
  unfold share_Proves proV
  rw [shared_prog hN hl hs, Option.bind_some]
  by_cases h : chkS l s rule = 0
  · rw [if_pos h, h]
    show cond (((!(inB x.N 1 1000000000)) || (!(inB x.D 1 1000000000))) || (decide ((W (2000000 * x.D)) < x.N))) _ _ = _
    rw [okX_eq]
    have ho := chkS_ok h
    have hn := ho.c.n
    have hsl := ho.n
    cases hx : okX x with
    | false => rfl
    | true =>
      have hb := okX_bd hx
      rw [Bool.not_true, cond_false]
      have := scanS (ρ := Bool × Int) (fun i : Nat => (i : Int)) (fun i => (cond (okV l s rule x i) none (some ())).map fun _ => (false, (0 : Int))) l.length (fun s11 => share_Proves_b11 N l s rule x s11) (fun i hi => by
        have ci : 1 ≤ cN l i ∧ cN l i ≤ 1000000 := ho.c.c i hi
        have si : 0 ≤ sI s i ∧ sI s i ≤ 366 := ho.s i hi
        have hsi : getI s (i : Int) = some (sI s i) := by rw [getI_nat (by omega), get_getD (d := (0 : Int)) (by omega)]; rfl
        have hci : getI l (i : Int) = some (cN l i) := by rw [getI_nat hi, get_getD (d := (0 : Int)) hi]; rfl
        have b1 := askI_bd (rule := rule) (n := sI s i) (by omega)
        have b2 := askI_bd (rule := rule) (n := sI s i + 1) (by omega)
        show share_Proves_b11 N l s rule x (i : Int) = _
        unfold share_Proves_b11 share_proof_proves
        rw [show ((s.length : Nat) : Int) = (l.length : Int) by omega, lt_dec hi, cond_true, hsi, Option.bind_some, hci, Option.bind_some, W_id (n := sI s i + 1) (by omega) (by omega)]
        show Option.bind (Option.bind (share_Rule_day N rule (cN l i) (sI s i)) fun r => Option.bind (share_Rule_day N rule (cN l i) (sI s i + 1)) fun r_1 => some (((decide (r.by_ ≤ 0)) || (!(share_quotient_more ⟨x.N, x.D⟩ r))) && (!(share_quotient_more r_1 ⟨x.N, x.D⟩)))) _ = _
        rw [day_spec (by omega) (by omega), Option.bind_some, day_spec (by omega) (by omega), Option.bind_some, Option.bind_some, W_succ (by omega)]
        unfold share_quotient_more
        show cond (!(((decide (askI rule (sI s i) ≤ 0)) || (!decide (W (2 * cN l i * x.D) < W (x.N * askI rule (sI s i))))) && (!decide (W (x.N * askI rule (sI s i + 1)) < W (2 * cN l i * x.D))))) _ _ = _
        have m1 := absmul (x := 2 * cN l i) (y := x.D) (A := 2000000) (B := 1000000000) (by omega) (by omega)
        have m2 := absmul (x := x.N) (y := askI rule (sI s i)) (A := 1000000000) (B := 200000) (by omega) (by omega)
        have m3 := absmul (x := x.N) (y := askI rule (sI s i + 1)) (A := 1000000000) (B := 200000) (by omega) (by omega)
        rw [W_id (n := 2 * cN l i * x.D) (by omega) (by omega), W_id (n := x.N * askI rule (sI s i)) (by omega) (by omega), W_id (n := x.N * askI rule (sI s i + 1)) (by omega) (by omega)]
        have hz : (decide (askI rule (sI s i) ≤ 0) || !decide (2 * cN l i * x.D < x.N * askI rule (sI s i))) = !decide (2 * cN l i * x.D < askI rule (sI s i) * x.N) := by
          rw [Int.mul_comm x.N]
          by_cases h0 : askI rule (sI s i) ≤ 0
          · have hp : 0 < 2 * cN l i * x.D := Int.mul_pos (by omega) (by omega)
            have hq : askI rule (sI s i) * x.N ≤ 0 := Int.mul_nonpos_of_nonpos_of_nonneg h0 (by omega)
            rw [decide_eq_true h0, decide_eq_false (show ¬ 2 * cN l i * x.D < askI rule (sI s i) * x.N by omega)]
            rfl
          · rw [decide_eq_false h0, Bool.false_or]
        rw [hz, Int.mul_comm x.N]
        unfold okV
        cases decide (2 * cN l i * x.D < askI rule (sI s i) * x.N) <;> cases decide (askI rule (sI s i + 1) * x.N < 2 * cN l i * x.D) <;> rfl) (by
        show share_Proves_b11 N l s rule x (l.length : Int) = _
        unfold share_Proves_b11
        rw [show ((s.length : Nat) : Int) = (l.length : Int) by omega, ge_dec, cond_false]) l.length 0 N (by omega) (by omega)
      show Option.bind (loopO _ N ((0 : Nat) : Int)) _ = _
      rw [this, firstG_map]
      unfold proB
      cases firstG (fun i => cond (okV l s rule x i) none (some ())) 0 l.length <;> rfl
  · have : (chkS l s rule != 0) = true := bne_iff_ne.2 h
    rw [if_neg h, this, cond_true]
end Go.Nilo
