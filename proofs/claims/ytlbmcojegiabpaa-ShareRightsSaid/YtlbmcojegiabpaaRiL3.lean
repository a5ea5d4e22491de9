/-
  What the plain functions compute, in plain arithmetic, part 3. Conditions: what each theorem names.
-/
import Derived.Test.YtlbmcojegiabpaaRiL2
set_option linter.unusedSimpArgs false
set_option linter.unusedVariables false
namespace Go.Nilo
/-! ### Loops whose states are known -/
def firstG {ρ : Type} (g : Nat → Option ρ) : Nat → Nat → Option ρ
  | _, 0 => none
  | i, m + 1 => match g i with
    | some r => some r
    | none => firstG g (i + 1) m
theorem scanS {σ ρ : Type} (st : Nat → σ) (g : Nat → Option ρ) (n : Nat) (b : σ → Option (Step σ ρ))
    (hb : ∀ (i : Nat), i < n → b (st i) = some (match g i with | some r => .ret r | none => .cont (st (i + 1)))) (hend : b (st n) = some (.brk (st n))) :
    ∀ (m i N : Nat), i + m = n → m < N → loopO b N (st i) = some (match firstG g i m with | some r => .out r | none => .go (st n))
  | m, i, 0, _, h => by omega
  | 0, i, N + 1, hi, _ => by
    obtain rfl : i = n := by omega
    unfold loopO
    rw [hend]
    rfl
  | m + 1, i, N + 1, hi, hN => by
    unfold loopO firstG
    rw [hb i (by omega)]
    cases hf : g i with
    | some r => rfl
    | none => exact scanS st g n b hb hend m (i + 1) N (by omega) (by omega)
theorem runS {σ ρ : Type} (st : Nat → σ) (n : Nat) (b : σ → Option (Step σ ρ)) (hb : ∀ (i : Nat), i < n → b (st i) = some (.cont (st (i + 1)))) (hend : b (st n) = some (.brk (st n))) {N : Nat} (hN : n < N) : loopO b N (st 0) = some (.go (st n)) := by
  have hno : ∀ (m i : Nat), firstG (fun _ => (none : Option ρ)) i m = none := by
    intro m
    induction m with
    | zero => intro i; rfl
    | succ m ih => intro i; exact ih (i + 1)
  have := scanS st (fun _ => (none : Option ρ)) n b (fun i h => hb i h) hend n 0 N (by omega) hN
  rw [this, hno]

/-! ### What a compact gives -/
def r0 : share_Right := ⟨0, 0, 0⟩
structure COk (c : share_Compact) : Prop where
  s : 1 ≤ c.States ∧ c.States ≤ 12
  l : c.Rights.length ≤ 30
  el : ∀ i, i < c.Rights.length → 0 ≤ (c.Rights.getD i r0).State ∧ (c.Rights.getD i r0).State ≤ c.States - 1 ∧ 0 ≤ (c.Rights.getD i r0).Amount ∧ (c.Rights.getD i r0).Amount ≤ 1000000000 ∧ 0 ≤ (c.Rights.getD i r0).Loss ∧ (c.Rights.getD i r0).Loss ≤ 1000
theorem chk_ok {c : share_Compact} (h : chk c = 0) : COk c := by
  unfold chk at h
  split at h
  · rename_i hh
    cases ha : c.Rights.all (okR c.States) with
    | false => rw [ha] at h; simp at h
    | true =>
      refine ⟨⟨hh.1, hh.2.1⟩, hh.2.2.2, fun i hi => ?_⟩
      have := List.all_eq_true.1 ha c.Rights[i] (List.getElem_mem hi)
      rw [get_getD (d := r0) hi] at this
      unfold okR at this
      simp only [Bool.and_eq_true, decide_eq_true_eq] at this
      omega
  · omega

def olderR (c : share_Compact) : Nat → Int
  | 0 => 0
  | i + 1 => olderR c i + (c.Rights.getD i r0).Amount
def leftR (c : share_Compact) (flow : Int) (i : Nat) : Int := max 0 (flow - olderR c i)
def takeR (c : share_Compact) (flow : Int) (i : Nat) : Int := min (c.Rights.getD i r0).Amount (leftR c flow i)
def partR (c : share_Compact) (flow : Int) (i : Nat) : Int := takeR c flow i * (1000 - (c.Rights.getD i r0).Loss) / 1000
def gotF (c : share_Compact) (flow s : Int) : Nat → Int
  | 0 => 0
  | i + 1 => gotF c flow s i + cond ((c.Rights.getD i r0).State == s) (partR c flow i) 0
theorem leftR_succ {c : share_Compact} (h : COk c) {flow : Int} {i : Nat} (hi : i < c.Rights.length) : leftR c flow (i + 1) = leftR c flow i - takeR c flow i := by
  have := h.el i hi
  unfold takeR leftR
  rw [olderR]
  omega
theorem take_bd {c : share_Compact} (h : COk c) {flow : Int} {i : Nat} (hi : i < c.Rights.length) : 0 ≤ takeR c flow i ∧ takeR c flow i ≤ 1000000000 := by
  have := h.el i hi
  unfold takeR leftR
  omega
theorem part_bd {c : share_Compact} (h : COk c) {flow : Int} {i : Nat} (hi : i < c.Rights.length) : 0 ≤ takeR c flow i * (1000 - (c.Rights.getD i r0).Loss) ∧ takeR c flow i * (1000 - (c.Rights.getD i r0).Loss) ≤ 1000000000000 ∧ 0 ≤ partR c flow i ∧ partR c flow i ≤ 1000000000 := by
  have h1 := take_bd h (flow := flow) hi
  have h2 := h.el i hi
  have h3 := mul_bd (a := takeR c flow i) (b := 1000 - (c.Rights.getD i r0).Loss) (A := 1000000000) (B := 1000) h1.1 (by omega) h1.2 (by omega)
  unfold partR
  generalize takeR c flow i * (1000 - (c.Rights.getD i r0).Loss) = p at *
  omega
theorem got_bd {c : share_Compact} (h : COk c) {flow s : Int} : ∀ i, i ≤ c.Rights.length → 0 ≤ gotF c flow s i ∧ gotF c flow s i ≤ 1000000000 * i
  | 0, _ => by unfold gotF; omega
  | i + 1, hi => by
    have ih := got_bd h (flow := flow) (s := s) i (by omega)
    have := part_bd h (flow := flow) (i := i) (by omega)
    rw [gotF]
    cases ((c.Rights.getD i r0).State == s)
    · rw [cond_false]; omega
    · rw [cond_true]; omega
theorem older_bd {c : share_Compact} (h : COk c) : ∀ i, i ≤ c.Rights.length → 0 ≤ olderR c i ∧ olderR c i ≤ 1000000000 * i
  | 0, _ => by unfold olderR; omega
  | i + 1, hi => by
    have ih := older_bd h i (by omega)
    have := h.el i (by omega)
    rw [olderR]
    omega

def gotL (c : share_Compact) (flow : Int) : List Int := (List.range c.States.toNat).map fun s : Nat => gotF c flow (s : Int) c.Rights.length

theorem serve_spec {N : Nat} (hN : 60 ≤ N) {c : share_Compact} (h : COk c) {flow : Int} (hf : 0 ≤ flow ∧ flow ≤ 1000000000) : share_serve N c flow = some (gotL c flow) := by
  have hs := h.s
  have hl := h.l
  unfold share_serve share_office_taken share_office_taken_1
  have hb : ∀ i, i < c.Rights.length → share_office_taken_1_b3 N (⟨c, fun _ => 0⟩ : share_office) (rY (fun (zz : Nat → Int) (x : share_Right × Int) => share_serve_r5 N zz x.1 x.2)) (i : Int) (leftR c flow i) (.go fun s => gotF c flow (s : Int) i)
      = some (.cont (((i + 1 : Nat) : Int), leftR c flow (i + 1), .go fun s => gotF c flow (s : Int) (i + 1))) := by
    intro i hi
    have he := h.el i hi
    have ht := take_bd h (flow := flow) hi
    have hp := part_bd h (flow := flow) hi
    have hg := got_bd h (flow := flow) (s := ((c.Rights.getD i r0).State.toNat : Int)) i (by omega)
    unfold share_office_taken_1_b3
    show cond (decide ((i : Int) < (c.Rights.length : Int))) (Option.bind (getI c.Rights i) _) _ = _
    rw [lt_dec hi, cond_true, getI_nat hi, Option.bind_some, get_getD (d := r0) hi]
    show Option.bind (Option.map _ (share_serve_r5 N _ (c.Rights.getD i r0) (takeR c flow i))) _ = _
    unfold share_serve_r5
    have hir : inR (c.Rights.getD i r0).State 12 = some () := by unfold inR; rw [if_pos (by omega)]
    rw [hir, Option.bind_some, Option.bind_some, W_id (n := 1000 - (c.Rights.getD i r0).Loss) (by omega) (by omega), W_id (n := takeR c flow i * (1000 - (c.Rights.getD i r0).Loss)) (by omega) (by omega), tdiv_div hp.1]
    show Option.bind (some (Rs.go (setF _ _ (W (gotF c flow ((c.Rights.getD i r0).State.toNat : Int) i + W (partR c flow i)))), true)) _ = _
    have hbi : (1000000000 : Int) * i ≤ 30000000000 := by omega
    rw [W_id (n := partR c flow i) (by omega) (by omega), W_id (n := gotF c flow ((c.Rights.getD i r0).State.toNat : Int) i + partR c flow i) (by omega) (by omega)]
    show some (Step.cont (W ((i : Int) + 1), W (leftR c flow i - takeR c flow i), _)) = _
    rw [W_succ (by omega), ← leftR_succ h hi, W_id (n := leftR c flow (i + 1)) (by unfold leftR; omega) (by unfold leftR; have := older_bd h (i + 1) (by omega); omega)]
    congr 4
    refine congrArg Rs.go (funext fun s => ?_)
    rw [gotF]
    by_cases hsk : s = (c.Rights.getD i r0).State.toNat
    · subst hsk
      rw [setF_self]
      have : ((c.Rights.getD i r0).State == (((c.Rights.getD i r0).State.toNat : Nat) : Int)) = true := beq_iff_eq.2 (by omega)
      rw [this, cond_true]
    · rw [setF_ne hsk]
      have : ((c.Rights.getD i r0).State == ((s : Nat) : Int)) = false := beq_eq_false_iff_ne.2 (by omega)
      rw [this, cond_false, Int.add_zero]
  have he : share_office_taken_1_b3 N (⟨c, fun _ => 0⟩ : share_office) (rY (fun (zz : Nat → Int) (x : share_Right × Int) => share_serve_r5 N zz x.1 x.2)) (c.Rights.length : Int) (leftR c flow c.Rights.length) (.go fun s => gotF c flow (s : Int) c.Rights.length)
      = some (.brk ((c.Rights.length : Int), leftR c flow c.Rights.length, .go fun s => gotF c flow (s : Int) c.Rights.length)) := by
    unfold share_office_taken_1_b3
    show cond (decide ((c.Rights.length : Int) < (c.Rights.length : Int))) _ _ = _
    rw [ge_dec, cond_false]
  have := runS (fun i : Nat => ((i : Int), leftR c flow i, (Rs.go fun s : Nat => gotF c flow (s : Int) i : Rs (Nat → Int)))) c.Rights.length (fun s3 => share_office_taken_1_b3 N (⟨c, fun _ => 0⟩ : share_office) (rY (fun (zz : Nat → Int) (x : share_Right × Int) => share_serve_r5 N zz x.1 x.2)) s3.1 s3.2.1 s3.2.2) hb he (N := N) (by omega)
  have e0 : leftR c flow 0 = flow := by unfold leftR olderR; omega
  rw [e0] at this
  rw [Option.bind_some]
  show Option.bind (Option.bind (loopO _ N (((0 : Nat) : Int), flow, Rs.go fun s : Nat => gotF c flow (s : Int) 0)) _) _ = _
  rw [this]
  show Option.bind (subO (aL 12 fun s : Nat => gotF c flow (s : Int) c.Rights.length) 0 c.States) _ = _
  unfold subO
  rw [aL_len, if_pos (by omega), Option.bind_some]
  unfold slices_Clone_Lint_int
  rw [room_ok (by simp [aL]; omega), Option.bind_some, Option.bind_some]
  unfold aL gotL
  rw [show (0 : Int).toNat = 0 from rfl, List.drop_zero, Nat.sub_zero, ← List.map_take, List.take_range, Nat.min_eq_left (by omega)]
end Go.Nilo
