/-
  What the plain functions compute, in plain arithmetic, part 8. Conditions: what each theorem names.
-/
import Derived.Test.YtlbmcojegiabpaaRcL7
set_option linter.unusedSimpArgs false
set_option linter.unusedVariables false
namespace Go.Nilo

def okR (s : Int) (r : share_Right) : Bool := decide (0 ≤ r.State) && decide (r.State ≤ s - 1) && decide (0 ≤ r.Amount) && decide (r.Amount ≤ 1000000000) && decide (0 ≤ r.Loss) && decide (r.Loss ≤ 1000)
def chk (c : share_Compact) : Int := if 1 ≤ c.States ∧ c.States ≤ 12 ∧ 1 ≤ c.Rights.length ∧ c.Rights.length ≤ 30 then (if c.Rights.all (okR c.States) then 0 else 100) else 3
theorem check_prog {N : Nat} {c : share_Compact} (hN : 60 ≤ N) : share_Check N c = some (chk c) := by
  unfold share_Check chk
  by_cases h : 1 ≤ c.States ∧ c.States ≤ 12 ∧ 1 ≤ c.Rights.length ∧ c.Rights.length ≤ 30
  · obtain ⟨h1, h2, h3, h4⟩ := h
    have e : ((!share_in c.States 1 12) || (!share_in (c.Rights.length : Int) 1 30)) = false := by
      unfold share_in
      simp only [Bool.or_eq_false_iff, Bool.not_eq_false', Bool.and_eq_true, decide_eq_true_eq]
      omega
    rw [if_pos ⟨h1, h2, h3, h4⟩]
    have hev : share_every_share_Right N c.Rights c = some (c.Rights.all (okR c.States)) := by
      have hf : ∀ r, share_every_share_Right_1 r c = !okR c.States r := by
        intro r
        unfold share_every_share_Right_1 share_Check_1 share_water share_in okR
        rw [W_id (by omega) (by omega)]
        congr 1
        simp only [Bool.and_assoc]
      unfold share_every_share_Right slices_ContainsFunc_Lshare_Right_share_Right slices_IndexFunc_Lshare_Right_share_Right
      have hany : c.Rights.any (fun e => share_every_share_Right_1 e c) = !c.Rights.all (okR c.States) := by
        rw [List.all_eq_not_any_not, Bool.not_not]
        congr 1
        exact funext hf
      rcases indexLoop (fun e => share_every_share_Right_1 e c) c.Rights (by omega) (fun s4 => slices_IndexFunc_Lshare_Right_share_Right_b4 N c.Rights c s4) (fun x => rfl) c.Rights.length 0 N (by omega) (by omega) with ⟨k, a1, a2, a3⟩ | ⟨a1, a2⟩
      · rw [List.drop_zero, hany] at a3
        rw [show ((0 : Nat) : Int) = 0 from rfl] at a1
        rw [a1]
        have : c.Rights.all (okR c.States) = false := by simpa using a3
        rw [this]
        simp [exK, a2]
      · rw [List.drop_zero, hany] at a2
        rw [show ((0 : Nat) : Int) = 0 from rfl] at a1
        rw [a1]
        have : c.Rights.all (okR c.States) = true := by simpa using a2
        rw [this]
        simp [exK]
    simp only [e, cond_false, hev, Option.bind_some]
    cases c.Rights.all (okR c.States) <;> rfl
  · have e : ((!share_in c.States 1 12) || (!share_in (c.Rights.length : Int) 1 30)) = true := by
      unfold share_in
      simp only [Bool.or_eq_true, Bool.not_eq_true', Bool.and_eq_false_iff, decide_eq_false_iff_not]
      omega
    rw [if_neg h]
    simp only [e, cond_true]
/-! ### What a compact gives -/
def r0 : share_Right := ⟨0, 0, 0⟩
structure COk (c : share_Compact) : Prop where
  s : 1 ≤ c.States ∧ c.States ≤ 12
  l : c.Rights.length ≤ 30
  el : ∀ i, i < c.Rights.length → 0 ≤ (c.Rights.getD i r0).State ∧ (c.Rights.getD i r0).State ≤ c.States - 1 ∧ 0 ≤ (c.Rights.getD i r0).Amount ∧ (c.Rights.getD i r0).Amount ≤ 1000000000 ∧ 0 ≤ (c.Rights.getD i r0).Loss ∧ (c.Rights.getD i r0).Loss ≤ 1000
theorem chk_ok {c : share_Compact} (h : chk c = 0) : COk c := by
  unfold chk at h
  split at h
  · rename_i hh
    cases ha : c.Rights.all (okR c.States) with
    | false => rw [ha] at h; simp at h
    | true =>
      refine ⟨⟨hh.1, hh.2.1⟩, hh.2.2.2, fun i hi => ?_⟩
      have := List.all_eq_true.1 ha c.Rights[i] (List.getElem_mem hi)
      rw [get_getD (d := r0) hi] at this
      unfold okR at this
      simp only [Bool.and_eq_true, decide_eq_true_eq] at this
      omega
  · omega

def olderR (c : share_Compact) : Nat → Int
  | 0 => 0
  | i + 1 => olderR c i + (c.Rights.getD i r0).Amount
def leftR (c : share_Compact) (flow : Int) (i : Nat) : Int := max 0 (flow - olderR c i)
def takeR (c : share_Compact) (flow : Int) (i : Nat) : Int := min (c.Rights.getD i r0).Amount (leftR c flow i)
def partR (c : share_Compact) (flow : Int) (i : Nat) : Int := takeR c flow i * (1000 - (c.Rights.getD i r0).Loss) / 1000
def gotF (c : share_Compact) (flow s : Int) : Nat → Int
  | 0 => 0
  | i + 1 => gotF c flow s i + cond ((c.Rights.getD i r0).State == s) (partR c flow i) 0
theorem leftR_succ {c : share_Compact} (h : COk c) {flow : Int} {i : Nat} (hi : i < c.Rights.length) : leftR c flow (i + 1) = leftR c flow i - takeR c flow i := by
  have := h.el i hi
  unfold takeR leftR
  rw [olderR]
  omega
theorem take_bd {c : share_Compact} (h : COk c) {flow : Int} {i : Nat} (hi : i < c.Rights.length) : 0 ≤ takeR c flow i ∧ takeR c flow i ≤ 1000000000 := by
  have := h.el i hi
  unfold takeR leftR
  omega
theorem part_bd {c : share_Compact} (h : COk c) {flow : Int} {i : Nat} (hi : i < c.Rights.length) : 0 ≤ takeR c flow i * (1000 - (c.Rights.getD i r0).Loss) ∧ takeR c flow i * (1000 - (c.Rights.getD i r0).Loss) ≤ 1000000000000 ∧ 0 ≤ partR c flow i ∧ partR c flow i ≤ 1000000000 := by
  have h1 := take_bd h (flow := flow) hi
  have h2 := h.el i hi
  have h3 := mul_bd (a := takeR c flow i) (b := 1000 - (c.Rights.getD i r0).Loss) (A := 1000000000) (B := 1000) h1.1 (by omega) h1.2 (by omega)
  unfold partR
  generalize takeR c flow i * (1000 - (c.Rights.getD i r0).Loss) = p at *
  omega
theorem got_bd {c : share_Compact} (h : COk c) {flow s : Int} : ∀ i, i ≤ c.Rights.length → 0 ≤ gotF c flow s i ∧ gotF c flow s i ≤ 1000000000 * i
  | 0, _ => by unfold gotF; omega
  | i + 1, hi => by
    have ih := got_bd h (flow := flow) (s := s) i (by omega)
    have := part_bd h (flow := flow) (i := i) (by omega)
    rw [gotF]
    cases ((c.Rights.getD i r0).State == s)
    · rw [cond_false]; omega
    · rw [cond_true]; omega
theorem older_bd {c : share_Compact} (h : COk c) : ∀ i, i ≤ c.Rights.length → 0 ≤ olderR c i ∧ olderR c i ≤ 1000000000 * i
  | 0, _ => by unfold olderR; omega
  | i + 1, hi => by
    have ih := older_bd h i (by omega)
    have := h.el i (by omega)
    rw [olderR]
    omega

def gotL (c : share_Compact) (flow : Int) : List Int := (List.range c.States.toNat).map fun s : Nat => gotF c flow (s : Int) c.Rights.length

theorem serve_spec {N : Nat} (hN : 60 ≤ N) {c : share_Compact} (h : COk c) {flow : Int} (hf : 0 ≤ flow ∧ flow ≤ 1000000000) : share_serve N c flow = some (gotL c flow) := by
  have hs := h.s
  have hl := h.l
  unfold share_serve share_office_taken share_office_taken_1
  have hb : ∀ i, i < c.Rights.length → share_office_taken_1_b3 N (⟨c, fun _ => 0⟩ : share_office) (rY (fun (zz : Nat → Int) (x : share_Right × Int) => share_serve_r5 N zz x.1 x.2)) (i : Int) (leftR c flow i) (.go fun s => gotF c flow (s : Int) i)
      = some (.cont (((i + 1 : Nat) : Int), leftR c flow (i + 1), .go fun s => gotF c flow (s : Int) (i + 1))) := by
    intro i hi
    have he := h.el i hi
    have ht := take_bd h (flow := flow) hi
    have hp := part_bd h (flow := flow) hi
    have hg := got_bd h (flow := flow) (s := ((c.Rights.getD i r0).State.toNat : Int)) i (by omega)
    unfold share_office_taken_1_b3
    show cond (decide ((i : Int) < (c.Rights.length : Int))) (Option.bind (getI c.Rights i) _) _ = _
    rw [lt_dec hi, cond_true, getI_nat hi, Option.bind_some, get_getD (d := r0) hi]
    show Option.bind (Option.map _ (share_serve_r5 N _ (c.Rights.getD i r0) (takeR c flow i))) _ = _
    unfold share_serve_r5
    have hir : inR (c.Rights.getD i r0).State 12 = some () := by unfold inR; rw [if_pos (by omega)]
    rw [hir, Option.bind_some, Option.bind_some, W_id (n := 1000 - (c.Rights.getD i r0).Loss) (by omega) (by omega), W_id (n := takeR c flow i * (1000 - (c.Rights.getD i r0).Loss)) (by omega) (by omega), tdiv_div hp.1]
    show Option.bind (some (Rs.go (setF _ _ (W (gotF c flow ((c.Rights.getD i r0).State.toNat : Int) i + W (partR c flow i)))), true)) _ = _
    have hbi : (1000000000 : Int) * i ≤ 30000000000 := by omega
    rw [W_id (n := partR c flow i) (by omega) (by omega), W_id (n := gotF c flow ((c.Rights.getD i r0).State.toNat : Int) i + partR c flow i) (by omega) (by omega)]
    show some (Step.cont (W ((i : Int) + 1), W (leftR c flow i - takeR c flow i), _)) = _
    rw [W_succ (by omega), ← leftR_succ h hi, W_id (n := leftR c flow (i + 1)) (by unfold leftR; omega) (by unfold leftR; have := older_bd h (i + 1) (by omega); omega)]
    congr 4
    refine congrArg Rs.go (funext fun s => ?_)
    rw [gotF]
    by_cases hsk : s = (c.Rights.getD i r0).State.toNat
    · subst hsk
      rw [setF_self]
      have : ((c.Rights.getD i r0).State == (((c.Rights.getD i r0).State.toNat : Nat) : Int)) = true := beq_iff_eq.2 (by omega)
      rw [this, cond_true]
    · rw [setF_ne hsk]
      have : ((c.Rights.getD i r0).State == ((s : Nat) : Int)) = false := beq_eq_false_iff_ne.2 (by omega)
      rw [this, cond_false, Int.add_zero]
  have he : share_office_taken_1_b3 N (⟨c, fun _ => 0⟩ : share_office) (rY (fun (zz : Nat → Int) (x : share_Right × Int) => share_serve_r5 N zz x.1 x.2)) (c.Rights.length : Int) (leftR c flow c.Rights.length) (.go fun s => gotF c flow (s : Int) c.Rights.length)
      = some (.brk ((c.Rights.length : Int), leftR c flow c.Rights.length, .go fun s => gotF c flow (s : Int) c.Rights.length)) := by
    unfold share_office_taken_1_b3
    show cond (decide ((c.Rights.length : Int) < (c.Rights.length : Int))) _ _ = _
    rw [ge_dec, cond_false]
  have := runS (fun i : Nat => ((i : Int), leftR c flow i, (Rs.go fun s : Nat => gotF c flow (s : Int) i : Rs (Nat → Int)))) c.Rights.length (fun s3 => share_office_taken_1_b3 N (⟨c, fun _ => 0⟩ : share_office) (rY (fun (zz : Nat → Int) (x : share_Right × Int) => share_serve_r5 N zz x.1 x.2)) s3.1 s3.2.1 s3.2.2) hb he (N := N) (by omega)
  have e0 : leftR c flow 0 = flow := by unfold leftR olderR; omega
  rw [e0] at this
  rw [Option.bind_some]
  show Option.bind (Option.bind (loopO _ N (((0 : Nat) : Int), flow, Rs.go fun s : Nat => gotF c flow (s : Int) 0)) _) _ = _
  rw [this]
  show Option.bind (subO (aL 12 fun s : Nat => gotF c flow (s : Int) c.Rights.length) 0 c.States) _ = _
  unfold subO
  rw [aL_len, if_pos (by omega), Option.bind_some]
  unfold slices_Clone_Lint_int
  rw [room_ok (by simp [aL]; omega), Option.bind_some, Option.bind_some]
  unfold aL gotL
  rw [show (0 : Int).toNat = 0 from rfl, List.drop_zero, Nat.sub_zero, ← List.map_take, List.take_range, Nat.min_eq_left (by omega)]
def okF (flow : Int) : Bool := decide (0 ≤ flow) && decide (flow ≤ 1000000000)
def realF (c : share_Compact) (flow : Int) : List Int × Int := if chk c = 0 then (if okF flow then (gotL c flow, 0) else ([], 4)) else ([], chk c)
theorem real_prog {N : Nat} (hN : 60 ≤ N) {c : share_Compact} {flow : Int} : share_Real N c flow = some (realF c flow) := by
  unfold share_Real realF
  rw [check_prog hN, Option.bind_some]
  by_cases h : chk c = 0
  · rw [if_pos h, h]
    show cond (!(share_water flow)) _ _ = _
    have e : share_water flow = okF flow := rfl
    rw [e]
    cases hf : okF flow with
    | false => rfl
    | true =>
      unfold okF at hf
      simp only [Bool.and_eq_true, decide_eq_true_eq] at hf
      rw [serve_spec hN (chk_ok h) hf]
      rfl
  · have : (chk c != 0) = true := bne_iff_ne.2 h
    rw [if_neg h, this]
    rfl
def okA (s : api_Span) : Bool := decide (0 ≤ s.Lo) && decide (s.Lo ≤ s.Hi) && decide (s.Hi ≤ 1000000000)
def spanL (c : share_Compact) (s : api_Span) (n : Nat) : List api_Span := (List.range n).map fun k : Nat => (⟨gotF c s.Lo (k : Int) c.Rights.length, gotF c s.Hi (k : Int) c.Rights.length⟩ : api_Span)
def sharesF (c : share_Compact) (s : api_Span) : List api_Span × Int := if chk c = 0 then (if okA s then (spanL c s c.States.toNat, 0) else ([], 4)) else ([], chk c)
theorem gotL_len (c : share_Compact) (flow : Int) : (gotL c flow).length = c.States.toNat := by simp [gotL]
theorem gotL_get {c : share_Compact} {flow : Int} {i : Nat} (hi : i < c.States.toNat) : getI (gotL c flow) (i : Int) = some (gotF c flow (i : Int) c.Rights.length) := by
  rw [getI_nat (by rw [gotL_len]; exact hi)]
  simp [gotL]
theorem spanL_succ (c : share_Compact) (s : api_Span) (n : Nat) : spanL c s (n + 1) = spanL c s n ++ [(⟨gotF c s.Lo (n : Int) c.Rights.length, gotF c s.Hi (n : Int) c.Rights.length⟩ : api_Span)] := by
  unfold spanL
  rw [List.range_succ, List.map_append]
  rfl
theorem spanL_len (c : share_Compact) (s : api_Span) (n : Nat) : (spanL c s n).length = n := by simp [spanL]
theorem shares_prog {N : Nat} (hN : 60 ≤ N) {c : share_Compact} {s : api_Span} : share_Shares N c s = some (sharesF c s) := by
  unfold share_Shares sharesF
  rw [check_prog hN, Option.bind_some]
  by_cases h : chk c = 0
  · rw [if_pos h, h]
    show cond (!(share_waters s)) _ _ = _
    have e : share_waters s = okA s := by
      unfold share_waters share_water share_in okA
      rw [Bool.eq_iff_iff]
      simp only [Bool.and_eq_true, decide_eq_true_eq]
      omega
    rw [e]
    cases hf : okA s with
    | false => rfl
    | true =>
      unfold okA at hf
      simp only [Bool.and_eq_true, decide_eq_true_eq] at hf
      have hc := chk_ok h
      have hs := hc.s
      rw [Bool.not_true, cond_false, serve_spec hN hc (by omega), Option.bind_some, serve_spec hN hc (by omega), Option.bind_some]
      have := runS (ρ := List api_Span × Int) (fun i : Nat => (spanL c s i, (i : Int))) c.States.toNat (fun s12 => share_Shares_b12 N (gotL c s.Lo) (gotL c s.Hi) s12.1 s12.2) (fun i hi => by
        show share_Shares_b12 N (gotL c s.Lo) (gotL c s.Hi) (spanL c s i) (i : Int) = _
        unfold share_Shares_b12
        rw [gotL_len, lt_dec hi, cond_true, gotL_get hi, gotL_get hi, Option.bind_some, Option.bind_some, ← spanL_succ, room_ok (by rw [spanL_len]; omega), Option.bind_some, W_succ (by omega)]) (by
        show share_Shares_b12 N (gotL c s.Lo) (gotL c s.Hi) (spanL c s c.States.toNat) (c.States.toNat : Int) = _
        unfold share_Shares_b12
        rw [gotL_len, ge_dec, cond_false]) (N := N) (by omega)
      show Option.bind (loopO _ N (spanL c s 0, ((0 : Nat) : Int))) _ = _
      rw [this]
      rfl
  · have : (chk c != 0) = true := bne_iff_ne.2 h
    rw [if_neg h, this]
    rfl



end Go.Nilo
