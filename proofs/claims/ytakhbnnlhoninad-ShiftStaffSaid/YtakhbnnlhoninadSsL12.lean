/-
  What the plain functions compute, in plain arithmetic, part 12. Conditions: what each theorem names.
-/
import Derived.Test.YtakhbnnlhoninadSsL11
set_option linter.unusedSimpArgs false
set_option linter.unusedVariables false
namespace Go.Nilo
theorem Passes_ok {N : Nat} (hN : 700 ≤ N) {r : shift_Record} (hr : RecOk r) (h : (passes r).all spanOk = true) : shift_Passes N r = some (passes r,0) := by
 unfold shift_Passes
 rcases opened_ok hN hr with ⟨o,-,k⟩ | ⟨k,-⟩
 ·rw [h] at k
  cases k
 rw [k]
 rfl
theorem Can_ok {N : Nat} (hN : 700 ≤ N) {r : shift_Record} (hr : RecOk r) (h : (passes r).all spanOk = true) {most : Int} (h1 : 0 ≤ most ∧ most ≤ 18000) : shift_Can N r most = some (if (canF (passes r) most).all spanOk = true then (canF (passes r) most,0) else ([],5)) := by
 have hv := passes_vl hr h
 unfold shift_Can
 rcases opened_ok hN hr with ⟨o,-,k⟩ | ⟨k,-⟩
 ·rw [h] at k
  cases k
 rw [k,Option.bind_some]
 show cond (!(shift_in most 0 18000)) _ (Option.bind (shift_can N (passes r) most) _) = _
 rw [in_dec,dT h1,Bool.not_true,cond_false,can_spec hN hv,Option.bind_some]
 cases (canF (passes r) most).all spanOk <;> rfl
def rising (l : List shift_Mark) (at_ rise per : Int) : api_Ratio := red ((mean l at_).N * max 0 (1000 + rise * per)) (1000 * (mean l at_).D)
theorem rise_bd {l : List shift_Mark} (hl : ROk l) {at_ rise per : Int} (h3 : -1000 ≤ rise ∧ rise ≤ 1000) (h4 : 0 ≤ per ∧ per ≤ 1000) :
  (-1000000 ≤ rise * per ∧ rise * per ≤ 1000000) ∧ 0 ≤ (mean l at_).N * max 0 (1000 + rise * per) ∧ (mean l at_).N * max 0 (1000 + rise * per) ≤ 4004000000000000000 := by
 obtain ⟨a,b,c,-,-⟩ := mean_val hl at_
 have d := mean_le hl at_
 have hp := absmul (x := rise) (y := per) (A := 1000) (B := 1000) (by omega) (by omega)
 have hn : (mean l at_).N ≤ 4000000000000 := by
  have : 1000000000 * (mean l at_).D ≤ 4000000000000 := by omega
  omega
 have := mul_bd c (show 0 ≤ max 0 (1000 + rise * per) by omega) hn (show max 0 (1000 + rise * per) ≤ 1001000 by omega)
 omega
theorem Rising_ok {N : Nat} (hN : 700 ≤ N) {l : List shift_Mark} (hl : ROk l) {at_ sh rise per : Int} (h1 : -2000 ≤ at_ ∧ at_ ≤ 2000) (h2 : -300 ≤ sh ∧ sh ≤ 300) (h3 : -1000 ≤ rise ∧ rise ≤ 1000) (h4 : 0 ≤ per ∧ per ≤ 1000) :
  shift_Rising N l at_ sh rise per = some (rising l (at_ - sh) rise per,0) := by
 unfold shift_Rising
 obtain ⟨a,b,c,-,-⟩ := mean_val hl (at_ - sh)
 obtain ⟨⟨b1,b2⟩,b3,b4⟩ := rise_bd hl (at_ := at_ - sh) h3 h4
 rw [asked_spec hN (by have := hl.l12; omega),askF_zero.2 ⟨hl,h1,h2⟩,Option.bind_some,in_dec,in_dec,dT h3,dT h4]
 show shift_Rising_j3 N l at_ sh rise per 0 = _
 unfold shift_Rising_j3
 show Option.bind (shift_means N l (W (at_ - sh))) _ = _
 rw [W_sm (n := at_ - sh) (by omega) (by omega),means_spec hN hl (by omega),Option.bind_some,W_sm (n := rise * per) (by omega) (by omega),W_sm (n := 1000 + rise * per) (by omega) (by omega),W_id (by omega) (by omega),W_sm (by omega) (by omega),ratio_spec hN (by omega) (by omega) b3 (by omega)]
 rfl
def tn0 : shift_Turn := ⟨0,false⟩
def zend (S : List api_Span) (t : shift_Turn) : Int := bif t.Up then (S.getD t.Gauging.toNat s00).Hi else (S.getD t.Gauging.toNat s00).Lo
structure TOk (n : Nat) (l : List shift_Turn) : Prop where
 len : l.length ≤ 1000
 rg : ∀ t ∈ l,0 ≤ t.Gauging ∧ t.Gauging < n
 up : ∀ i,i + 1 < l.length → (l.getD i tn0).Gauging < (l.getD (i + 1) tn0).Gauging ∧ (l.getD i tn0).Up ≠ (l.getD (i + 1) tn0).Up
theorem TOk.at_ {n : Nat} {l : List shift_Turn} (h : TOk n l) {i : Nat} (hi : i < l.length) : 0 ≤ (l.getD i tn0).Gauging ∧ (l.getD i tn0).Gauging < n := by
 rw [← get_getD hi]
 exact h.rg _ (List.getElem_mem _)
def zstep (S : List api_Span) (l : List shift_Turn) (i : Nat) : Int := bif (l.getD i tn0).Up then zend S (l.getD (i - 1) tn0) - zend S (l.getD i tn0) else zend S (l.getD i tn0) - zend S (l.getD (i - 1) tn0)
def zsum (S : List api_Span) (l : List shift_Turn) : Nat → Int
 | 0 => 0
 | i + 1 => if i = 0 then 0 else zsum S l i + zstep S l i
theorem zsum_bd {S : List api_Span} (hS : ∀ s ∈ S,SOkS s) {l : List shift_Turn} (h : TOk S.length l) : ∀ i : Nat,i ≤ l.length → -600 * (i : Int) ≤ zsum S l i ∧ zsum S l i ≤ 600 * (i : Int)
 | 0,_ => by simp [zsum]
 | i + 1,hi => by
  have ih := zsum_bd hS h i (by omega)
  unfold zsum
  split
  ·push_cast
   omega
  ·have he : ∀ j,j < l.length → -300 ≤ zend S (l.getD j tn0) ∧ zend S (l.getD j tn0) ≤ 300 := fun j hj => by
    have hr := h.at_ hj
    have hs : SOkS (S.getD (l.getD j tn0).Gauging.toNat s00) := by
     rw [← get_getD (by omega)]
     exact hS _ (List.getElem_mem _)
    unfold zend
    unfold SOkS at hs
    cases (l.getD j tn0).Up with
    | true => rw [cond_true]; omega
    | false => rw [cond_false]; omega
   have h1 := he i (by omega)
   have h2 := he (i - 1) (by omega)
   unfold zstep
   push_cast
   cases (l.getD i tn0).Up with
   | true => rw [cond_true]; omega
   | false => rw [cond_false]; omega
theorem every_turn {N : Nat} {l : List shift_Turn} {r : shift_Record} (hl : l.length < N) (hl' : l.length ≤ 1000000) : shift_every_shift_Turn N l r = some (l.all fun t => shift_Proves_1 t r) := by
 unfold shift_every_shift_Turn slices_ContainsFunc_Lshift_Turn_shift_Turn slices_IndexFunc_Lshift_Turn_shift_Turn
 exact every_gen (f := fun t => shift_every_shift_Turn_1 t r) (ok := fun t => shift_Proves_1 t r) (fun x => rfl) hl hl' _ (fun x => rfl)
theorem Proves_ok {N : Nat} (hN : 700 ≤ N) {r : shift_Record} (hr : RecOk r) (h : (passes r).all spanOk = true) {l : List shift_Turn} (hl : TOk (passes r).length l) (hlen : l.length ≤ 100) : shift_Proves N r l = some (zsum (passes r) l l.length,0) := by
 have hv := passes_vl hr h
 have hpl : (passes r).length = r.Gaugings.length := by simp [passes]
 have h30 := hr.g30
 have h1 := hr.g1
 unfold shift_Proves
 rcases opened_ok hN hr with ⟨o,-,k⟩ | ⟨k,-⟩
 ·rw [h] at k
  cases k
 rw [k,Option.bind_some]
 show Option.bind (shift_every_shift_Turn N l r) _ = _
 rw [every_turn (by omega) (by omega),Option.bind_some]
 have hall : (l.all fun t => shift_Proves_1 t r) = true := by
  rw [List.all_eq_true]
  intro t ht
  have := hl.rg t ht
  unfold shift_Proves_1
  rw [W_sm (by omega) (by omega),in_dec]
  exact dT (by omega)
 rw [hall,Bool.not_true,cond_false]
 have := runS (ρ := Int × Int) (fun i : Nat => ((zsum (passes r) l i,(i : Int)) : Int × Int)) l.length (fun s32 => shift_Proves_b32 N l (passes r,0) s32.1 s32.2) (fun i hi => by
  show shift_Proves_b32 N l (passes r,0) (zsum (passes r) l i) (i : Int) = _
  unfold shift_Proves_b32
  rw [lt_dec hi,cond_true,getI_d tn0 hi,Option.bind_some]
  unfold shift_Proves_j36
  rw [W_succ (by omega)]
  rcases Nat.eq_zero_or_pos i with h0 | h0
  ·subst h0
   rfl
  ·have e0 : (((i : Nat) : Int) == 0) = false := by simp; omega
   have hu := hl.up (i - 1) (by omega)
   rw [Nat.sub_add_cancel h0] at hu
   have r1 := hl.at_ hi
   have r2 := hl.at_ (i := i - 1) (by omega)
   have hb := zsum_bd hv.ok hl (i + 1) (by omega)
   have hb0 := zsum_bd hv.ok hl i (by omega)
   have hz : zsum (passes r) l (i + 1) = zsum (passes r) l i + zstep (passes r) l i := by
    show (if i = 0 then _ else _) = _
    rw [if_neg (by omega)]
   have e1 : (decide ((l.getD i tn0).Gauging ≤ (l.getD (i - 1) tn0).Gauging)) = false := dF (by omega)
   have e2 : ((l.getD i tn0).Up == (l.getD (i - 1) tn0).Up) = false := by
    rw [beq_eq_false_iff_ne]
    exact fun c => hu.2 c.symm
   have g1 : getI (passes r) (l.getD (i - 1) tn0).Gauging = some ((passes r).getD (l.getD (i - 1) tn0).Gauging.toNat s00) := by
    have := getI_d (l := passes r) s00 (i := (l.getD (i - 1) tn0).Gauging.toNat) (by omega)
    rwa [show (((l.getD (i - 1) tn0).Gauging.toNat : Nat) : Int) = (l.getD (i - 1) tn0).Gauging by omega] at this
   have g2 : getI (passes r) (l.getD i tn0).Gauging = some ((passes r).getD (l.getD i tn0).Gauging.toNat s00) := by
    have := getI_d (l := passes r) s00 (i := (l.getD i tn0).Gauging.toNat) (by omega)
    rwa [show (((l.getD i tn0).Gauging.toNat : Nat) : Int) = (l.getD i tn0).Gauging by omega] at this
   rw [e0,cond_false,W_sm (n := (i : Int) - 1) (by omega) (by omega),show ((i : Nat) : Int) - 1 = ((i - 1 : Nat) : Int) by omega,getI_d tn0 (by omega),Option.bind_some,e1,e2,Bool.or_false,cond_false,g1,Option.bind_some,g2,Option.bind_some]
   have ez : ∀ t : shift_Turn,(bif (shift_Turn_ends t) then (shift_Turn_ends_1 ((passes r).getD t.Gauging.toNat s00)) else (shift_Turn_ends_2 ((passes r).getD t.Gauging.toNat s00))) = zend (passes r) t := fun t => by
    unfold shift_Turn_ends zend
    cases t.Up <;> rfl
   rw [ez,ez]
   have hzs : zstep (passes r) l i = bif (l.getD i tn0).Up then zend (passes r) (l.getD (i - 1) tn0) - zend (passes r) (l.getD i tn0) else zend (passes r) (l.getD i tn0) - zend (passes r) (l.getD (i - 1) tn0) := rfl
   cases hup : (l.getD i tn0).Up with
   | true =>
    rw [hup,cond_true] at hzs
    rw [cond_true,← hzs,W_sm (n := zstep (passes r) l i) (by omega) (by omega),W_sm (by omega) (by omega),hz]
   | false =>
    rw [hup,cond_false] at hzs
    rw [cond_false,← hzs,W_sm (n := zstep (passes r) l i) (by omega) (by omega),W_sm (by omega) (by omega),hz]) (by
  show shift_Proves_b32 N l (passes r,0) _ (l.length : Int) = _
  unfold shift_Proves_b32
  rw [ge_dec,cond_false]) (N := N) (by omega)
 show Option.bind (loopO _ N (zsum (passes r) l 0,((0 : Nat) : Int))) _ = _
 rw [this]
 rfl
def adN (gs : List shift_Gauging) (day : Int) : Nat → Nat
 | 0 => 0
 | i + 1 => if (gs.getD i g0).Day < day then i + 1 else adN gs day i
def mpN (gs : List shift_Gauging) : Nat → Int → Option Int
 | 0 => fun _ => none
 | i + 1 => setM (mpN gs i) (gs.getD i g0).Day (i : Int)
theorem days_lt {r : shift_Record} (hr : RecOk r) {i j : Nat} (hij : i < j) (hj : j < r.Gaugings.length) : (r.Gaugings.getD i g0).Day < (r.Gaugings.getD j g0).Day := by
 obtain ⟨k,rfl⟩ : ∃ k,j = i + k + 1 := ⟨j - i - 1,by omega⟩
 clear hij
 induction k with
 | zero => exact hr.d i hj
 | succ k ih =>
  have h1 := ih (by omega)
  have h2 := hr.d (i + k + 1) (by omega)
  have e : i + (k + 1) + 1 = i + k + 1 + 1 := by omega
  rw [e]
  omega
theorem ad_spec {r : shift_Record} (hr : RecOk r) (day : Int) : ∀ i,i ≤ r.Gaugings.length → adN r.Gaugings day i ≤ i ∧ (∀ j,j < adN r.Gaugings day i → (r.Gaugings.getD j g0).Day < day) ∧ ∀ j,adN r.Gaugings day i ≤ j → j < i → day ≤ (r.Gaugings.getD j g0).Day
 | 0,_ => ⟨Nat.le_refl _,fun j hj => by simp [adN] at hj,fun j _ hj => by omega⟩
 | i + 1,hi => by
  obtain ⟨h1,h2,h3⟩ := ad_spec hr day i (by omega)
  unfold adN
  split
  ·rename_i h
   refine ⟨Nat.le_refl _,fun j hj => ?_,fun j h4 h5 => by omega⟩
   rcases Nat.lt_or_eq_of_le (show j ≤ i by omega) with c | c
   ·have := days_lt hr c (by omega)
    omega
   ·subst c
    exact h
  ·rename_i h
   refine ⟨by omega,h2,fun j h4 h5 => ?_⟩
   rcases Nat.lt_or_eq_of_le (show j ≤ i by omega) with c | c
   ·exact h3 j h4 c
   ·subst c
    omega
theorem mp_spec (gs : List shift_Gauging) (day : Int) : ∀ n,((mpN gs n) day).isSome = true ↔ ∃ i,i < n ∧ (gs.getD i g0).Day = day
 | 0 => by simp [mpN]
 | n + 1 => by
  have ih := mp_spec gs day n
  unfold mpN setM
  by_cases h : day = (gs.getD n g0).Day
  ·subst h
   simp only [if_true,Option.isSome_some,true_iff]
   exact ⟨n,by omega,rfl⟩
  ·rw [if_neg h,ih]
   constructor
   ·rintro ⟨i,a,b⟩
    exact ⟨i,by omega,b⟩
   ·rintro ⟨i,a,b⟩
    rcases Nat.lt_or_eq_of_le (show i ≤ n by omega) with c | c
    ·exact ⟨i,c,b⟩
    ·subst c
     exact absurd b.symm h
def adF (r : shift_Record) (day : Int) : Nat := adN r.Gaugings day r.Gaugings.length
def metF (r : shift_Record) (day : Int) : Bool := ((mpN r.Gaugings r.Gaugings.length) day).isSome
def spansB (r : shift_Record) (day : Int) : List api_Span := if metF r day = true then passes r else (passes r).take (adF r day) ++ [(⟨-300,300⟩ : api_Span)] ++ (passes r).drop (adF r day)
theorem ad_lt {r : shift_Record} (hr : RecOk r) (day : Int) : adF r day ≤ r.Gaugings.length ∧ (metF r day = true → adF r day < r.Gaugings.length ∧ (r.Gaugings.getD (adF r day) g0).Day = day) := by
 obtain ⟨h1,h2,h3⟩ := ad_spec hr day r.Gaugings.length (Nat.le_refl _)
 refine ⟨h1,fun h => ?_⟩
 obtain ⟨i,a,b⟩ := (mp_spec _ _ _).1 h
 have hle : adF r day ≤ i := by
  rcases Nat.lt_or_ge i (adF r day) with c | c
  ·have := h2 i c
   omega
  ·exact c
 have hl : adF r day < r.Gaugings.length := by omega
 refine ⟨hl,?_⟩
 have h4 := h3 (adF r day) (Nat.le_refl _) hl
 rcases Nat.lt_or_eq_of_le hle with c | c
 ·have := days_lt hr c a
  omega
 ·rw [c]
  exact b
theorem spansB_len {r : shift_Record} (hr : RecOk r) (day : Int) : (spansB r day).length = if metF r day = true then r.Gaugings.length else r.Gaugings.length + 1 := by
 have := (ad_lt hr day).1
 unfold spansB passes
 split
 ·simp
 ·simp
  omega
theorem spansB_vl {r : shift_Record} (hr : RecOk r) (h : (passes r).all spanOk = true) (day : Int) : VL (spansB r day) := by
 have hv := passes_vl hr h
 have h30 := hr.g30
 have h1 := hr.g1
 have hl := spansB_len hr day
 refine ⟨?_,?_,fun s hs => ?_⟩
 ·rw [hl]
  split <;> omega
 ·rw [hl]
  split <;> omega
 ·unfold spansB at hs
  split at hs
  ·exact hv.ok s hs
  ·rcases List.mem_append.1 hs with k | k
   ·rcases List.mem_append.1 k with k | k
    ·exact hv.ok s (List.mem_of_mem_take k)
    ·simp only [List.mem_singleton] at k
     subst k
     exact ⟨by decide,by decide,by decide⟩
   ·exact hv.ok s (List.mem_of_mem_drop k)
theorem spansB_lt {r : shift_Record} (hr : RecOk r) (day : Int) : adF r day < (spansB r day).length := by
 obtain ⟨h1,h2⟩ := ad_lt hr day
 rw [spansB_len hr day]
 split
 ·rename_i h
  exact (h2 h).1
 ·omega
def betF (r : shift_Record) (most day at_ : Int) : api_Span × Int :=
 if (canF (spansB r day) most).all spanOk = true then
  (⟨(mean r.Rating (at_ - (cspan (spansB r day) most (adF r day)).Hi)).N / (mean r.Rating (at_ - (cspan (spansB r day) most (adF r day)).Hi)).D,
   ((mean r.Rating (at_ - (cspan (spansB r day) most (adF r day)).Lo)).N + (mean r.Rating (at_ - (cspan (spansB r day) most (adF r day)).Lo)).D - 1) / (mean r.Rating (at_ - (cspan (spansB r day) most (adF r day)).Lo)).D⟩,0)
 else (⟨0,0⟩,5)
theorem cspan_bd {l : List api_Span} (h : VL l) {most : Int} (ha : (canF l most).all spanOk = true) {i : Nat} (hi : i < l.length) : -300 ≤ (cspan l most i).Lo ∧ (cspan l most i).Lo ≤ (cspan l most i).Hi ∧ (cspan l most i).Hi ≤ 300 ∧ (l.getD i s00).Lo ≤ (cspan l most i).Lo ∧ (cspan l most i).Hi ≤ (l.getD i s00).Hi := by
 have hs := h.at_ hi
 have hok : spanOk (cspan l most i) = true := by
  unfold canF at ha
  rw [List.all_map,List.all_eq_true] at ha
  exact ha i (List.mem_range.2 hi)
 rcases cspan_spec h (most := most) (i := i) hi with ⟨a,b,c,d⟩ | ⟨b,_⟩
 ·have h1 := of_decide_eq_true a
  unfold canP at b c
  rw [Bool.and_eq_true,decide_eq_true_eq] at b c
  have := hs.1
  have := hs.2.2
  omega
 ·rw [hok] at b
  cases b
theorem Between_ok {N : Nat} (hN : 700 ≤ N) {r : shift_Record} (hr : RecOk r) (h : (passes r).all spanOk = true) {most day at_ : Int} (h1 : 0 ≤ most ∧ most ≤ 18000) (h2 : 0 ≤ day ∧ day ≤ 40000) (h3 : -2000 ≤ at_ ∧ at_ ≤ 2000) :
  shift_Between N r most day at_ = some (betF r most day at_) := by
 have hv := passes_vl hr h
 have hvb := spansB_vl hr h day
 have hlt := spansB_lt hr day
 have h30 := hr.g30
 have hpl : (passes r).length = r.Gaugings.length := by simp [passes]
 unfold shift_Between
 rcases opened_ok hN hr with ⟨o,-,k⟩ | ⟨k,-⟩
 ·rw [h] at k
  cases k
 rw [k,Option.bind_some]
 show cond (((!(shift_in most 0 18000)) || (!(shift_in day 0 40000))) || (!(shift_in at_ (-2000) 2000))) _ _ = _
 rw [in_dec,in_dec,in_dec,dT h1,dT h2,dT h3]
 show Option.bind (loopO _ N (((0 : Nat) : Int),((0 : Nat) : Int),mpN r.Gaugings 0)) _ = _
 have := runS (ρ := api_Span × Int) (fun i : Nat => ((((adN r.Gaugings day i : Nat) : Int),(i : Int),mpN r.Gaugings i) : Int × Int × (Int → Option Int))) r.Gaugings.length (fun s29 => shift_Between_b29 N r day s29.1 s29.2.1 s29.2.2) (fun i hi => by
  show shift_Between_b29 N r day ((adN r.Gaugings day i : Nat) : Int) (i : Int) (mpN r.Gaugings i) = _
  unfold shift_Between_b29 shift_Between_j42
  rw [lt_dec hi,cond_true,getI_d g0 hi,Option.bind_some,W_succ (by omega)]
  show _ = some (Step.cont (((if (r.Gaugings.getD i g0).Day < day then i + 1 else adN r.Gaugings day i : Nat) : Int),((i + 1 : Nat) : Int),setM (mpN r.Gaugings i) (r.Gaugings.getD i g0).Day (i : Int)))
  by_cases hd : (r.Gaugings.getD i g0).Day < day
  ·rw [dT hd,if_pos hd,cond_true]
  ·rw [dF hd,if_neg hd,cond_false]) (by
  show shift_Between_b29 N r day _ (r.Gaugings.length : Int) _ = _
  unfold shift_Between_b29
  rw [ge_dec,cond_false]) (N := N) (by omega)
 have e0 : (((0 : Nat) : Int),((0 : Nat) : Int),mpN r.Gaugings 0) = ((((adN r.Gaugings day 0 : Nat) : Int),((0 : Nat) : Int),mpN r.Gaugings 0) : Int × Int × (Int → Option Int)) := rfl
 rw [e0,this,Option.bind_some]
 have hj : shift_Between_j31 N r most at_ ((adF r day : Nat) : Int) (spansB r day) = some (betF r most day at_) := by
  unfold shift_Between_j31 betF
  rw [can_spec hN hvb,Option.bind_some]
  cases hca : (canF (spansB r day) most).all spanOk with
  | false => rfl
  | true =>
   have hg : getI (canF (spansB r day) most) ((adF r day : Nat) : Int) = some (cspan (spansB r day) most (adF r day)) := by
    rw [getI_d s00 (by rw [canF_len]; exact hlt),canF_get hlt]
   obtain ⟨b1,b2,b3,-,-⟩ := cspan_bd hvb hca hlt
   show Option.bind (getI (canF (spansB r day) most) ((adF r day : Nat) : Int)) _ = _
   rw [hg,Option.bind_some,W_sm (by omega) (by omega),means_spec hN hr.rt (by omega),Option.bind_some]
   show Option.bind (getI (canF (spansB r day) most) ((adF r day : Nat) : Int)) _ = _
   rw [hg,Option.bind_some,W_sm (by omega) (by omega),means_spec hN hr.rt (by omega),Option.bind_some,if_pos rfl]
   generalize (cspan (spansB r day) most (adF r day)).Hi = u at *
   generalize (cspan (spansB r day) most (adF r day)).Lo = v at *
   obtain ⟨p1,p2,p3,-,-⟩ := mean_val hr.rt (at_ - u)
   obtain ⟨q1,q2,q3,-,-⟩ := mean_val hr.rt (at_ - v)
   have p4 := mean_le hr.rt (at_ - u)
   have q4 := mean_le hr.rt (at_ - v)
   have z1 : nz (mean r.Rating (at_ - u)).D = some () := by unfold nz; rw [if_neg (by omega)]
   have z2 : nz (mean r.Rating (at_ - v)).D = some () := by unfold nz; rw [if_neg (by omega)]
   rw [z1,Option.bind_some,z2,Option.bind_some,W_sm (n := (mean r.Rating (at_ - v)).N + (mean r.Rating (at_ - v)).D) (by omega) (by omega),W_sm (n := (mean r.Rating (at_ - v)).N + (mean r.Rating (at_ - v)).D - 1) (by omega) (by omega),tdiv_div p3,tdiv_div (by omega)]
   have d1 := Int.ediv_le_self (mean r.Rating (at_ - u)).D p3
   have d2 := Int.ediv_nonneg p3 (show 0 ≤ (mean r.Rating (at_ - u)).D by omega)
   have d3 := Int.ediv_le_self (mean r.Rating (at_ - v)).D (show 0 ≤ (mean r.Rating (at_ - v)).N + (mean r.Rating (at_ - v)).D - 1 by omega)
   have d4 := Int.ediv_nonneg (show 0 ≤ (mean r.Rating (at_ - v)).N + (mean r.Rating (at_ - v)).D - 1 by omega) (show 0 ≤ (mean r.Rating (at_ - v)).D by omega)
   generalize (mean r.Rating (at_ - u)).N / (mean r.Rating (at_ - u)).D = x at *
   generalize ((mean r.Rating (at_ - v)).N + (mean r.Rating (at_ - v)).D - 1) / (mean r.Rating (at_ - v)).D = y at *
   rw [W_sm (n := x) (by omega) (by omega),W_sm (n := y) (by omega) (by omega)]
 show cond (!(metF r day)) _ (shift_Between_j31 N r most at_ ((adF r day : Nat) : Int) (passes r)) = _
 cases hm : metF r day with
 | true =>
  have : spansB r day = passes r := by unfold spansB; rw [hm,if_pos rfl]
  rw [this] at hj
  exact hj
 | false =>
  have hs : spansB r day = (passes r).take (adF r day) ++ [(⟨-300,300⟩ : api_Span)] ++ (passes r).drop (adF r day) := by unfold spansB; rw [hm,if_neg (by simp)]
  have hle := (ad_lt hr day).1
  rw [Bool.not_false,cond_true]
  have hc : slices_Clone_Lapi_Span_api_Span N (passes r) = some (passes r) := by
   unfold slices_Clone_Lapi_Span_api_Span
   rw [room_ok (by omega)]
   rfl
  rw [hc,Option.bind_some]
  have hi : slices_Insert_Lapi_Span_api_Span N (passes r) ((adN r.Gaugings day r.Gaugings.length : Nat) : Int) ([(⟨(-300),300⟩ : api_Span)] : List api_Span) = some (spansB r day) := by
   unfold slices_Insert_Lapi_Span_api_Span insO
   rw [hs,if_pos (by simp only [List.length_singleton]; unfold adF at hle; omega),Int.toNat_natCast]
   rfl
  show Option.bind (slices_Insert_Lapi_Span_api_Span N (passes r) ((adN r.Gaugings day r.Gaugings.length : Nat) : Int) _) _ = _
  rw [hi,Option.bind_some]
  exact hj
end Go.Nilo
