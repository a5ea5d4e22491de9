/-
  What the plain functions compute, in plain arithmetic, part 4. Conditions: what each theorem names.
-/
import Derived.Test.YtakhbnnlhoninaeGreatThL3
set_option linter.unusedSimpArgs false
set_option linter.unusedVariables false
namespace Go.Nilo
theorem firstG_range {ρ : Type} {p : Nat → Bool} {v : ρ} : ∀ n i,firstG (fun j => cond (p j) none (some v)) i n = cond ((List.range' i n).all p) none (some v)
 | 0,i => rfl
 | n + 1,i => by
  unfold firstG
  rw [List.range'_succ,List.all_cons]
  cases hp : p i with
  | true => simpa using firstG_range n (i + 1)
  | false => rfl
theorem range_all {p : Nat → Bool} {n : Nat} : (List.range' 0 n).all p = true ↔ ∀ j,j < n → p j = true := by
 rw [List.all_eq_true]
 constructor
 ·intro h j hj
  exact h j (by rw [List.mem_range'_1]; omega)
 ·intro h j hj
  rw [List.mem_range'_1] at hj
  exact h j (by omega)
theorem in_dec (x a b : Int) : gauge_in x a b = decide (a ≤ x ∧ x ≤ b) := by
 unfold gauge_in
 rw [Bool.eq_iff_iff,Bool.and_eq_true,decide_eq_true_eq,decide_eq_true_eq,decide_eq_true_eq]


def gp0 : gauge_Point := ⟨0,0,0⟩


def stn (s : gauge_Site) (i : Nat) : gauge_Point := if i = 0 then ⟨s.Left,0,0⟩ else if i = s.Points.length + 1 then ⟨s.Right,0,0⟩ else s.Points.getD (i - 1) gp0


def okP (s : gauge_Site) (p : gauge_Point) : Bool := gauge_CheckSite_1 p s
def riseB (l : List gauge_Point) : Bool := (List.range' 0 (l.length - 1)).all fun j => decide ((l.getD j gp0).At < (l.getD (j + 1) gp0).At)
def okS (s : gauge_Site) : Bool := gauge_shore s.Left s.Right && gauge_in s.Gap 1 10000 && gauge_in s.Step_ 0 2000
def chkS (s : gauge_Site) : Int := if 30 < s.Points.length then 3 else if okS s = true ∧ s.Points.all (okP s) = true then (if riseB s.Points = true then 0 else 9) else 40
theorem every_point {N : Nat} {l : List gauge_Point} {s : gauge_Site} (hl : l.length < N) (hl' : l.length ≤ 1000000) : gauge_every_gauge_Point N l s = some (l.all (okP s)) := by
 unfold gauge_every_gauge_Point slices_ContainsFunc_Lgauge_Point_gauge_Point slices_IndexFunc_Lgauge_Point_gauge_Point
 exact every_gen (f := fun x => gauge_every_gauge_Point_1 x s) (ok := okP s) (fun x => rfl) hl hl' _ (fun x => rfl)
theorem rise_spec {N : Nat} (hN : 100 ≤ N) {s : gauge_Site} (hs : s.Points.length ≤ 40) : gauge_rising N ((s.Points.length : Nat) : Int) s = some (riseB s.Points) := by
 unfold gauge_rising
 have := scanS (ρ := Bool) (fun i : Nat => ((i + 1 : Nat) : Int)) (fun j => cond (decide ((s.Points.getD j gp0).At < (s.Points.getD (j + 1) gp0).At)) none (some false)) (s.Points.length - 1) (fun s4 => gauge_rising_b4 N ((s.Points.length : Nat) : Int) s s4) (fun i hi => by
  show gauge_rising_b4 N ((s.Points.length : Nat) : Int) s ((i + 1 : Nat) : Int) = _
  unfold gauge_rising_b4 gauge_CheckSite_2
  rw [lt_dec (by omega),cond_true,getI_d gp0 (by omega),Option.bind_some,Option.bind_some,W_sm (by omega) (by omega),show ((i + 1 : Nat) : Int) - 1 = (i : Int) by omega,getI_d gp0 (by omega),Option.bind_some,Option.bind_some,W_succ (by omega)]
  by_cases h : (s.Points.getD i gp0).At < (s.Points.getD (i + 1) gp0).At
  ·rw [dT h,dF (by omega)]
   rfl
  ·rw [dF h,dT (by omega)]
   rfl) (by
  show gauge_rising_b4 N ((s.Points.length : Nat) : Int) s ((s.Points.length - 1 + 1 : Nat) : Int) = _
  unfold gauge_rising_b4
  rw [dF (by omega),cond_false]) (s.Points.length - 1) 0 N (by omega) (by omega)
 show Option.bind (loopO (fun s4 => gauge_rising_b4 N ((s.Points.length : Nat) : Int) s s4) N ((0 + 1 : Nat) : Int)) _ = _
 rw [this,firstG_range]
 unfold riseB
 cases (List.range' 0 (s.Points.length - 1)).all fun j => decide ((s.Points.getD j gp0).At < (s.Points.getD (j + 1) gp0).At) <;> rfl
theorem check_spec {N : Nat} (hN : 100 ≤ N) {s : gauge_Site} (hs : s.Points.length ≤ 40) : gauge_CheckSite N s = some (chkS s) := by
 unfold gauge_CheckSite chkS
 by_cases h : 30 < s.Points.length
 ·rw [if_pos h,dT (by omega)]
  rfl
 ·rw [if_neg h,dF (by omega),cond_false,every_point (by omega) (by omega),Option.bind_some]
  have e : (((!(gauge_shore s.Left s.Right)) || (!(gauge_in s.Gap 1 10000))) || (!(gauge_in s.Step_ 0 2000))) = !okS s := by
   unfold okS
   cases gauge_shore s.Left s.Right <;> cases gauge_in s.Gap 1 10000 <;> cases gauge_in s.Step_ 0 2000 <;> rfl
  rw [e]
  cases h1 : okS s with
  | false =>
   rw [if_neg (by simp)]
   rfl
  | true =>
   cases h2 : s.Points.all (okP s) with
   | false =>
    rw [if_neg (by simp)]
    rfl
   | true =>
    rw [if_pos ⟨rfl,rfl⟩]
    show Option.bind (gauge_rising N _ s) _ = _
    rw [rise_spec hN hs,Option.bind_some]
    cases riseB s.Points <;> rfl
structure SiOk (s : gauge_Site) : Prop where
 n : s.Points.length ≤ 30
 lr : 0 ≤ s.Left ∧ s.Left < s.Right ∧ s.Right ≤ 10000
 gap : 1 ≤ s.Gap ∧ s.Gap ≤ 10000
 step : 0 ≤ s.Step_ ∧ s.Step_ ≤ 2000
 pt : ∀ i,i < s.Points.length → (s.Left < (s.Points.getD i gp0).At ∧ (s.Points.getD i gp0).At < s.Right) ∧ (0 ≤ (s.Points.getD i gp0).Depth ∧ (s.Points.getD i gp0).Depth ≤ 2000) ∧ 0 ≤ (s.Points.getD i gp0).Cost ∧ (s.Points.getD i gp0).Cost ≤ 1000000
theorem okS_iff {s : gauge_Site} : okS s = true ↔ (0 ≤ s.Left ∧ s.Left < s.Right ∧ s.Right ≤ 10000) ∧ (1 ≤ s.Gap ∧ s.Gap ≤ 10000) ∧ 0 ≤ s.Step_ ∧ s.Step_ ≤ 2000 := by
 unfold okS gauge_shore
 rw [in_dec,in_dec,in_dec,in_dec]
 simp only [Bool.and_eq_true,decide_eq_true_eq]
 constructor
 ·rintro ⟨⟨⟨h1,h2⟩,h3⟩,h4⟩
  rw [W_sm (by omega) (by omega)] at h2
  exact ⟨by omega,h3,h4⟩
 ·rintro ⟨h1,h3,h4⟩
  rw [W_sm (by omega) (by omega)]
  exact ⟨⟨⟨by omega,by omega⟩,h3⟩,h4⟩
theorem okP_iff {s : gauge_Site} {p : gauge_Point} (h : okS s = true) : okP s p = true ↔ (s.Left < p.At ∧ p.At < s.Right) ∧ (0 ≤ p.Depth ∧ p.Depth ≤ 2000) ∧ 0 ≤ p.Cost ∧ p.Cost ≤ 1000000 := by
 have hs := okS_iff.1 h
 unfold okP gauge_CheckSite_1
 rw [in_dec,in_dec,in_dec,W_sm (by omega) (by omega),W_sm (by omega) (by omega)]
 simp only [Bool.and_eq_true,decide_eq_true_eq]
 constructor
 ·rintro ⟨⟨h1,h2⟩,h3⟩
  exact ⟨by omega,h2,h3⟩
 ·rintro ⟨h1,h2,h3⟩
  exact ⟨⟨by omega,h2⟩,h3⟩
theorem chk_ok {s : gauge_Site} (h : chkS s = 0) : SiOk s := by
 unfold chkS at h
 split at h
 ·omega
 ·rename_i hn
  split at h
  ·rename_i h1
   have hs := okS_iff.1 h1.1
   refine ⟨by omega,hs.1,hs.2.1,hs.2.2,fun i hi => ?_⟩
   have := List.all_eq_true.1 h1.2 _ (List.getElem_mem hi)
   rw [get_getD (d := gp0) hi] at this
   exact (okP_iff h1.1).1 this
  ·omega


theorem stn_bd {s : gauge_Site} (h : SiOk s) {i : Nat} (hi : i ≤ s.Points.length + 1) : (0 ≤ (stn s i).At ∧ (stn s i).At ≤ 10000) ∧ (0 ≤ (stn s i).Depth ∧ (stn s i).Depth ≤ 2000) ∧ 0 ≤ (stn s i).Cost ∧ (stn s i).Cost ≤ 1000000 := by
 have h1 := h.lr
 unfold stn
 split
 ·exact ⟨by show 0 ≤ s.Left ∧ s.Left ≤ 10000; omega,by show (0 : Int) ≤ 0 ∧ (0 : Int) ≤ 2000; decide,by show (0 : Int) ≤ 0 ∧ (0 : Int) ≤ 1000000; decide⟩
 ·split
  ·exact ⟨by show 0 ≤ s.Right ∧ s.Right ≤ 10000; omega,by show (0 : Int) ≤ 0 ∧ (0 : Int) ≤ 2000; decide,by show (0 : Int) ≤ 0 ∧ (0 : Int) ≤ 1000000; decide⟩
  ·have := h.pt (i - 1) (by omega)
   omega
theorem stn_end {s : gauge_Site} : stn s (s.Points.length + 1) = ⟨s.Right,0,0⟩ := by
 unfold stn
 rw [if_neg (by omega),if_pos rfl]
theorem station_gen {pts : List gauge_Point} {L R : Int} {i : Nat} (hn : pts.length ≤ 40) (hi : i ≤ pts.length + 1) {G S : Int} :
  cond ((i : Int) == 0) (some (⟨L,0,0⟩ : gauge_Point)) (cond ((i : Int) == (W (((pts.length : Nat) : Int) + 1))) (some (⟨R,0,0⟩ : gauge_Point)) (Option.bind (getI pts (W ((i : Int) - 1))) fun e_1 => some e_1)) = some (stn ⟨L,R,G,S,pts⟩ i) := by
 unfold stn
 rw [W_sm (by omega) (by omega)]
 by_cases h0 : i = 0
 ·subst h0
  rw [if_pos rfl]
  rfl
 ·rw [if_neg h0,show ((i : Int) == 0) = false from beq_eq_false_iff_ne.2 (by omega),cond_false]
  show _ = some (if i = pts.length + 1 then (⟨R,0,0⟩ : gauge_Point) else pts.getD (i - 1) gp0)
  by_cases h1 : i = pts.length + 1
  ·rw [if_pos h1,show ((i : Int) == ((pts.length : Nat) : Int) + 1) = true from beq_iff_eq.2 (by omega),cond_true]
  ·rw [if_neg h1,show ((i : Int) == ((pts.length : Nat) : Int) + 1) = false from beq_eq_false_iff_ne.2 (by omega),cond_false,W_sm (by omega) (by omega),show (i : Int) - 1 = ((i - 1 : Nat) : Int) by omega,getI_d gp0 (by omega)]
   rfl
theorem station_spec {N : Nat} {w : gauge_work} {i : Nat} (hn : w.Site.Points.length ≤ 40) (hi : i ≤ w.Site.Points.length + 1) : gauge_work_station N w (i : Int) = some (stn w.Site i) := station_gen hn hi
theorem station_spec2 {N : Nat} {s : gauge_Site} {f : Nat → gauge_spent} {i : Nat} (hn : s.Points.length ≤ 40) (hi : i ≤ s.Points.length + 1) : gauge_work_station_s2 N s.Left s.Right s.Gap s.Step_ s.Points f (i : Int) = some (stn s i) := station_gen hn hi
def stepB (s : gauge_Site) (a b : Nat) : Bool := decide ((stn s b).At - (stn s a).At ≤ s.Gap) && decide (max ((stn s a).Depth - (stn s b).Depth) ((stn s b).Depth - (stn s a).Depth) ≤ s.Step_)
theorem steps_gen {s : gauge_Site} (h : SiOk s) {a b : Nat} (ha : a ≤ s.Points.length + 1) (hb : b ≤ s.Points.length + 1) :
  ((decide ((W ((stn s b).At - (stn s a).At)) ≤ s.Gap)) && (decide ((max (W ((stn s a).Depth - (stn s b).Depth)) (W ((stn s b).Depth - (stn s a).Depth))) ≤ s.Step_))) = stepB s a b := by
 have h1 := stn_bd h ha
 have h2 := stn_bd h hb
 rw [W_sm (by omega) (by omega),W_sm (by omega) (by omega),W_sm (by omega) (by omega)]
 rfl
theorem steps_spec {N : Nat} {w : gauge_work} (h : SiOk w.Site) {a b : Nat} (ha : a ≤ w.Site.Points.length + 1) (hb : b ≤ w.Site.Points.length + 1) : gauge_work_steps N w (a : Int) (b : Int) = some (stepB w.Site a b) := by
 have hn := h.n
 unfold gauge_work_steps
 rw [station_spec (by omega) ha,station_spec (by omega) hb,Option.bind_some,Option.bind_some,steps_gen h ha hb]
theorem steps_spec2 {N : Nat} {s : gauge_Site} {f : Nat → gauge_spent} (h : SiOk s) {a b : Nat} (ha : a ≤ s.Points.length + 1) (hb : b ≤ s.Points.length + 1) : gauge_work_steps_s2 N s.Left s.Right s.Gap s.Step_ s.Points f (a : Int) (b : Int) = some (stepB s a b) := by
 have hn := h.n
 unfold gauge_work_steps_s2
 rw [station_spec2 (by omega) ha,station_spec2 (by omega) hb,Option.bind_some,Option.bind_some,steps_gen h ha hb]





def cst (s : gauge_Site) (i : Nat) : Int := (stn s i).Cost
theorem cst_end {s : gauge_Site} : cst s (s.Points.length + 1) = 0 := by
 unfold cst
 rw [stn_end]
end Go.Nilo
