/-
  What the plain functions compute, in plain arithmetic, part 3. Conditions: what each theorem names.
-/
import Derived.Test.YtbgjmnbgilddgaaPnL2
set_option linter.unusedSimpArgs false
set_option linter.unusedVariables false
namespace Go.Nilo
theorem firstG_range {ρ : Type} {p : Nat → Bool} {v : ρ} : ∀ n i,firstG (fun j => cond (p j) none (some v)) i n = cond ((List.range' i n).all p) none (some v)
 | 0,i => rfl
 | n + 1,i => by
  unfold firstG
  rw [List.range'_succ,List.all_cons]
  cases hp : p i with
  | true => simpa using firstG_range n (i + 1)
  | false => rfl
theorem range_all {p : Nat → Bool} {n : Nat} : (List.range' 0 n).all p = true ↔ ∀ j,j < n → p j = true := by
 rw [List.all_eq_true]
 constructor
 ·intro h j hj
  exact h j (by rw [List.mem_range'_1]; omega)
 ·intro h j hj
  rw [List.mem_range'_1] at hj
  exact h j (by omega)
theorem take_map_succ {α β : Type} {f : α → β} {l : List α} {i : Nat} {d : α} (h : i < l.length) : (l.take (i + 1)).map f = (l.take i).map f ++ [f (l.getD i d)] := by
 rw [List.take_succ_eq_append_getElem h,List.map_append,get_getD (d := d) h]
 rfl
theorem getD_map' {α β : Type} {f : α → β} {l : List α} {i : Nat} {d : α} {e : β} (h : i < l.length) : (l.map f).getD i e = f (l.getD i d) := by
 simp [List.getD,h]
theorem take_any_succ {α : Type} {f : α → Bool} {l : List α} {i : Nat} {d : α} (h : i < l.length) : (l.take (i + 1)).any f = ((l.take i).any f || f (l.getD i d)) := by
 rw [List.take_succ_eq_append_getElem h,List.any_append,get_getD (d := d) h]
 simp
theorem in_dec (x a b : Int) : gauge_in x a b = decide (a ≤ x ∧ x ≤ b) := by
 unfold gauge_in
 rw [Bool.eq_iff_iff,Bool.and_eq_true,decide_eq_true_eq,decide_eq_true_eq,decide_eq_true_eq]
theorem out_dec (x a b : Int) : ref03_outside x a b = !decide (a ≤ x ∧ x ≤ b) := by
 unfold ref03_outside
 rw [Bool.eq_iff_iff]
 simp only [Bool.or_eq_true,decide_eq_true_eq,Bool.not_eq_true',decide_eq_false_iff_not]
 omega

def gp0 : gauge_Point := ⟨0,0,0⟩
def rp (p : gauge_Point) : ref03_Point := ⟨p.At,p.Depth,p.Cost⟩
def rs (s : gauge_Site) : ref03_Site := ⟨s.Left,s.Right,s.Gap,s.Step_,s.Points.map rp⟩
def stn (s : gauge_Site) (i : Nat) : gauge_Point := if i = 0 then ⟨s.Left,0,0⟩ else if i = s.Points.length + 1 then ⟨s.Right,0,0⟩ else s.Points.getD (i - 1) gp0
theorem site_spec {N : Nat} (hN : 100 ≤ N) {s : gauge_Site} (hs : s.Points.length ≤ 40) : law03_Site N s = some (rs s) := by
 unfold law03_Site
 have := runS (ρ := ref03_Site) (fun i : Nat => ((i : Int),(s.Points.take i).map rp)) s.Points.length (fun s5 => law03_Site_b5 N s s5.1 s5.2) (fun i hi => by
  show law03_Site_b5 N s (i : Int) ((s.Points.take i).map rp) = _
  unfold law03_Site_b5
  rw [lt_dec hi,cond_true,getI_d gp0 hi,Option.bind_some,take_map_succ (d := gp0) hi,W_succ (by omega)]
  show Option.bind (room ((s.Points.take i).map rp ++ [rp (s.Points.getD i gp0)]).length) _ = _
  rw [room_ok (by simp; omega)]
  rfl) (by
  show law03_Site_b5 N s (s.Points.length : Int) _ = _
  unfold law03_Site_b5
  rw [ge_dec,cond_false]) (N := N) (by omega)
 rw [List.take_zero,List.map_nil] at this
 show Option.bind (loopO (fun s5 => law03_Site_b5 N s s5.1 s5.2) N (((0 : Nat) : Int),[])) _ = _
 rw [this,List.take_length]
 rfl

def okP (s : gauge_Site) (p : gauge_Point) : Bool := gauge_CheckSite_1 p s
def riseB (l : List gauge_Point) : Bool := (List.range' 0 (l.length - 1)).all fun j => decide ((l.getD j gp0).At < (l.getD (j + 1) gp0).At)
def okS (s : gauge_Site) : Bool := gauge_shore s.Left s.Right && gauge_in s.Gap 1 10000 && gauge_in s.Step_ 0 2000
def chkS (s : gauge_Site) : Int := if 30 < s.Points.length then 3 else if okS s = true ∧ s.Points.all (okP s) = true then (if riseB s.Points = true then 0 else 9) else 40
theorem every_point {N : Nat} {l : List gauge_Point} {s : gauge_Site} (hl : l.length < N) (hl' : l.length ≤ 1000000) : gauge_every_gauge_Point N l s = some (l.all (okP s)) := by
 unfold gauge_every_gauge_Point slices_ContainsFunc_Lgauge_Point_gauge_Point slices_IndexFunc_Lgauge_Point_gauge_Point
 exact every_gen (f := fun x => gauge_every_gauge_Point_1 x s) (ok := okP s) (fun x => rfl) hl hl' _ (fun x => rfl)
theorem rise_spec {N : Nat} (hN : 100 ≤ N) {s : gauge_Site} (hs : s.Points.length ≤ 40) : gauge_rising_s2 N ((s.Points.length : Nat) : Int) s = some (riseB s.Points) := by
 unfold gauge_rising_s2
 have := scanS (ρ := Bool) (fun i : Nat => ((i + 1 : Nat) : Int)) (fun j => cond (decide ((s.Points.getD j gp0).At < (s.Points.getD (j + 1) gp0).At)) none (some false)) (s.Points.length - 1) (fun s4 => gauge_rising_s2_b4 N ((s.Points.length : Nat) : Int) s s4) (fun i hi => by
  show gauge_rising_s2_b4 N ((s.Points.length : Nat) : Int) s ((i + 1 : Nat) : Int) = _
  unfold gauge_rising_s2_b4 gauge_CheckSite_2
  rw [lt_dec (by omega),cond_true,getI_d gp0 (by omega),Option.bind_some,Option.bind_some,W_sm (by omega) (by omega),show ((i + 1 : Nat) : Int) - 1 = (i : Int) by omega,getI_d gp0 (by omega),Option.bind_some,Option.bind_some,W_succ (by omega)]
  by_cases h : (s.Points.getD i gp0).At < (s.Points.getD (i + 1) gp0).At
  ·rw [dT h,dF (by omega)]
   rfl
  ·rw [dF h,dT (by omega)]
   rfl) (by
  show gauge_rising_s2_b4 N ((s.Points.length : Nat) : Int) s ((s.Points.length - 1 + 1 : Nat) : Int) = _
  unfold gauge_rising_s2_b4
  rw [dF (by omega),cond_false]) (s.Points.length - 1) 0 N (by omega) (by omega)
 show Option.bind (loopO (fun s4 => gauge_rising_s2_b4 N ((s.Points.length : Nat) : Int) s s4) N ((0 + 1 : Nat) : Int)) _ = _
 rw [this,firstG_range]
 unfold riseB
 cases (List.range' 0 (s.Points.length - 1)).all fun j => decide ((s.Points.getD j gp0).At < (s.Points.getD (j + 1) gp0).At) <;> rfl
theorem check_spec {N : Nat} (hN : 100 ≤ N) {s : gauge_Site} (hs : s.Points.length ≤ 40) : gauge_CheckSite N s = some (chkS s) := by
 unfold gauge_CheckSite chkS
 by_cases h : 30 < s.Points.length
 ·rw [if_pos h,dT (by omega)]
  rfl
 ·rw [if_neg h,dF (by omega),cond_false,every_point (by omega) (by omega),Option.bind_some]
  have e : (((!(gauge_shore s.Left s.Right)) || (!(gauge_in s.Gap 1 10000))) || (!(gauge_in s.Step_ 0 2000))) = !okS s := by
   unfold okS
   cases gauge_shore s.Left s.Right <;> cases gauge_in s.Gap 1 10000 <;> cases gauge_in s.Step_ 0 2000 <;> rfl
  rw [e]
  cases h1 : okS s with
  | false =>
   rw [if_neg (by simp)]
   rfl
  | true =>
   cases h2 : s.Points.all (okP s) with
   | false =>
    rw [if_neg (by simp)]
    rfl
   | true =>
    rw [if_pos ⟨rfl,rfl⟩]
    show Option.bind (gauge_rising_s2 N _ s) _ = _
    rw [rise_spec hN hs,Option.bind_some]
    cases riseB s.Points <;> rfl
structure SOk (s : gauge_Site) : Prop where
 n : s.Points.length ≤ 30
 lr : 0 ≤ s.Left ∧ s.Left < s.Right ∧ s.Right ≤ 10000
 gap : 1 ≤ s.Gap ∧ s.Gap ≤ 10000
 step : 0 ≤ s.Step_ ∧ s.Step_ ≤ 2000
 pt : ∀ i,i < s.Points.length → (s.Left < (s.Points.getD i gp0).At ∧ (s.Points.getD i gp0).At < s.Right) ∧ (0 ≤ (s.Points.getD i gp0).Depth ∧ (s.Points.getD i gp0).Depth ≤ 2000) ∧ 0 ≤ (s.Points.getD i gp0).Cost ∧ (s.Points.getD i gp0).Cost ≤ 1000000
theorem okS_iff {s : gauge_Site} : okS s = true ↔ (0 ≤ s.Left ∧ s.Left < s.Right ∧ s.Right ≤ 10000) ∧ (1 ≤ s.Gap ∧ s.Gap ≤ 10000) ∧ 0 ≤ s.Step_ ∧ s.Step_ ≤ 2000 := by
 unfold okS gauge_shore
 rw [in_dec,in_dec,in_dec,in_dec]
 simp only [Bool.and_eq_true,decide_eq_true_eq]
 constructor
 ·rintro ⟨⟨⟨h1,h2⟩,h3⟩,h4⟩
  rw [W_sm (by omega) (by omega)] at h2
  exact ⟨by omega,h3,h4⟩
 ·rintro ⟨h1,h3,h4⟩
  rw [W_sm (by omega) (by omega)]
  exact ⟨⟨⟨by omega,by omega⟩,h3⟩,h4⟩
theorem okP_iff {s : gauge_Site} {p : gauge_Point} (h : okS s = true) : okP s p = true ↔ (s.Left < p.At ∧ p.At < s.Right) ∧ (0 ≤ p.Depth ∧ p.Depth ≤ 2000) ∧ 0 ≤ p.Cost ∧ p.Cost ≤ 1000000 := by
 have hs := okS_iff.1 h
 unfold okP gauge_CheckSite_1
 rw [in_dec,in_dec,in_dec,W_sm (by omega) (by omega),W_sm (by omega) (by omega)]
 simp only [Bool.and_eq_true,decide_eq_true_eq]
 constructor
 ·rintro ⟨⟨h1,h2⟩,h3⟩
  exact ⟨by omega,h2,h3⟩
 ·rintro ⟨h1,h2,h3⟩
  exact ⟨⟨by omega,h2⟩,h3⟩
theorem chk_ok {s : gauge_Site} (h : chkS s = 0) : SOk s := by
 unfold chkS at h
 split at h
 ·omega
 ·rename_i hn
  split at h
  ·rename_i h1
   have hs := okS_iff.1 h1.1
   refine ⟨by omega,hs.1,hs.2.1,hs.2.2,fun i hi => ?_⟩
   have := List.all_eq_true.1 h1.2 _ (List.getElem_mem hi)
   rw [get_getD (d := gp0) hi] at this
   exact (okP_iff h1.1).1 this
  ·omega
theorem ref_check {N : Nat} (hN : 100 ≤ N) {s : gauge_Site} (hs : s.Points.length ≤ 40) : ref03_CheckSite N (rs s) = some (chkS s) := by
 unfold ref03_CheckSite chkS
 have hl : (rs s).Points.length = s.Points.length := by simp [rs]
 rw [hl]
 by_cases h : 30 < s.Points.length
 ·rw [if_pos h,dT (by omega)]
  rfl
 ·rw [if_neg h,dF (by omega),cond_false]
  have e0 : (((((ref03_outside s.Left 0 10000) || (ref03_outside s.Right 0 10000)) || (decide (s.Right ≤ s.Left))) || (ref03_outside s.Gap 1 10000)) || (ref03_outside s.Step_ 0 2000)) = !okS s := by
   rw [out_dec,out_dec,out_dec,out_dec,Bool.eq_iff_iff,Bool.not_eq_true',← Bool.not_eq_true,okS_iff]
   simp only [Bool.or_eq_true,decide_eq_true_eq,Bool.not_eq_true',decide_eq_false_iff_not]
   omega
  have e : (((((ref03_outside (rs s).Left 0 10000) || (ref03_outside (rs s).Right 0 10000)) || (decide ((rs s).Right ≤ (rs s).Left))) || (ref03_outside (rs s).Gap 1 10000)) || (ref03_outside (rs s).Step_ 0 2000)) = !okS s := e0
  rw [e]
  let f : gauge_Point → Bool := fun p => (((decide (p.At ≤ s.Left)) || (decide (s.Right ≤ p.At))) || (ref03_outside p.Depth 0 2000)) || (ref03_outside p.Cost 0 1000000)
  have l8 := runS (ρ := Int) (fun i : Nat => ((!okS s) || (s.Points.take i).any f,(i : Int))) s.Points.length (fun s8 => ref03_CheckSite_b8 N (rs s) s8.1 s8.2) (fun i hi => by
   show ref03_CheckSite_b8 N (rs s) ((!okS s) || (s.Points.take i).any f) (i : Int) = _
   unfold ref03_CheckSite_b8
   rw [hl,lt_dec hi,cond_true,getI_d (rp gp0) (by omega),Option.bind_some,W_succ (by omega),take_any_succ (d := gp0) hi]
   show some (Step.cont _) = _
   rw [show (rs s).Points.getD i (rp gp0) = rp (s.Points.getD i gp0) from getD_map' hi]
   simp only [f,rp,rs,Bool.or_assoc]
   rfl) (by
   show ref03_CheckSite_b8 N (rs s) _ (s.Points.length : Int) = _
   unfold ref03_CheckSite_b8
   rw [hl,ge_dec,cond_false]) (N := N) (by omega)
  show Option.bind (loopO (fun s8 => ref03_CheckSite_b8 N (rs s) s8.1 s8.2) N (!okS s,((0 : Nat) : Int))) _ = _
  rw [List.take_zero,List.any_nil,Bool.or_false] at l8
  rw [l8,Option.bind_some,List.take_length]
  cases h1 : okS s with
  | false =>
   rw [if_neg (by simp)]
   rfl
  | true =>
   have ef : s.Points.any f = !s.Points.all (okP s) := by
    rw [List.all_eq_not_any_not,Bool.not_not]
    congr 1
    funext p
    rw [Bool.eq_iff_iff,Bool.not_eq_true',← Bool.not_eq_true,okP_iff h1]
    simp only [f,out_dec,Bool.or_eq_true,decide_eq_true_eq,Bool.not_eq_true',decide_eq_false_iff_not]
    omega
   rw [ef]
   cases h2 : s.Points.all (okP s) with
   | false =>
    rw [if_neg (by simp)]
    rfl
   | true =>
    rw [if_pos ⟨rfl,rfl⟩]
    have := scanS (ρ := Int) (fun i : Nat => ((i + 1 : Nat) : Int)) (fun j => cond (decide ((s.Points.getD j gp0).At < (s.Points.getD (j + 1) gp0).At)) none (some 9)) (s.Points.length - 1) (fun s14 => ref03_CheckSite_b14 N (rs s) s14) (fun i hi => by
     show ref03_CheckSite_b14 N (rs s) ((i + 1 : Nat) : Int) = _
     unfold ref03_CheckSite_b14
     rw [hl,lt_dec (by omega),cond_true,getI_d (rp gp0) (by omega),Option.bind_some,W_sm (by omega) (by omega),show ((i + 1 : Nat) : Int) - 1 = (i : Int) by omega,getI_d (rp gp0) (by omega),Option.bind_some,W_succ (by omega),
      show (rs s).Points.getD i (rp gp0) = rp (s.Points.getD i gp0) from getD_map' (by omega),show (rs s).Points.getD (i + 1) (rp gp0) = rp (s.Points.getD (i + 1) gp0) from getD_map' (by omega)]
     show cond (decide ((s.Points.getD (i + 1) gp0).At ≤ (s.Points.getD i gp0).At)) _ _ = _
     by_cases h : (s.Points.getD i gp0).At < (s.Points.getD (i + 1) gp0).At
     ·rw [dT h,dF (by omega)]
      rfl
     ·rw [dF h,dT (by omega)]
      rfl) (by
     show ref03_CheckSite_b14 N (rs s) ((s.Points.length - 1 + 1 : Nat) : Int) = _
     unfold ref03_CheckSite_b14
     rw [hl,dF (by omega),cond_false]) (s.Points.length - 1) 0 N (by omega) (by omega)
    show Option.bind (loopO (fun s14 => ref03_CheckSite_b14 N (rs s) s14) N ((0 + 1 : Nat) : Int)) _ = _
    rw [this,firstG_range]
    unfold riseB
    cases (List.range' 0 (s.Points.length - 1)).all fun j => decide ((s.Points.getD j gp0).At < (s.Points.getD (j + 1) gp0).At) <;> rfl

theorem stn_bd {s : gauge_Site} (h : SOk s) {i : Nat} (hi : i ≤ s.Points.length + 1) : (0 ≤ (stn s i).At ∧ (stn s i).At ≤ 10000) ∧ (0 ≤ (stn s i).Depth ∧ (stn s i).Depth ≤ 2000) ∧ 0 ≤ (stn s i).Cost ∧ (stn s i).Cost ≤ 1000000 := by
 have h1 := h.lr
 unfold stn
 split
 ·exact ⟨by show 0 ≤ s.Left ∧ s.Left ≤ 10000; omega,by show (0 : Int) ≤ 0 ∧ (0 : Int) ≤ 2000; decide,by show (0 : Int) ≤ 0 ∧ (0 : Int) ≤ 1000000; decide⟩
 ·split
  ·exact ⟨by show 0 ≤ s.Right ∧ s.Right ≤ 10000; omega,by show (0 : Int) ≤ 0 ∧ (0 : Int) ≤ 2000; decide,by show (0 : Int) ≤ 0 ∧ (0 : Int) ≤ 1000000; decide⟩
  ·have := h.pt (i - 1) (by omega)
   omega
theorem stn_end {s : gauge_Site} : stn s (s.Points.length + 1) = ⟨s.Right,0,0⟩ := by
 unfold stn
 rw [if_neg (by omega),if_pos rfl]
theorem station_gen {pts : List gauge_Point} {L R : Int} {i : Nat} (hn : pts.length ≤ 40) (hi : i ≤ pts.length + 1) {G S : Int} :
  cond ((i : Int) == 0) (some (⟨L,0,0⟩ : gauge_Point)) (cond ((i : Int) == (W (((pts.length : Nat) : Int) + 1))) (some (⟨R,0,0⟩ : gauge_Point)) (Option.bind (getI pts (W ((i : Int) - 1))) fun e_1 => some e_1)) = some (stn ⟨L,R,G,S,pts⟩ i) := by
 unfold stn
 rw [W_sm (by omega) (by omega)]
 by_cases h0 : i = 0
 ·subst h0
  rw [if_pos rfl]
  rfl
 ·rw [if_neg h0,show ((i : Int) == 0) = false from beq_eq_false_iff_ne.2 (by omega),cond_false]
  show _ = some (if i = pts.length + 1 then (⟨R,0,0⟩ : gauge_Point) else pts.getD (i - 1) gp0)
  by_cases h1 : i = pts.length + 1
  ·rw [if_pos h1,show ((i : Int) == ((pts.length : Nat) : Int) + 1) = true from beq_iff_eq.2 (by omega),cond_true]
  ·rw [if_neg h1,show ((i : Int) == ((pts.length : Nat) : Int) + 1) = false from beq_eq_false_iff_ne.2 (by omega),cond_false,W_sm (by omega) (by omega),show (i : Int) - 1 = ((i - 1 : Nat) : Int) by omega,getI_d gp0 (by omega)]
   rfl
theorem station_spec {N : Nat} {w : gauge_work} {i : Nat} (hn : w.Site.Points.length ≤ 40) (hi : i ≤ w.Site.Points.length + 1) : gauge_work_station N w (i : Int) = some (stn w.Site i) := station_gen hn hi
theorem station_spec2 {N : Nat} {s : gauge_Site} {f : Nat → gauge_spent} {i : Nat} (hn : s.Points.length ≤ 40) (hi : i ≤ s.Points.length + 1) : gauge_work_station_s2 N s.Left s.Right s.Gap s.Step_ s.Points f (i : Int) = some (stn s i) := station_gen hn hi
def stepB (s : gauge_Site) (a b : Nat) : Bool := decide ((stn s b).At - (stn s a).At ≤ s.Gap) && decide (max ((stn s a).Depth - (stn s b).Depth) ((stn s b).Depth - (stn s a).Depth) ≤ s.Step_)
theorem steps_gen {s : gauge_Site} (h : SOk s) {a b : Nat} (ha : a ≤ s.Points.length + 1) (hb : b ≤ s.Points.length + 1) :
  ((decide ((W ((stn s b).At - (stn s a).At)) ≤ s.Gap)) && (decide ((max (W ((stn s a).Depth - (stn s b).Depth)) (W ((stn s b).Depth - (stn s a).Depth))) ≤ s.Step_))) = stepB s a b := by
 have h1 := stn_bd h ha
 have h2 := stn_bd h hb
 rw [W_sm (by omega) (by omega),W_sm (by omega) (by omega),W_sm (by omega) (by omega)]
 rfl
theorem steps_spec {N : Nat} {w : gauge_work} (h : SOk w.Site) {a b : Nat} (ha : a ≤ w.Site.Points.length + 1) (hb : b ≤ w.Site.Points.length + 1) : gauge_work_steps N w (a : Int) (b : Int) = some (stepB w.Site a b) := by
 have hn := h.n
 unfold gauge_work_steps
 rw [station_spec (by omega) ha,station_spec (by omega) hb,Option.bind_some,Option.bind_some,steps_gen h ha hb]
theorem steps_spec2 {N : Nat} {s : gauge_Site} {f : Nat → gauge_spent} (h : SOk s) {a b : Nat} (ha : a ≤ s.Points.length + 1) (hb : b ≤ s.Points.length + 1) : gauge_work_steps_s2 N s.Left s.Right s.Gap s.Step_ s.Points f (a : Int) (b : Int) = some (stepB s a b) := by
 have hn := h.n
 unfold gauge_work_steps_s2
 rw [station_spec2 (by omega) ha,station_spec2 (by omega) hb,Option.bind_some,Option.bind_some,steps_gen h ha hb]
def stl (s : gauge_Site) : List ref03_Point := (([(⟨s.Left,0,0⟩ : ref03_Point)] : List ref03_Point) ++ s.Points.map rp) ++ [(⟨s.Right,0,0⟩ : ref03_Point)]
theorem stl_len {s : gauge_Site} : (stl s).length = s.Points.length + 2 := by
 unfold stl
 simp
theorem stations_spec {N : Nat} {s : gauge_Site} (hs : s.Points.length ≤ 40) : ref03_stations N (rs s) = some (stl s) := by
 unfold ref03_stations
 rw [room_ok (by simp [rs]; omega),Option.bind_some,room_ok (by simp [rs]; omega),Option.bind_some]
 rfl
theorem stl_get {s : gauge_Site} {i : Nat} (hi : i ≤ s.Points.length + 1) : getI (stl s) (i : Int) = some (rp (stn s i)) := by
 rw [getI_d (rp gp0) (by rw [stl_len]; omega)]
 congr 1
 unfold stl stn
 by_cases h0 : i = 0
 ·subst h0
  rw [if_pos rfl]
  rfl
 ·rw [if_neg h0]
  by_cases h1 : i = s.Points.length + 1
  ·rw [if_pos h1]
   simp [List.getD,h1,rp]
  ·rw [if_neg h1]
   have h2 : i - 1 < s.Points.length := by omega
   have e : ([(⟨s.Left,0,0⟩ : ref03_Point)] ++ s.Points.map rp ++ [(⟨s.Right,0,0⟩ : ref03_Point)]).getD i (rp gp0) = (s.Points.map rp).getD (i - 1) (rp gp0) := by
    obtain ⟨j,rfl⟩ : ∃ j,i = j + 1 := ⟨i - 1,by omega⟩
    have hj : j < s.Points.length := by omega
    simp [List.getD,hj,List.getElem?_append]
   rw [e]
   exact getD_map' h2
theorem goes_spec {N : Nat} {s : gauge_Site} (h : SOk s) {a b : Nat} (ha : a ≤ s.Points.length + 1) (hb : b ≤ s.Points.length + 1) : ref03_goes N (rs s) (rp (stn s a)) (rp (stn s b)) = some (stepB s a b) := by
 have h1 := stn_bd h ha
 have h2 := stn_bd h hb
 unfold ref03_goes ref03_goes_j3 stepB
 show cond (decide ((W ((stn s a).Depth - (stn s b).Depth)) < 0)) (some ((decide ((W ((stn s b).At - (stn s a).At)) ≤ s.Gap)) && (decide (W (0 - W ((stn s a).Depth - (stn s b).Depth)) ≤ s.Step_)))) (some ((decide ((W ((stn s b).At - (stn s a).At)) ≤ s.Gap)) && (decide (W ((stn s a).Depth - (stn s b).Depth) ≤ s.Step_)))) = _
 rw [W_sm (n := (stn s a).Depth - (stn s b).Depth) (by omega) (by omega),W_sm (n := (stn s b).At - (stn s a).At) (by omega) (by omega),W_sm (by omega) (by omega)]
 by_cases hd : (stn s a).Depth - (stn s b).Depth < 0
 ·rw [dT hd,cond_true,show max ((stn s a).Depth - (stn s b).Depth) ((stn s b).Depth - (stn s a).Depth) = 0 - ((stn s a).Depth - (stn s b).Depth) by omega]
 ·rw [dF hd,cond_false,show max ((stn s a).Depth - (stn s b).Depth) ((stn s b).Depth - (stn s a).Depth) = (stn s a).Depth - (stn s b).Depth by omega]
def cst (s : gauge_Site) (i : Nat) : Int := (stn s i).Cost
theorem cst_end {s : gauge_Site} : cst s (s.Points.length + 1) = 0 := by
 unfold cst
 rw [stn_end]
end Go.Nilo
