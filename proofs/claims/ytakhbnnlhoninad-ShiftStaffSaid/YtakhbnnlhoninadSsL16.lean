/-
  What the plain functions compute, in plain arithmetic, part 16. Conditions: what each theorem names.
-/
import Derived.Test.YtakhbnnlhoninadSsL15
set_option linter.unusedSimpArgs false
set_option linter.unusedVariables false
namespace Go.Nilo.Lv
theorem gD {α : Type} {l : List α} {i : Nat} {d : α} (h : i < l.length) : l.getD i d = l[i] := by simp [List.getD,h]
theorem dT {p : Prop} [Decidable p] (h : p) : decide p = true := decide_eq_true h
theorem dF {p : Prop} [Decidable p] (h : ¬p) : decide p = false := decide_eq_false h
theorem getI_d {α : Type} {l : List α} {i : Nat} (d : α) (h : i < l.length) : getI l (i : Int) = some (l.getD i d) := by rw [getI_nat h,gD h]
theorem W_sm {n : Int} (h1 : -4000000000000000000 ≤ n) (h2 : n ≤ 4000000000000000000) : W n = n := W_id (by omega) (by omega)
theorem inR_ok {i : Int} {n : Nat} (h0 : 0 ≤ i) (h1 : i < (n : Int)) : inR i n = some () := by unfold inR; rw [if_pos ⟨h0,h1⟩]
theorem exK_at {σ ρ τ : Type} (s : σ) (f : σ → Option τ) (g : ρ → Option τ) : exK (Ex.go s) f g = f s := rfl
theorem loop3 {σ ρ : Type} {b : σ → Option (Step σ ρ)} {s0 s1 s2 : σ} (h0 : b s0 = some (.cont s1)) (h1 : b s1 = some (.cont s2)) (h2 : b s2 = some (.brk s2)) {N : Nat} (hN : 3 ≤ N) : loopO b N s0 = some (.go s2) := by
 obtain ⟨m,rfl⟩ : ∃ m,N = m + 3 := ⟨N - 3,by omega⟩
 rw [loopO]; simp only [h0]
 rw [loopO]; simp only [h1]
 rw [loopO]; simp only [h2]
def ln0 : level_Line := ⟨0,0,0,0,0⟩
def lnA (ls : List level_Line) (g : level_Leg) : level_Line := ls.getD g.Line.toNat ln0
def stF (ls : List level_Line) (g : level_Leg) : Int := bif g.Back then (lnA ls g).To else (lnA ls g).From
def glF (ls : List level_Line) (g : level_Leg) : Int := bif g.Back then (lnA ls g).From else (lnA ls g).To
def rsF (ls : List level_Line) (g : level_Leg) : Int := bif g.Back then (lnA ls g).Error - (lnA ls g).Rise else (lnA ls g).Error + (lnA ls g).Rise
def lgOf (ls : List level_Line) (g : level_Leg) : Lg := ⟨stF ls g,glF ls g,rsF ls g⟩
def pairL (i : Nat) : List level_Leg := [⟨(i : Int),false⟩,⟨(i : Int),true⟩]
def legsTo (ls : List level_Line) (v : Int) (k : Nat) : List level_Leg := ((List.range k).flatMap pairL).filter (fun g => stF ls g == v)
def legsAt (ls : List level_Line) (v : Int) : List level_Leg := legsTo ls v ls.length
theorem legsTo_succ {ls : List level_Line} {v : Int} {k : Nat} : legsTo ls v (k + 1) = legsTo ls v k ++ (pairL k).filter (fun g => stF ls g == v) := by
 unfold legsTo
 rw [List.range_succ,List.flatMap_append,List.filter_append]
 simp
theorem mem_legs {ls : List level_Line} {v : Int} {g : level_Leg} : g ∈ legsAt ls v ↔ stF ls g = v ∧ ∃ i : Nat,i < ls.length ∧ ∃ b,g = ⟨(i : Int),b⟩ := by
 unfold legsAt legsTo pairL
 rw [List.mem_filter,List.mem_flatMap,beq_iff_eq]
 constructor
 ·rintro ⟨⟨i,h1,h2⟩,h3⟩
  refine ⟨h3,i,List.mem_range.1 h1,?_⟩
  rcases List.mem_cons.1 h2 with h | h
  ·exact ⟨false,h⟩
  ·exact ⟨true,List.mem_singleton.1 h⟩
 ·rintro ⟨h3,i,h1,b,rfl⟩
  refine ⟨⟨i,List.mem_range.2 h1,?_⟩,h3⟩
  cases b <;> simp
structure LnOk (V : Nat) (l : level_Line) : Prop where
 f : 0 ≤ l.From ∧ l.From < (V : Int)
 t : 0 ≤ l.To ∧ l.To < (V : Int)
 ne : l.From ≠ l.To
 d : 0 ≤ l.Day ∧ l.Day ≤ 40000
 r : -1000000 ≤ l.Rise ∧ l.Rise ≤ 1000000
 e : 0 ≤ l.Error ∧ l.Error ≤ 10000
structure NetOk (V : Nat) (ls : List level_Line) : Prop where
 v1 : 1 ≤ V
 v2 : V ≤ 12
 n : ls.length ≤ 30
 l : ∀ i,i < ls.length → LnOk V (ls.getD i ln0)
theorem leg_ok {V : Nat} {ls : List level_Line} (h : NetOk V ls) {i : Nat} (hi : i < ls.length) (b : Bool) : (0 ≤ stF ls ⟨(i : Int),b⟩ ∧ stF ls ⟨(i : Int),b⟩ < (V : Int)) ∧ (0 ≤ glF ls ⟨(i : Int),b⟩ ∧ glF ls ⟨(i : Int),b⟩ < (V : Int)) ∧ stF ls ⟨(i : Int),b⟩ ≠ glF ls ⟨(i : Int),b⟩ ∧ -1010000 ≤ rsF ls ⟨(i : Int),b⟩ ∧ rsF ls ⟨(i : Int),b⟩ ≤ 1010000 := by
 obtain ⟨f,t,ne,d,r,e⟩ := h.l i hi
 cases b
 ·refine ⟨f,t,ne,?_,?_⟩
  ·show _ ≤ (ls.getD i ln0).Error + (ls.getD i ln0).Rise; omega
  ·show (ls.getD i ln0).Error + (ls.getD i ln0).Rise ≤ _; omega
 ·refine ⟨t,f,fun e => ne e.symm,?_,?_⟩
  ·show _ ≤ (ls.getD i ln0).Error - (ls.getD i ln0).Rise; omega
  ·show (ls.getD i ln0).Error - (ls.getD i ln0).Rise ≤ _; omega
theorem start_ok {N : Nat} {M : Int} {ls : List level_Line} {i : Nat} (hi : i < ls.length) (b : Bool) : level_survey_start N M ls ⟨(i : Int),b⟩ = some (stF ls ⟨(i : Int),b⟩) := by
 unfold level_survey_start
 dsimp only
 rw [getI_d ln0 hi]
 cases b <;> rfl
theorem goal_ok {N : Nat} {w : level_survey} {i : Nat} (hi : i < w.Net.Lines.length) (b : Bool) : level_survey_goal N w ⟨(i : Int),b⟩ = some (glF w.Net.Lines ⟨(i : Int),b⟩) := by
 unfold level_survey_goal
 dsimp only
 rw [getI_d ln0 hi]
 cases b <;> rfl
theorem rise_ok {N V : Nat} {w : level_survey} (h : NetOk V w.Net.Lines) {i : Nat} (hi : i < w.Net.Lines.length) (b : Bool) : level_survey_rise N w ⟨(i : Int),b⟩ = some (rsF w.Net.Lines ⟨(i : Int),b⟩) := by
 obtain ⟨f,t,ne,d,r,e⟩ := h.l i hi
 unfold level_survey_rise
 dsimp only
 rw [getI_d ln0 hi,Option.bind_some]
 cases b
 ·rw [cond_false,W_sm (by omega) (by omega)]; rfl
 ·rw [cond_true,W_sm (by omega) (by omega)]; rfl
theorem sum2_ok {N : Nat} (hN : 3 ≤ N) {a b : Int} (h1 : -2000000000000000000 ≤ a) (h2 : a ≤ 2000000000000000000) (h3 : -2000000000000000000 ≤ b) (h4 : b ≤ 2000000000000000000) : level_sum N ([a,b] : List Int) = some (a + b) := by
 unfold level_sum
 rw [loop3 (s0 := ((0 : Int),(0 : Int))) (s1 := (a,1)) (s2 := (a + b,2)) (b := fun s5 : Int × Int => level_sum_b5 N ([a,b] : List Int) s5.1 s5.2) ?_ ?_ ?_ hN]
 ·rfl
 ·show level_sum_b5 N ([a,b] : List Int) 0 0 = _
  unfold level_sum_b5
  rw [show decide ((0 : Int) < (([a,b].length : Nat) : Int)) = true from rfl,show getI [a,b] 0 = some a from rfl,cond_true,Option.bind_some,Int.zero_add,W_sm (by omega) (by omega)]
  rfl
 ·show level_sum_b5 N ([a,b] : List Int) a 1 = _
  unfold level_sum_b5
  rw [show decide ((1 : Int) < (([a,b].length : Nat) : Int)) = true from rfl,show getI [a,b] 1 = some b from rfl,cond_true,Option.bind_some,W_sm (by omega) (by omega)]
  rfl
 ·show level_sum_b5 N ([a,b] : List Int) (a + b) 2 = _
  unfold level_sum_b5
  rw [show decide ((2 : Int) < (([a,b].length : Nat) : Int)) = false from rfl,cond_false]
theorem legs_in {N : Nat} (hN : 3 ≤ N) {σ : Type} {M v : Int} {ls : List level_Line} {y : σ → level_Leg → Option (σ × Bool)} (f : σ → level_Leg → σ) (P : σ → Prop) {i : Nat} (hi : i < ls.length) (hy : ∀ s b,P s → stF ls ⟨(i : Int),b⟩ = v → y s ⟨(i : Int),b⟩ = some (f s ⟨(i : Int),b⟩,true) ∧ P (f s ⟨(i : Int),b⟩)) {s0 : σ} (h0 : P s0) :
  loopO (fun s10 : Int × σ => level_survey_legs_1_b10 N M ls v y (i : Int) s10.1 s10.2) N (0,s0) = some (.go (2,((pairL i).filter (fun g => stF ls g == v)).foldl f s0)) ∧ P (((pairL i).filter (fun g => stF ls g == v)).foldl f s0) := by
 have hb : ∀ (k : Int) (b : Bool) (s : σ),P s → getI (pairL i) k = some ⟨(i : Int),b⟩ → 0 ≤ k ∧ k < 2 → level_survey_legs_1_b10 N M ls v y (i : Int) k s = some (.cont (k + 1,if stF ls ⟨(i : Int),b⟩ == v then f s ⟨(i : Int),b⟩ else s)) ∧ P (if stF ls ⟨(i : Int),b⟩ == v then f s ⟨(i : Int),b⟩ else s) := by
  intro k b s hs hg hk
  unfold level_survey_legs_1_b10 level_survey_legs_1_j13
  have hg' : getI ([(⟨(i : Int),false⟩ : level_Leg),(⟨(i : Int),true⟩ : level_Leg)] : List level_Leg) k = some ⟨(i : Int),b⟩ := hg
  rw [dT hk.2,cond_true,hg',Option.bind_some,start_ok hi,Option.bind_some,W_sm (n := k + 1) (by omega) (by omega)]
  by_cases hv : stF ls ⟨(i : Int),b⟩ = v
  ·obtain ⟨h1,h2⟩ := hy s b hs hv
   rw [beq_iff_eq.2 hv,cond_true,h1]
   exact ⟨rfl,h2⟩
  ·rw [beq_eq_false_iff_ne.2 hv,cond_false]
   exact ⟨rfl,hs⟩
 obtain ⟨a1,a2⟩ := hb 0 false s0 h0 rfl (by omega)
 obtain ⟨b1,b2⟩ := hb 1 true _ a2 rfl (by omega)
 have e : ((pairL i).filter (fun g => stF ls g == v)).foldl f s0 = (if stF ls ⟨(i : Int),true⟩ == v then f (if stF ls ⟨(i : Int),false⟩ == v then f s0 ⟨(i : Int),false⟩ else s0) ⟨(i : Int),true⟩ else (if stF ls ⟨(i : Int),false⟩ == v then f s0 ⟨(i : Int),false⟩ else s0)) := by
  unfold pairL
  rw [List.filter_cons,List.filter_cons,List.filter_nil]
  cases stF ls ⟨(i : Int),false⟩ == v <;> cases stF ls ⟨(i : Int),true⟩ == v <;> rfl
 rw [e]
 refine ⟨loop3 (s1 := (1,_)) a1 b1 ?_ hN,b2⟩
 show level_survey_legs_1_b10 N M ls v y (i : Int) 2 _ = _
 unfold level_survey_legs_1_b10
 rw [show decide ((2 : Int) < 2) = false from rfl,cond_false]
theorem legs_run {N : Nat} (hN : 40 ≤ N) {σ : Type} {M v : Int} {ls : List level_Line} (hl : ls.length ≤ 30) {y : σ → level_Leg → Option (σ × Bool)} (f : σ → level_Leg → σ) (P : σ → Prop) (hy : ∀ s (i : Nat) b,i < ls.length → P s → stF ls ⟨(i : Int),b⟩ = v → y s ⟨(i : Int),b⟩ = some (f s ⟨(i : Int),b⟩,true) ∧ P (f s ⟨(i : Int),b⟩)) {s0 : σ} (h0 : P s0) :
  level_survey_legs_1 N M ls v y s0 = some ((legsAt ls v).foldl f s0) ∧ P ((legsAt ls v).foldl f s0) := by
 obtain ⟨s,h1,h2,h3,h4⟩ := loopInv (ρ := σ) (fun s3 : Int × σ => level_survey_legs_1_b3 N M ls v y s3.1 s3.2) (fun i s => s.1 = (i : Int) ∧ s.2 = (legsTo ls v i).foldl f s0 ∧ P s.2) ls.length (by
  rintro i ⟨x,s⟩ hi ⟨rfl,e,hp⟩
  dsimp only at e hp
  obtain ⟨a1,a2⟩ := legs_in (N := N) (by omega) (M := M) (v := v) f P hi (fun s b => hy s i b hi) hp
  refine ⟨(((i + 1 : Nat) : Int),((pairL i).filter (fun g => stF ls g == v)).foldl f s),?_,rfl,?_,a2⟩
  ·show level_survey_legs_1_b3 N M ls v y (i : Int) s = _
   unfold level_survey_legs_1_b3
   rw [dT (by omega),cond_true,a1,Option.bind_some,W_succ (by omega)]
   rfl
  ·rw [legsTo_succ,List.foldl_append,← e]) (by
  rintro ⟨x,s⟩ ⟨rfl,-⟩
  show level_survey_legs_1_b3 N M ls v y (ls.length : Int) s = _
  unfold level_survey_legs_1_b3
  rw [dF (by omega),cond_false]) ls.length 0 (0,s0) N (by omega) (by omega) ⟨rfl,rfl,h0⟩
 unfold level_survey_legs_1
 rw [h1,Option.bind_some,exK_at]
 rw [h3] at h4 ⊢
 exact ⟨rfl,h4⟩
end Go.Nilo.Lv
