/-
  What the plain functions compute, in plain arithmetic, part 11. Conditions: what each theorem names.
-/
import Derived.Test.YtakhbnnlhoninadSsL10
set_option linter.unusedSimpArgs false
set_option linter.unusedVariables false
namespace Go.Nilo
theorem subO_full {α : Type} {xs : List α} {n : Nat} (h : xs.length = n) : subO xs ((0 : Nat) : Int) ((n : Nat) : Int) = some xs := by
 subst h
 unfold subO
 rw [if_pos ⟨by omega,by omega,by omega⟩]
 congr 1
 simp
def leastF (l : List api_Span) : Int := minN (restF l) (l.getD 0 s00).Lo ((l.getD 0 s00).Hi - (l.getD 0 s00).Lo).toNat
def stepF (p : Option Int) (x : Int) : Int := (p.map (ap x)).getD 0
def fndP (l : List api_Span) (left : Int) (p : Option Int) (x : Int) : Bool := decide ((l.getD 0 s00).Lo ≤ x ∧ x ≤ (l.getD 0 s00).Hi) && decide (stepF p x + restF l x = left)
theorem fndP_iff {l : List api_Span} {left : Int} {p : Option Int} {x : Int} : fndP l left p x = true ↔ ((l.getD 0 s00).Lo ≤ x ∧ x ≤ (l.getD 0 s00).Hi) ∧ stepF p x + restF l x = left := by
 unfold fndP
 rw [Bool.and_eq_true,decide_eq_true_eq,decide_eq_true_eq]
def fndM (P : Int → Bool) (n : Nat) : Nat := (List.range n).findIdx fun k : Nat => P ((k : Int) - 300)
def fndN (P : Int → Bool) : Nat := fndM P 601
def gre : List api_Span → Int → Option Int → List Int
 | [],_,_ => []
 | s::l,left,p => ((fndN (fndP (s::l) left p) : Int) - 300)::gre l (restF (s::l) ((fndN (fndP (s::l) left p) : Int) - 300)) (some ((fndN (fndP (s::l) left p) : Int) - 300))
theorem fndM_spec {P : Int → Bool} {x : Int} {n : Nat} (h1 : -300 ≤ x) (h2 : x < (n : Int) - 300) (h : P x = true) : fndM P n < n ∧ P ((fndM P n : Int) - 300) = true ∧ ∀ j : Nat,j < fndM P n → P ((j : Int) - 300) = false := by
 have hlt : fndM P n < (List.range n).length := by
  refine List.findIdx_lt_length.2 ⟨(x + 300).toNat,List.mem_range.2 (by omega),?_⟩
  rw [show (((x + 300).toNat : Nat) : Int) - 300 = x by omega]
  exact h
 have h601 : fndM P n < n := by rwa [List.length_range] at hlt
 refine ⟨h601,?_,fun j hj => ?_⟩
 ·have : P ((((List.range n)[fndM P n]'hlt : Nat) : Int) - 300) = true := List.findIdx_getElem (w := hlt)
  rwa [List.getElem_range] at this
 ·have := List.not_of_lt_findIdx (p := fun k : Nat => P ((k : Int) - 300)) (xs := List.range n) (i := j) hj
  rw [List.getElem_range] at this
  simpa using this
theorem fndN_spec {P : Int → Bool} {x : Int} (h1 : -300 ≤ x) (h2 : x ≤ 300) (h : P x = true) : fndN P < 601 ∧ P ((fndN P : Int) - 300) = true ∧ ∀ j : Nat,j < fndN P → P ((j : Int) - 300) = false :=
 fndM_spec h1 (by omega) h
theorem gre_spec : ∀ (l : List api_Span) (left : Int) (p : Option Int),(∀ s ∈ l,SOkS s) → (l ≠ [] → ∃ x,fndP l left p x = true) → Crs l (gre l left p) ∧ (l ≠ [] → move (p.toList ++ gre l left p) = left)
 | [],_,_,_,_ => ⟨trivial,fun h => absurd rfl h⟩
 | s::l,left,p,hl,hx => by
  obtain ⟨x,hx⟩ := hx (by simp)
  have hs := hl s (by simp)
  have hx' : s.Lo ≤ x ∧ x ≤ s.Hi := (fndP_iff.1 hx).1
  obtain ⟨a,b,-⟩ := fndN_spec (P := fndP (s::l) left p) (x := x) (by unfold SOkS at hs; omega) (by unfold SOkS at hs; omega) hx
  unfold gre
  generalize ((fndN (fndP (s::l) left p) : Nat) : Int) - 300 = y at *
  have hy : (s.Lo ≤ y ∧ y ≤ s.Hi) ∧ stepF p y + restF (s::l) y = left := fndP_iff.1 b
  obtain ⟨ih1,ih2⟩ := gre_spec l (restF (s::l) y) (some y) (fun t ht => hl t (List.mem_cons_of_mem _ ht)) (fun hne => by
   obtain ⟨t,l',rfl⟩ := List.exists_cons_of_ne_nil hne
   obtain ⟨z,k1,k2,k3⟩ := minN_ex (fun z => ap y z + restF (t::l') z) t.Lo (t.Hi - t.Lo).toNat
   have ht := hl t (by simp)
   refine ⟨z,fndP_iff.2 ⟨⟨k1,?_⟩,?_⟩⟩
   ·have := ht.2.1
    show z ≤ t.Hi
    omega
   ·have e : restF (s::t::l') y = minN (fun z => ap y z + restF (t::l') z) t.Lo (t.Hi - t.Lo).toNat := rfl
    rw [e,k3,ap_comm y z]
    rfl)
  refine ⟨⟨hy.1.1,hy.1.2,ih1⟩,fun _ => ?_⟩
  have hm : move (y::gre l (restF (s::l) y) (some y)) = restF (s::l) y := by
   cases l with
   | nil => rfl
   | cons t l' => exact ih2 (by simp)
  cases p with
  | none =>
   show move (y::gre l (restF (s::l) y) (some y)) = left
   rw [hm,← hy.2]
   simp [stepF]
  | some q =>
   show move (q::y::gre l (restF (s::l) y) (some y)) = left
   rw [move,hm,← hy.2,ap_comm]
   rfl
theorem least_ex {l : List api_Span} (h : VL l) : ∃ x,fndP l (leastF l) none x = true := by
 have h1 := h.l1
 have hs := h.at_ (i := 0) (by omega)
 obtain ⟨x,k1,k2,k3⟩ := minN_ex (restF l) (l.getD 0 s00).Lo ((l.getD 0 s00).Hi - (l.getD 0 s00).Lo).toNat
 refine ⟨x,fndP_iff.2 ⟨⟨k1,?_⟩,?_⟩⟩
 ·have := hs.2.1
  omega
 ·unfold leastF
  rw [k3]
  simp [stepF]
def courseF (l : List api_Span) : List Int := gre l (leastF l) none
theorem course_spec {l : List api_Span} (h : VL l) : Crs l (courseF l) ∧ move (courseF l) = leastF l := by
 have h1 := h.l1
 obtain ⟨a,b⟩ := gre_spec l (leastF l) none h.ok (fun _ => least_ex h)
 exact ⟨a,b (by intro e; rw [e] at h1; simp at h1)⟩
theorem least_le {l : List api_Span} (h : VL l) {c : List Int} (hc : Crs l c) : leastF l ≤ move c := by
 have h1 := h.l1
 cases l with
 | nil => simp at h1
 | cons s l =>
  cases c with
  | nil => exact hc.elim
  | cons x c =>
   have := restF_le l s x c hc
   have := minN_le (restF (s::l)) s.Lo (s.Hi - s.Lo).toNat x hc.1 (by have := hc.1; have := hc.2.1; omega)
   unfold leastF
   show minN (restF (s::l)) s.Lo (s.Hi - s.Lo).toNat ≤ _
   omega
theorem least_nonneg {l : List api_Span} (h : VL l) : 0 ≤ leastF l := by
 rw [← (course_spec h).2]
 exact move_nonneg _
theorem apart_spec {N : Nat} (hN : 700 ≤ N) {a b : Int} (ha : -1000000 ≤ a ∧ a ≤ 1000000) (hb : -1000000 ≤ b ∧ b ≤ 1000000) : shift_apart N a b = some (ap a b) := by
 unfold shift_apart shift_greatest
 rw [W_sm (n := a - b) (by omega) (by omega),W_sm (n := b - a) (by omega) (by omega)]
 have := runS (ρ := Int) (fun i : Nat => ((if i = 0 then a - b else ap a b,(i : Int)) : Int × Int)) 1 (fun s4 => shift_greatest_b4 N [b - a] s4.1 s4.2) (fun i hi => by
  obtain rfl : i = 0 := by omega
  rfl) rfl (N := N) (by omega)
 rw [show ((a - b,0) : Int × Int) = (if (0 : Nat) = 0 then a - b else ap a b,((0 : Nat) : Int)) from rfl,this]
 rfl
theorem min_spec {N : Nat} (hN : 700 ≤ N) {xs : List Int} (h1 : 1 ≤ xs.length) (h2 : xs.length ≤ 650) : slices_Min_Lint_int N xs = some (minN (fun y => xs.getD y.toNat 0) 0 (xs.length - 1)) := by
 unfold slices_Min_Lint_int
 rw [dF (show ¬ ((xs.length : Nat) : Int) < 1 by omega),cond_false,show (0 : Int) = ((0 : Nat) : Int) from rfl,getI_d 0 (by omega),Option.bind_some]
 have := runS (ρ := Int) (fun i : Nat => ((minN (fun y => xs.getD y.toNat 0) 0 i,((i + 1 : Nat) : Int)) : Int × Int)) (xs.length - 1) (fun s7 => slices_Min_Lint_int_b7 N xs s7.1 s7.2) (fun i hi => by
  show slices_Min_Lint_int_b7 N xs _ ((i + 1 : Nat) : Int) = _
  unfold slices_Min_Lint_int_b7
  rw [lt_dec (by omega),cond_true,getI_d 0 (by omega),Option.bind_some,W_succ (by omega)]
  show some (Step.cont (min (minN (fun y => xs.getD y.toNat 0) 0 i) (xs.getD (i + 1) 0),_)) = some (Step.cont (min (minN (fun y => xs.getD y.toNat 0) 0 i) (xs.getD (0 + ((i + 1 : Nat) : Int)).toNat 0),_))
  rw [Int.zero_add,Int.toNat_natCast]) (by
  show slices_Min_Lint_int_b7 N xs _ ((xs.length - 1 + 1 : Nat) : Int) = _
  unfold slices_Min_Lint_int_b7
  rw [Nat.sub_add_cancel h1,ge_dec,cond_false]) (N := N) (by omega)
 show Option.bind (loopO _ N (minN (fun y => xs.getD y.toNat 0) 0 0,((0 + 1 : Nat) : Int))) _ = _
 rw [this]
 rfl
theorem min_tab {l : List api_Span} (h : VL l) : minN (fun y => ((aL 601 (tabF (l.getD 0 s00) (restG l 0))).getD y.toNat 0)) 0 600 = leastF l := by
 have h1 := h.l1
 have hs := h.at_ (i := 0) (by omega)
 have hget : ∀ k : Nat,k < 601 → (aL 601 (tabF (l.getD 0 s00) (restG l 0))).getD k 0 = tabF (l.getD 0 s00) (restG l 0) k := fun k hk => by simp [aL,List.getD,hk]
 have hre : restG l 0 = restF l := by unfold restG; rw [List.drop_zero]
 have hin : ∀ x,(l.getD 0 s00).Lo ≤ x → x ≤ (l.getD 0 s00).Hi → tabF (l.getD 0 s00) (restG l 0) (x + 300).toNat = restF l x := fun x a b => by
  unfold SOkS at hs
  unfold tabF
  rw [if_pos (by omega),show (((x + 300).toNat : Nat) : Int) - 300 = x by omega,if_pos ⟨a,b⟩,hre]
 obtain ⟨x,k1,k2,k3⟩ := minN_ex (restF l) (l.getD 0 s00).Lo ((l.getD 0 s00).Hi - (l.getD 0 s00).Lo).toNat
 have hx : x ≤ (l.getD 0 s00).Hi := by have := hs.2.1; omega
 obtain ⟨y,j1,j2,j3⟩ := minN_ex (fun y => ((aL 601 (tabF (l.getD 0 s00) (restG l 0))).getD y.toNat 0)) 0 600
 refine Int.le_antisymm ?_ ?_
 ·have := minN_le (fun y => ((aL 601 (tabF (l.getD 0 s00) (restG l 0))).getD y.toNat 0)) 0 600 (x + 300) (by unfold SOkS at hs; omega) (by unfold SOkS at hs; omega)
  rw [hget _ (by unfold SOkS at hs; omega),hin x k1 hx] at this
  unfold leastF
  rw [k3]
  exact this
 ·rw [j3,hget _ (by omega)]
  unfold tabF
  rw [if_pos (by omega)]
  split
  ·rename_i hc
   rw [hre]
   exact minN_le (restF l) _ _ _ hc.1 (by omega)
  ·have hb := restG_bd h (i := 0) (by omega) k1 hx
   rw [hre] at hb
   unfold leastF
   rw [k3]
   unfold none_
   omega
theorem r23_spec {N : Nat} (hN : 700 ≤ N) {l : List api_Span} (h : VL l) {i : Nat} (hi : i < l.length) {left : Int} {c : List Int} (hc : c.length = i) (hcb : ∀ x ∈ c,-300 ≤ x ∧ x ≤ 300) {k : Nat} (hk : k < 601) :
  shift_Least_r23 N (i : Int) (tabF (l.getD i s00) (restG l i)) left c (k : Int) ((k : Int) - 300) = some (if fndP (l.drop i) left c.getLast? ((k : Int) - 300) = true then Rs.brk (restF (l.drop i) ((k : Int) - 300),c ++ [(k : Int) - 300]) else Rs.go (left,c)) := by
 have h32 := h.l32
 have hj : ∀ st,0 ≤ st → st ≤ 1000000 → st = stepF c.getLast? ((k : Int) - 300) → shift_Least_j27 N (tabF (l.getD i s00) (restG l i)) left c (k : Int) ((k : Int) - 300) st = some (if fndP (l.drop i) left c.getLast? ((k : Int) - 300) = true then Rs.brk (restF (l.drop i) ((k : Int) - 300),c ++ [(k : Int) - 300]) else Rs.go (left,c)) := fun st h0 h1 he => by
  unfold shift_Least_j27
  rw [inR_ok hk,Option.bind_some,Int.toNat_natCast]
  have e0 : (l.drop i).getD 0 s00 = l.getD i s00 := by rw [drop_cons hi]; rfl
  unfold tabF fndP
  rw [if_pos hk,e0]
  by_cases hin : (l.getD i s00).Lo ≤ (k : Int) - 300 ∧ (k : Int) - 300 ≤ (l.getD i s00).Hi
  ·have b2 := restG_bd h hi hin.1 hin.2
   rw [if_pos hin,dT hin,Bool.true_and]
   have : (restG l i ((k : Int) - 300) != 1073741824) = true := by simp; omega
   rw [this,cond_true,Option.bind_some,W_sm (by omega) (by omega)]
   unfold restG at *
   by_cases hq : st + restF (l.drop i) ((k : Int) - 300) = left
   ·rw [hq,beq_self_eq_true,cond_true,room_ok (by simp; omega),Option.bind_some,Option.bind_some,if_pos (by rw [decide_eq_true_eq]; rw [← he]; exact hq)]
   ·have : (st + restF (l.drop i) ((k : Int) - 300) == left) = false := by simpa using hq
    rw [this,cond_false,if_neg (by rw [decide_eq_true_eq]; rw [← he]; exact hq)]
  ·rw [if_neg hin,dF hin,Bool.false_and]
   rfl
 unfold shift_Least_r23
 rcases Nat.eq_zero_or_pos i with h0 | h0
 ·subst h0
  have : c = [] := List.eq_nil_of_length_eq_zero hc
  subst this
  rw [dF (by omega),cond_false]
  exact hj 0 (by omega) (by omega) rfl
 ·rw [dT (show (0 : Int) < (i : Int) by omega),cond_true,W_sm (n := (i : Int) - 1) (by omega) (by omega),show ((i : Nat) : Int) - 1 = ((i - 1 : Nat) : Int) by omega,getI_d 0 (by omega),Option.bind_some]
  have hlast : c.getLast? = some (c.getD (i - 1) 0) := by
   rw [List.getLast?_eq_getElem?,hc,List.getElem?_eq_getElem (by omega),get_getD (d := (0 : Int))]
  have hb := hcb (c.getD (i - 1) 0) (by rw [← get_getD (by omega)]; exact List.getElem_mem _)
  rw [apart_spec hN (by omega) (by omega),Option.bind_some]
  exact hj _ (ap_nonneg _ _) (by unfold ap; omega) (by rw [hlast]; rfl)
theorem Least_loop {N : Nat} (hN : 700 ≤ N) {l : List api_Span} (h : VL l) : ∀ (m i M : Nat) (left : Int) (c : List Int),i + m = l.length → m < M → c.length = i → (∀ x ∈ c,-300 ≤ x ∧ x ≤ 300) → (i < l.length → ∃ x,fndP (l.drop i) left c.getLast? x = true) →
  ∃ z : Int × Int,loopO (fun s16 : Int × Int × List Int => shift_Least_b16 N (rests l) s16.1 s16.2.1 s16.2.2) M ((i : Int),left,c) = some (.go (z.1,z.2,c ++ gre (l.drop i) left c.getLast?)) := by
 intro m
 have h32 := h.l32
 have hrl : (rests l).length = l.length := by simp [rests]
 induction m with
 | zero =>
  intro i M left c hi hM hc hb hx
  obtain ⟨M,rfl⟩ : ∃ M',M = M' + 1 := ⟨M - 1,by omega⟩
  obtain rfl : i = l.length := by omega
  refine ⟨((l.length : Int),left),?_⟩
  unfold loopO
  have : shift_Least_b16 N (rests l) (l.length : Int) left c = some (.brk ((l.length : Int),left,c)) := by
   unfold shift_Least_b16
   rw [hrl,ge_dec,cond_false]
  simp only [this]
  rw [List.drop_eq_nil_of_le (Nat.le_refl _)]
  simp [gre]
 | succ m ih =>
  intro i M left c hi hM hc hb hx
  obtain ⟨M,rfl⟩ : ∃ M',M = M' + 1 := ⟨M - 1,by omega⟩
  have hil : i < l.length := by omega
  obtain ⟨x,hx⟩ := hx hil
  have hs := h.at_ hil
  have e0 : (l.drop i).getD 0 s00 = l.getD i s00 := by rw [drop_cons hil]; rfl
  have hxin : ∀ y,fndP (l.drop i) left c.getLast? y = true → ((l.getD i s00).Lo ≤ y ∧ y ≤ (l.getD i s00).Hi) ∧ stepF c.getLast? y + restF (l.drop i) y = left := fun y hy => by
   have := fndP_iff.1 hy
   rwa [e0] at this
  have hx1 := (hxin x hx).1
  obtain ⟨f1,f2,f3⟩ := fndN_spec (P := fndP (l.drop i) left c.getLast?) (x := x) (by unfold SOkS at hs; omega) (by unfold SOkS at hs; omega) hx
  have hy := hxin _ f2
  have hsh : shift_shifts_1 N (rY (fun (zz : Int × (List Int)) (ix_ : (Int × Int)) => shift_Least_r23 N (i : Int) (tabF (l.getD i s00) (restG l i)) zz.1 zz.2 ix_.1 ix_.2)) (.go (left,c)) = some (.brk (restF (l.drop i) ((fndN (fndP (l.drop i) left c.getLast?) : Int) - 300),c ++ [(fndN (fndP (l.drop i) left c.getLast?) : Int) - 300])) := by
   refine shifts_brk hN _ (fun _ => Rs.go (left,c)) _ _ f1 (fun j hj => ?_) ?_
   ·show Option.map _ (shift_Least_r23 N (i : Int) _ left c (j : Int) ((j : Int) - 300)) = _
    rw [r23_spec hN h hil hc hb (by omega),if_neg (by rw [f3 j hj]; simp)]
    rfl
   ·show Option.map _ (shift_Least_r23 N (i : Int) _ left c _ _) = _
    rw [r23_spec hN h hil hc hb f1,if_pos f2]
    rfl
  have hstep : shift_Least_b16 N (rests l) (i : Int) left c = some (.cont (((i + 1 : Nat) : Int),restF (l.drop i) ((fndN (fndP (l.drop i) left c.getLast?) : Int) - 300),c ++ [(fndN (fndP (l.drop i) left c.getLast?) : Int) - 300])) := by
   unfold shift_Least_b16
   rw [hrl,lt_dec hil,cond_true]
   unfold rests
   rw [tabs_get hil,Option.bind_some,hsh,Option.bind_some]
   show some (Step.cont (W ((i : Int) + 1),_,_)) = _
   rw [W_succ (by omega)]
  unfold loopO
  simp only [hstep]
  obtain ⟨z,k⟩ := ih (i + 1) M (restF (l.drop i) ((fndN (fndP (l.drop i) left c.getLast?) : Int) - 300)) (c ++ [(fndN (fndP (l.drop i) left c.getLast?) : Int) - 300]) (by omega) (by omega) (by simp [hc]) (fun y hy' => by
   rcases List.mem_append.1 hy' with h1 | h1
   ·exact hb y h1
   ·simp only [List.mem_singleton] at h1
    rw [h1]
    have := hy.1
    have := hs.1
    have := hs.2.2
    exact ⟨by omega,by omega⟩) (fun hi1 => by
   have hd := drop_cons hi1
   obtain ⟨w,w1,w2,w3⟩ := minN_ex (fun w => ap ((fndN (fndP (l.drop i) left c.getLast?) : Int) - 300) w + restF (l.drop (i + 1)) w) (l.getD (i + 1) s00).Lo ((l.getD (i + 1) s00).Hi - (l.getD (i + 1) s00).Lo).toNat
   have hs1 := h.at_ hi1
   have e0' : (l.drop (i + 1)).getD 0 s00 = l.getD (i + 1) s00 := by rw [hd]; rfl
   refine ⟨w,?_⟩
   rw [List.getLast?_concat]
   refine fndP_iff.2 ⟨by rw [e0']; exact ⟨w1,by have := hs1.2.1; omega⟩,?_⟩
   generalize ((fndN (fndP (l.drop i) left c.getLast?) : Nat) : Int) - 300 = y at *
   have e1 : restF (l.drop i) y = minN (fun w => ap y w + restF (l.drop (i + 1)) w) (l.getD (i + 1) s00).Lo ((l.getD (i + 1) s00).Hi - (l.getD (i + 1) s00).Lo).toNat := by
    rw [drop_cons hil,hd]
    rfl
   rw [e1,w3,ap_comm]
   rfl)
  refine ⟨z,?_⟩
  rw [k,List.getLast?_concat]
  have hg : gre (l.drop i) left c.getLast? = ((fndN (fndP (l.drop i) left c.getLast?) : Int) - 300)::gre (l.drop (i + 1)) (restF (l.drop i) ((fndN (fndP (l.drop i) left c.getLast?) : Int) - 300)) (some ((fndN (fndP (l.drop i) left c.getLast?) : Int) - 300)) := by
   rw [drop_cons hil]
   rfl
  rw [hg,List.append_assoc]
  rfl
theorem passes_vl {r : shift_Record} (hr : RecOk r) (h : (passes r).all spanOk = true) : VL (passes r) := by
 refine ⟨by simpa [passes] using hr.g1,by have := hr.g30; simp [passes]; omega,fun s hs => ?_⟩
 have hok := of_decide_eq_true (List.all_eq_true.1 h s hs)
 obtain ⟨g,hg,rfl⟩ := List.mem_map.1 hs
 rcases spanN_spec (passP r.Rating g) 601 with ⟨a,b,c,d,e,f⟩ | ⟨a,b,c⟩
 ·have e' : (spanN (passP r.Rating g) 601).2 < 301 := e
  exact ⟨d,a,show (spanN (passP r.Rating g) 601).2 ≤ 300 by omega⟩
 ·have hok' : (spanN (passP r.Rating g) 601).1 ≤ (spanN (passP r.Rating g) 601).2 := hok
  omega
theorem Least_spec {N : Nat} (hN : 700 ≤ N) {r : shift_Record} (hr : RecOk r) (h : (passes r).all spanOk = true) : shift_Least N r = some (courseF (passes r),leastF (passes r),0) := by
 have hv := passes_vl hr h
 have h1 := hv.l1
 unfold shift_Least
 rcases opened_ok hN hr with ⟨o,-,k⟩ | ⟨k,-⟩
 ·rw [h] at k
  cases k
 rw [k,Option.bind_some]
 show Option.bind (shift_behind N (passes r)) _ = _
 have hg0 : getI (rests (passes r)) ((0 : Nat) : Int) = some (tabF ((passes r).getD 0 s00) (restG (passes r) 0)) := tabs_get (G := restG) (by omega)
 rw [behind_spec hN hv,Option.bind_some,show (0 : Int) = ((0 : Nat) : Int) from rfl,hg0,Option.bind_some]
 have hsub : subO (aL 601 (tabF ((passes r).getD 0 s00) (restG (passes r) 0))) ((0 : Nat) : Int) ((601 : Nat) : Int) = some (aL 601 (tabF ((passes r).getD 0 s00) (restG (passes r) 0))) := by
  exact subO_full aL_len
 rw [hsub,Option.bind_some,min_spec hN (by rw [aL_len]; omega) (by rw [aL_len]; omega),Option.bind_some,aL_len]
 rw [show 601 - 1 = 600 from rfl,min_tab hv]
 obtain ⟨z,k⟩ := Least_loop hN hv (passes r).length 0 N (leastF (passes r)) [] (by omega) (by have := hv.l32; omega) rfl (fun x hx => by simp at hx) (fun _ => least_ex hv)
 rw [k,Option.bind_some]
 rfl
end Go.Nilo
