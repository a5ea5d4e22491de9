/-
  What the plain functions compute, in plain arithmetic, part 10. Conditions: what each theorem names.
-/
import Derived.Test.YtpfmkhhhamdpeaaGreatTuL9
set_option linter.unusedSimpArgs false
set_option linter.unusedVariables false
namespace Go.Nilo
abbrev Aw (l : List Int) (i : Nat) : Int := l.getD i 0
def worse (cl o : List Int) (i w : Nat) : Prop := Aw cl i * Aw o w ≤ Aw cl w * Aw o i
theorem day_ok {N : Nat} {c n : Int} (h0 : 0 ≤ c) (h1 : c ≤ 1000) (h2 : 0 ≤ n) (h3 : n ≤ 1000) : share_Rule_day N 2 c (W (n + 1)) = some ⟨2 * c,2 * n⟩ := by
 unfold share_Rule_day
 have e1 : W (n + 1) = n + 1 := W_id (by omega) (by omega)
 have e2 : W (2 * c) = 2 * c := W_id (by omega) (by omega)
 have e3 : W (2 * (n + 1)) = 2 * (n + 1) := W_id (by omega) (by omega)
 have e4 : W (2 * (n + 1) - 2) = 2 * n := by rw [W_id (by omega) (by omega)]; omega
 rw [e1,e2,e3,e4]
 rfl
theorem more_ok {a b c d : Int} (ha : 0 ≤ a ∧ a ≤ 1000) (hb : 0 ≤ b ∧ b ≤ 1000) (hc : 0 ≤ c ∧ c ≤ 1000) (hd : 0 ≤ d ∧ d ≤ 1000) : ((!((2 * a) == (2 * c) && (2 * b) == (2 * d))) && (share_quotient_more ⟨2 * a,2 * b⟩ ⟨2 * c,2 * d⟩)) = decide (c * b < a * d) := by
 have m1 := mul_bd (a := c) (b := b) hc.1 hb.1 hc.2 hb.2
 have m2 := mul_bd (a := a) (b := d) ha.1 hd.1 ha.2 hd.2
 have e1 : 2 * c * (2 * b) = 4 * (c * b) := by rw [Int.mul_assoc,Int.mul_left_comm c 2 b,← Int.mul_assoc]; rfl
 have e2 : 2 * a * (2 * d) = 4 * (a * d) := by rw [Int.mul_assoc,Int.mul_left_comm a 2 d,← Int.mul_assoc]; rfl
 unfold share_quotient_more
 dsimp only
 rw [e1,e2,W_id (by omega) (by omega),W_id (by omega) (by omega)]
 by_cases h : c * b < a * d
 ·rw [decide_eq_true h,decide_eq_true (by omega),Bool.and_true]
  have : ¬ (a = c ∧ b = d) := by
   rintro ⟨rfl,rfl⟩
   omega
  rw [Bool.not_eq_true',Bool.and_eq_false_iff,beq_eq_false_iff_ne,beq_eq_false_iff_ne]
  omega
 ·rw [decide_eq_false h,decide_eq_false (by omega),Bool.and_false]
theorem worse_trans {a b c x y z : Int} (ha : 0 < c) (h0 : 0 ≤ a) (h1 : 0 ≤ b) (hx : 0 ≤ x) (hy : 0 ≤ y) (hz : 0 ≤ z) (h2 : a * z ≤ c * x) (h3 : c * y < b * z) : a * y ≤ b * x := by
 -- quotients a/x no more than c/z,and b/y more than c/z
 have e1 : c * (a * y) = a * (c * y) := Int.mul_left_comm c a y
 have e2 : a * (c * y) ≤ a * (b * z) := Int.mul_le_mul_of_nonneg_left (by omega) h0
 have e3 : a * (b * z) = b * (a * z) := Int.mul_left_comm a b z
 have e4 : b * (a * z) ≤ b * (c * x) := Int.mul_le_mul_of_nonneg_left h2 h1
 have e5 : b * (c * x) = c * (b * x) := Int.mul_left_comm b c x
 exact Int.le_of_mul_le_mul_left (by omega) ha
theorem best_turn {N : Nat} (hN : 60 ≤ N) {cl o : List Int} (hl : o.length = cl.length) (h1 : 1 ≤ cl.length ∧ cl.length ≤ 12) (hc : ∀ i,i < cl.length → 1 ≤ Aw cl i ∧ Aw cl i ≤ 1000) (ho : ∀ i,i < cl.length → 0 ≤ Aw o i ∧ Aw o i ≤ 1000) :
  ∃ (w : Nat) (a b : Int),loopO (fun s23 => share_Turns_b23 N cl 2 o s23.1 s23.2.1 s23.2.2.1 s23.2.2.2) N (0,0,2 * Aw cl 0,2 * Aw o 0) = some (.go ((w : Int),(cl.length : Int),a,b)) ∧ w < cl.length ∧ ∀ i,i < cl.length → worse cl o i w := by
 obtain ⟨s,g1,w,g2,g3,g4⟩ := loopInv (ρ := Step ((List Int) × Int) ((List Int) × Int)) (fun s23 => share_Turns_b23 N cl 2 o s23.1 s23.2.1 s23.2.2.1 s23.2.2.2) (fun j s => ∃ w : Nat,s = ((w : Int),(j : Int),2 * Aw cl w,2 * Aw o w) ∧ w < cl.length ∧ ∀ i,i < j → worse cl o i w) cl.length (fun j s hj hI => by
  obtain ⟨w,rfl,hw,hall⟩ := hI
  obtain ⟨c1,c2⟩ := hc j hj
  obtain ⟨c3,c4⟩ := hc w hw
  obtain ⟨o1,o2⟩ := ho j hj
  obtain ⟨o3,o4⟩ := ho w hw
  have gc : getI cl (j : Int) = some (Aw cl j) := getI_getD hj
  have go' : getI o (j : Int) = some (Aw o j) := getI_getD (by omega)
  show ∃ s',share_Turns_b23 N cl 2 o (w : Int) (j : Int) (2 * Aw cl w) (2 * Aw o w) = _ ∧ _
  unfold share_Turns_b23 share_Turns_j26
  rw [lt_dec hj,cond_true,gc,Option.bind_some,go',Option.bind_some,day_ok (by omega) c2 o1 o2,Option.bind_some,more_ok ⟨by omega,c2⟩ ⟨o1,o2⟩ ⟨by omega,c4⟩ ⟨o3,o4⟩,W_succ (by omega)]
  by_cases h : Aw cl w * Aw o j < Aw cl j * Aw o w
  ·rw [decide_eq_true h,cond_true]
   refine ⟨_,rfl,j,rfl,hj,fun i hi => ?_⟩
   by_cases hij : i = j
   ·subst hij; exact Int.le_refl _
   ·have hil : i < cl.length := by omega
    exact worse_trans (c := Aw cl w) (z := Aw o w) (by omega) (by have := (hc i hil).1; omega) (by omega) (ho i hil).1 o1 o3 (hall i (by omega)) h
  ·rw [decide_eq_false h,cond_false]
   refine ⟨_,rfl,w,rfl,hw,fun i hi => ?_⟩
   by_cases hij : i = j
   ·subst hij; unfold worse; omega
   ·exact hall i (by omega)) (fun s hI => by
  obtain ⟨w,rfl,-,-⟩ := hI
  show share_Turns_b23 N cl 2 o _ _ _ _ = _
  unfold share_Turns_b23
  rw [ge_dec,cond_false]) cl.length 0 (0,0,2 * Aw cl 0,2 * Aw o 0) N (by omega) (by omega) ⟨0,rfl,by omega,fun i hi => by omega⟩
 exact ⟨w,_,_,by rw [g1,g2],g3,g4⟩
structure TOk (cl o : List Int) (x : Nat) : Prop where
 len : o.length = cl.length
 sum : o.sum = (x : Int)
 nn : ∀ i,i < cl.length → 0 ≤ Aw o i ∧ Aw o i ≤ (x : Int)
 few : x ≤ cl.length → ∀ i,i < cl.length → Aw o i ≤ 1
 all : cl.length ≤ x → ∀ i,i < cl.length → 1 ≤ Aw o i
 mono : cl.length ≤ x → ∀ i k,i < cl.length → k < cl.length → Aw cl k < Aw cl i → Aw o k ≤ Aw o i
theorem sum_ge : ∀ {l : List Int},(∀ i,i < l.length → 1 ≤ Aw l i) → (l.length : Int) ≤ l.sum
 | [],_ => by simp
 | a::l,h => by
  have h1 := sum_ge (l := l) fun i hi => by simpa [Aw] using h (i + 1) (by simpa using hi)
  have h2 := h 0 (by simp)
  simp only [Aw,List.getD_cons_zero] at h2
  rw [List.sum_cons,List.length_cons]
  push_cast
  omega
theorem sum_zero : ∀ {l : List Int},(∀ i,i < l.length → Aw l i ≤ 1) → l.sum = (l.length : Int) → ∀ i,i < l.length → Aw l i = 1
 | [],_,_,i,hi => by simp at hi
 | a::l,h,hs,i,hi => by
  have hle : ∀ {l : List Int},(∀ i,i < l.length → Aw l i ≤ 1) → l.sum ≤ (l.length : Int) := fun {l} => by
   induction l with
   | nil => intro _; simp
   | cons b l ih =>
    intro h
    have h1 := ih fun i hi => by simpa [Aw] using h (i + 1) (by simpa using hi)
    have h2 := h 0 (by simp)
    simp only [Aw,List.getD_cons_zero] at h2
    rw [List.sum_cons,List.length_cons]
    push_cast
    omega
  have ht : ∀ i,i < l.length → Aw l i ≤ 1 := fun i hi => by simpa [Aw] using h (i + 1) (by simpa using hi)
  have h1 := hle ht
  have h2 := h 0 (by simp)
  simp only [Aw,List.getD_cons_zero] at h2
  rw [List.sum_cons,List.length_cons] at hs
  push_cast at hs
  cases i with
  | zero => simp only [Aw,List.getD_cons_zero]; omega
  | succ i =>
   have := sum_zero (l := l) ht (by omega) i (by simpa using hi)
   simpa [Aw] using this
theorem turn_step {cl o : List Int} {x w : Nat} (h : TOk cl o x) (h1 : 1 ≤ cl.length) (hc : ∀ i,i < cl.length → 1 ≤ Aw cl i) (hw : w < cl.length) (hb : ∀ i,i < cl.length → worse cl o i w) : TOk cl (o.set w (Aw o w + 1)) (x + 1) := by
 have hwl : w < o.length := by have := h.len; omega
 have eA : ∀ i,Aw (o.set w (Aw o w + 1)) i = if i = w then Aw o w + 1 else Aw o i := fun i => getD_set hwl
 have hzero : x < cl.length → Aw o w = 0 := fun hx => by
  have hex : ∃ i,i < cl.length ∧ Aw o i ≤ 0 := Classical.byContradiction fun hn => by
   have := sum_ge (l := o) fun i hi => by
    rcases Int.lt_or_le 0 (Aw o i) with h2 | h2
    ·omega
    ·exact absurd ⟨i,by have := h.len; omega,h2⟩ hn
   have h3 := h.sum
   have h4 := h.len
   omega
  obtain ⟨i,hi,hi0⟩ := hex
  have hz : Aw o i = 0 := by have := (h.nn i hi).1; omega
  have hbi := hb i hi
  unfold worse at hbi
  rw [hz,Int.mul_zero] at hbi
  have h5 := (h.nn w hw).1
  rcases Int.lt_or_le 0 (Aw o w) with h6 | h6
  ·have := Int.mul_pos (show 0 < Aw cl i by have := hc i hi; omega) h6
   omega
  ·omega
 refine ⟨by rw [List.length_set]; exact h.len,?_,fun i hi => ?_,fun hx i hi => ?_,fun hx i hi => ?_,fun hx i k hi hk hlt => ?_⟩
 ·rw [show o.set w (Aw o w + 1) = o.set w (o.getD w 0 + 1) from rfl,sum_set1 o w hwl,h.sum]; push_cast; rfl
 ·rw [eA]
  split
  ·have := h.nn w hw; push_cast; omega
  ·have := h.nn i hi; push_cast; omega
 ·rw [eA]
  split
  ·rw [hzero (by omega)]; omega
  ·exact h.few (by omega) i hi
 ·by_cases hx2 : cl.length ≤ x
  ·rw [eA]; split
   ·have := h.all hx2 w hw; omega
   ·exact h.all hx2 i hi
  ·-- all have one just now
   have hf : ∀ j,j < (o.set w (Aw o w + 1)).length → Aw (o.set w (Aw o w + 1)) j ≤ 1 := fun j hj => by
    rw [eA]; split
    ·rw [hzero (by omega)]; omega
    ·exact h.few (by omega) j (by rw [List.length_set,h.len] at hj; exact hj)
   have hs : (o.set w (Aw o w + 1)).sum = ((o.set w (Aw o w + 1)).length : Int) := by
    rw [show o.set w (Aw o w + 1) = o.set w (o.getD w 0 + 1) from rfl,sum_set1 o w hwl,h.sum,List.length_set,h.len]
    omega
   rw [sum_zero hf hs i (by rw [List.length_set,h.len]; exact hi)]
   exact Int.le_refl _
 ·by_cases hx2 : cl.length ≤ x
  ·rw [eA,eA]
   by_cases hk2 : k = w
   ·rw [if_pos hk2]
    have hne : i ≠ w := fun e => by rw [e,← hk2] at hlt; omega
    rw [if_neg hne]
    have hm := h.mono hx2 i k hi hk hlt
    rw [hk2] at hm hlt
    rcases Int.lt_or_le (Aw o w) (Aw o i) with h3 | h3
    ·omega
    ·exfalso
     have he : Aw o i = Aw o w := by omega
     have hbi := hb i hi
     unfold worse at hbi
     rw [he] at hbi
     have := Int.mul_lt_mul_of_pos_right hlt (show 0 < Aw o w by have := h.all hx2 w hw; omega)
     omega
   ·rw [if_neg hk2]
    have hm := h.mono hx2 i k hi hk hlt
    split
    ·rename_i h4; rw [h4] at hm; omega
    ·exact hm
  ·have hf : ∀ j,j < (o.set w (Aw o w + 1)).length → Aw (o.set w (Aw o w + 1)) j ≤ 1 := fun j hj => by
    rw [eA]; split
    ·rw [hzero (by omega)]; omega
    ·exact h.few (by omega) j (by rw [List.length_set,h.len] at hj; exact hj)
   have hs : (o.set w (Aw o w + 1)).sum = ((o.set w (Aw o w + 1)).length : Int) := by
    rw [show o.set w (Aw o w + 1) = o.set w (o.getD w 0 + 1) from rfl,sum_set1 o w hwl,h.sum,List.length_set,h.len]
    omega
   rw [sum_zero hf hs i (by rw [List.length_set,h.len]; exact hi),sum_zero hf hs k (by rw [List.length_set,h.len]; exact hk)]
   exact Int.le_refl _
theorem turns_ok {N : Nat} (hN : 60 ≤ N) {cl : List Int} (h1 : 1 ≤ cl.length ∧ cl.length ≤ 12) (hc : ∀ i,i < cl.length → 1 ≤ Aw cl i ∧ Aw cl i ≤ 1000) {days : Nat} (hd : cl.length ≤ days) (hd2 : days ≤ 366) (hd3 : days ≤ 50) : ∃ o,share_Turns N cl (days : Int) 2 = some (o,0) ∧ TOk cl o days := by
 have c0 : share_claimed N cl = some 0 := by
  unfold share_claimed
  have c1 : share_in ((cl.length : Nat) : Int) 1 12 = true := by unfold share_in; rw [decide_eq_true (by omega),decide_eq_true (by omega)]; rfl
  have c2 : share_every_int N cl = some true := by
   unfold share_every_int slices_ContainsFunc_Lint_int slices_IndexFunc_Lint_int
   refine every_mon (l := cl) (by omega) (by omega) _ (fun i hi => ?_) (by unfold slices_IndexFunc_Lint_int_b4; rw [ge_dec,cond_false])
   unfold slices_IndexFunc_Lint_int_b4
   have hv : cl[i] = Aw cl i := get_getD hi
   have := hc i hi
   have e : share_every_int_1 cl[i] = false := by
    unfold share_every_int_1 share_claimed_1 share_in
    rw [hv,decide_eq_true (by omega),decide_eq_true (by omega)]
    rfl
   rw [lt_dec hi,cond_true,getI_nat hi,Option.bind_some,e,cond_false]
  rw [c1,c2]
  rfl
 unfold share_Turns
 have c3 : share_in (days : Int) 1 366 = true := by unfold share_in; rw [decide_eq_true (by omega),decide_eq_true (by omega)]; rfl
 have c4 : (((2 : Int) == 2) && (decide ((days : Int) < ((cl.length : Nat) : Int)))) = false := by rw [decide_eq_false (by omega),Bool.and_false]
 rw [c0,Option.bind_some,c3,c4,inM_ok (by omega)]
 simp only [bne_self_eq_false,cond_false,Bool.not_true,Option.bind_some,show share_Rule_right 2 = true from rfl]
 have hrep : ∀ i,Aw (List.replicate cl.length 0) i = 0 := fun i => by
  simp only [Aw,List.getD,List.getElem?_replicate]
  split <;> rfl
 obtain ⟨s,g1,g2,g3⟩ := loopInv (ρ := (List Int) × Int) (fun s15 => share_Turns_b15 N cl (days : Int) 2 s15.1 s15.2) (fun x s => s.2 = (x : Int) ∧ TOk cl s.1 x) days (fun x s hx hI => by
  obtain ⟨o,y⟩ := s
  obtain ⟨rfl,hT⟩ := hI
  dsimp only at hT
  have ho : ∀ i,i < cl.length → 0 ≤ Aw o i ∧ Aw o i ≤ 1000 := fun i hi => by have := hT.nn i hi; omega
  obtain ⟨w,a,b,k1,k2,k3⟩ := best_turn hN hT.len h1 hc ho
  have gc : getI cl 0 = some (Aw cl 0) := getI_getD (l := cl) (i := 0) (by omega)
  have go' : getI o 0 = some (Aw o 0) := getI_getD (l := o) (i := 0) (by have := hT.len; omega)
  have gw : getI o (w : Int) = some (Aw o w) := getI_getD (by have := hT.len; omega)
  obtain ⟨z1,z2⟩ := hc 0 (by omega)
  obtain ⟨z3,z4⟩ := ho 0 (by omega)
  obtain ⟨z5,z6⟩ := ho w k2
  refine ⟨(o.set w (Aw o w + 1),((x + 1 : Nat) : Int)),?_,rfl,turn_step hT h1.1 (fun i hi => (hc i hi).1) k2 k3⟩
  show share_Turns_b15 N cl (days : Int) 2 o (x : Int) = _
  unfold share_Turns_b15
  rw [show decide ((x : Int) < (days : Int)) = true by rw [decide_eq_true_eq]; omega,cond_true,gc,Option.bind_some,go',Option.bind_some,day_ok (by omega) z2 z3 z4,Option.bind_some]
  dsimp only
  rw [k1,Option.bind_some,exK_at]
  dsimp only
  rw [gw,Option.bind_some,Option.bind_some,W_succ (by omega),Int.toNat_natCast,W_id (by omega) (by omega)]) (fun s hI => by
  show share_Turns_b15 N cl (days : Int) 2 s.1 s.2 = _
  unfold share_Turns_b15
  rw [hI.1,ge_dec,cond_false,← hI.1]) days 0 (List.replicate cl.length 0,0) N (by omega) (by omega) ⟨rfl,by simp,by
   have : ∀ n : Nat,(List.replicate n (0 : Int)).sum = 0 := fun n => by
    induction n with
    | zero => rfl
    | succ n ih => rw [List.replicate_succ,List.sum_cons,ih]; rfl
   rw [this]; rfl,fun i hi => by rw [hrep]; omega,fun _ i hi => by rw [hrep]; omega,fun hx i hi => by omega,fun hx i k hi hk hlt => by omega⟩
 rw [Int.toNat_natCast,g1,Option.bind_some,exK_at]
 exact ⟨_,rfl,g3⟩
end Go.Nilo
