/-
  What the plain functions compute, in plain arithmetic, part 9. Conditions: what each theorem names.
-/
import Derived.Test.YtakhbnnlhoninaeGreatThL8
set_option linter.unusedSimpArgs false
set_option linter.unusedVariables false
namespace Go.Nilo
def IsMin (p : Int → Bool) (l : List Int) (r : Int) : Prop := (r = -1 ∧ ∀ x ∈ l,p x = false) ∨ (r ∈ l ∧ p r = true ∧ ∀ x ∈ l,p x = true → r ≤ x)
theorem IsMin.uniq {p : Int → Bool} {l : List Int} {a b : Int} (ha : IsMin p l a) (hb : IsMin p l b) : a = b := by
 rcases ha with ⟨rfl,ha⟩ | ⟨a1,a2,a3⟩ <;> rcases hb with ⟨rfl,hb⟩ | ⟨b1,b2,b3⟩
 ·rfl
 ·rw [ha _ b1] at b2; cases b2
 ·rw [hb _ a1] at a2; cases a2
 ·have := a3 _ b1 b2
  have := b3 _ a1 a2
  omega
theorem IsMin.congr {p q : Int → Bool} {l l' : List Int} {r : Int} (h : IsMin p l r) (hl : ∀ x,x ∈ l ↔ x ∈ l') (hp : ∀ x ∈ l,p x = q x) : IsMin q l' r := by
 rcases h with ⟨h1,h2⟩ | ⟨h1,h2,h3⟩
 ·exact Or.inl ⟨h1,fun x hx => by rw [← hp x ((hl x).2 hx)]; exact h2 x ((hl x).2 hx)⟩
 ·exact Or.inr ⟨(hl r).1 h1,by rw [← hp r h1]; exact h2,fun x hx hq => h3 x ((hl x).2 hx) (by rw [hp x ((hl x).2 hx)]; exact hq)⟩
theorem mem_compact {zs : List Int} {x : Int} : x ∈ Lib.compact zs ↔ x ∈ zs := by
 unfold Lib.compact Lib.compactUpTo
 constructor
 ·intro h
  obtain ⟨i,hi,rfl⟩ := List.mem_map.1 h
  have hi' : i < zs.length := List.mem_range.1 (List.mem_filter.1 hi).1
  simp [getElem!_pos,hi']
 ·intro h
  obtain ⟨i,hi,rfl⟩ := List.getElem_of_mem h
  have key : ∀ k,∀ hk : k < zs.length,zs[k] ∈ ((List.range zs.length).filter (Lib.keeps zs.toArray)).map (zs.toArray[·]!) := by
   intro k
   induction k with
   | zero =>
    intro hk
    refine List.mem_map.2 ⟨0,List.mem_filter.2 ⟨List.mem_range.2 hk,by simp [Lib.keeps]⟩,?_⟩
    simp [getElem!_pos,hk]
   | succ k ih =>
    intro hk
    by_cases he : zs[k + 1] = zs[k]
    ·rw [he]; exact ih (by omega)
    ·refine List.mem_map.2 ⟨k + 1,List.mem_filter.2 ⟨List.mem_range.2 hk,?_⟩,?_⟩
     ·have h1 : zs.toArray[k + 1]! = zs[k + 1] := by simp [getElem!_pos,hk]
      have h2 : zs.toArray[k + 1 - 1]! = zs[k] := by simp [getElem!_pos,show k < zs.length by omega]
      simp [Lib.keeps,getElem!_pos,hk,show k < zs.length by omega,he]
     ·simp [getElem!_pos,hk]
  exact key i hi
theorem compact_sorted {zs : List Int} (h : zs.Pairwise (fun a b => a ≤ b)) : (Lib.compact zs).Pairwise (fun a b => a ≤ b) := by
 unfold Lib.compact Lib.compactUpTo
 rw [List.pairwise_map]
 have h1 : ((List.range zs.length).filter (Lib.keeps zs.toArray)).Pairwise (· < ·) := List.Pairwise.filter _ List.pairwise_lt_range
 refine List.Pairwise.imp_of_mem ?_ h1
 intro a b ha hb hab
 have ha' : a < zs.length := List.mem_range.1 (List.mem_filter.1 ha).1
 have hb' : b < zs.length := List.mem_range.1 (List.mem_filter.1 hb).1
 have := List.pairwise_iff_getElem.1 h a b ha' hb' hab
 simpa [getElem!_pos,ha',hb'] using this
def startsF (c : crew_Cable) : List Int := Lib.compact ((0::c.Rides.map fun r => r.From).mergeSort fun x y => decide (x ≤ y))
theorem starts_mem {c : crew_Cable} {x : Int} : x ∈ startsF c ↔ x ∈ 0::c.Rides.map fun r => r.From := by
 unfold startsF
 rw [mem_compact,List.mem_mergeSort]
theorem starts_sorted (c : crew_Cable) : (startsF c).Pairwise (fun a b => a ≤ b) := by
 unfold startsF
 refine compact_sorted ?_
 have := List.pairwise_mergeSort (le := fun x y : Int => decide (x ≤ y)) (fun a b c h1 h2 => by simp only [decide_eq_true_eq] at *; omega) (fun a b => by simp only [Bool.or_eq_true,decide_eq_true_eq]; omega) (0::c.Rides.map fun r => r.From)
 exact this.imp fun h => by simpa using h
theorem starts_len (c : crew_Cable) : (startsF c).length ≤ c.Rides.length + 1 := by
 unfold startsF
 refine Nat.le_trans (Lib.compact_length_le _) ?_
 rw [List.length_mergeSort]
 simp
theorem starts_ok {N : Nat} {c : crew_Cable} (hn : c.Rides.length ≤ 1000) (hN : c.Rides.length < N) : crew_Cable_starts N c = some (startsF c) := by
 unfold crew_Cable_starts
 have hrun := runS (ρ := List Int) (fun i : Nat => (0::(c.Rides.take i).map fun r => r.From,(i : Int))) c.Rides.length (fun s5 => crew_Cable_starts_b5 N c s5.1 s5.2) (fun i hi => by
  show crew_Cable_starts_b5 N c (0::(c.Rides.take i).map fun r => r.From) (i : Int) = _
  unfold crew_Cable_starts_b5
  rw [lt_dec hi,cond_true,getI_nat hi,Option.bind_some,W_succ (by omega),room_ok (by simp; omega),List.take_succ_eq_append_getElem hi,List.map_append]
  rfl) (by
  show crew_Cable_starts_b5 N c _ _ = _
  unfold crew_Cable_starts_b5
  rw [ge_dec,cond_false]) hN
 have e0 : (([0] : List Int),(0 : Int)) = (0::(c.Rides.take 0).map fun r => r.From,((0 : Nat) : Int)) := rfl
 rw [e0,hrun,Option.bind_some]
 simp only [exK,List.take_length]
 unfold slices_Clone_Lint_int slices_Sort_Lint_int slices_Compact_Lint_int
 rw [room_ok (by simp; omega),Option.bind_some,Option.bind_some]
 unfold sortO
 rw [if_pos (by simp; omega),Option.bind_some]
 rfl
theorem first_spec {p : Int → Bool} {l : List Int} : ∀ m i,(firstG (fun j => cond (p (l.getD j 0)) (some (j : Int)) none) i m = none ∧ ∀ j,i ≤ j → j < i + m → p (l.getD j 0) = false) ∨ (∃ j : Nat,firstG (fun j => cond (p (l.getD j 0)) (some (j : Int)) none) i m = some (j : Int) ∧ i ≤ j ∧ j < i + m ∧ p (l.getD j 0) = true ∧ ∀ k,i ≤ k → k < j → p (l.getD k 0) = false)
 | 0,i => Or.inl ⟨rfl,fun j h1 h2 => by omega⟩
 | m + 1,i => by
  unfold firstG
  cases hp : p (l.getD i 0) with
  | true => exact Or.inr ⟨i,rfl,Nat.le_refl _,by omega,hp,fun k h1 h2 => by omega⟩
  | false =>
   rcases first_spec (p := p) (l := l) m (i + 1) with ⟨h1,h2⟩ | ⟨j,h1,h2,h3,h4,h5⟩
   ·refine Or.inl ⟨h1,fun j hj hk => ?_⟩
    by_cases h : j = i
    ·subst h; exact hp
    ·exact h2 j (by omega) (by omega)
   ·refine Or.inr ⟨j,h1,by omega,by omega,h4,fun k hk hj => ?_⟩
    by_cases h : k = i
    ·subst h; exact hp
    ·exact h5 k (by omega) hj
theorem find_gen {p : Int → Bool} {l : List Int} (hs : l.Pairwise (fun a b => a ≤ b)) (hn : l.length ≤ 1000) (b : Int → Option (Step Int Int)) (hb : ∀ i (h : i < l.length),b (i : Int) = some (cond (p l[i]) (.ret (i : Int)) (.cont (W ((i : Int) + 1))))) (hend : b (l.length : Int) = some (.brk (l.length : Int))) {N : Nat} (hN : l.length < N) :
  ∃ r,(Option.bind (Option.bind (loopO b N 0) fun x4 => exK x4 (fun _ => some (-1)) some) fun r => cond (r == (-1)) (some (-1)) (Option.bind (getI l r) fun e_1 => some e_1)) = some r ∧ IsMin p l r := by
 have hrun := scanS (ρ := Int) (fun i : Nat => (i : Int)) (fun j => cond (p (l.getD j 0)) (some (j : Int)) none) l.length b (fun i hi => by
  rw [hb i hi,W_succ (by omega),get_getD (d := (0 : Int)) hi]
  cases p (l.getD i 0) <;> rfl) hend l.length 0 N (by omega) hN
 rw [show ((0 : Nat) : Int) = 0 from rfl] at hrun
 rw [hrun]
 rcases first_spec (p := p) (l := l) l.length 0 with ⟨h1,h2⟩ | ⟨j,h1,h2,h3,h4,h5⟩
 ·refine ⟨-1,by rw [h1]; rfl,Or.inl ⟨rfl,fun x hx => ?_⟩⟩
  obtain ⟨j,hj,rfl⟩ := List.getElem_of_mem hx
  rw [get_getD (d := (0 : Int)) hj]
  exact h2 j (by omega) (by omega)
 ·have hj : j < l.length := by omega
  have hne : ((j : Int) == -1) = false := by rw [beq_eq_false_iff_ne]; omega
  refine ⟨l[j],by rw [h1]; simp only [Option.bind_some,exK,hne,cond_false,getI_nat hj],Or.inr ⟨List.getElem_mem _,by rw [get_getD (d := (0 : Int)) hj]; exact h4,fun x hx hpx => ?_⟩⟩
  obtain ⟨k,hk,rfl⟩ := List.getElem_of_mem hx
  rcases Nat.lt_trichotomy k j with h | h | h
  ·rw [get_getD (d := (0 : Int)) hk,h5 k (by omega) h] at hpx; cases hpx
  ·subst h; exact Int.le_refl _
  ·exact List.pairwise_iff_getElem.1 hs j k hj hk h
theorem beyondc_ok {N : Nat} (hN : 40 ≤ N) {c : crew_Cable} {B : Int} (hB : 0 ≤ B ∧ B ≤ 10000000) (hn : c.Rides.length ≤ 30) (hc : CarOk c) (hr : ∀ r ∈ c.Rides,RB B r) :
  (∃ r,crew_Beyond_1 N (startsF c) c = some r ∧ IsMin (fun n => bey c (c.Car + ldF api_Span.Hi c.Rides n)) (0::c.Rides.map fun r => r.From) r) ∧ (∃ r,crew_Beyond_1_s2 N (startsF c) c = some r ∧ IsMin (fun n => bey c (c.Car + ldF api_Span.Lo c.Rides n)) (0::c.Rides.map fun r => r.From) r) := by
 have hx : ∀ x ∈ startsF c,0 ≤ x ∧ x ≤ B := fun x hx => by
  rcases List.mem_cons.1 (starts_mem.1 hx) with rfl | hx
  ·omega
  ·obtain ⟨r,hr',rfl⟩ := List.mem_map.1 hx
   exact ⟨(hr r hr').f0,(hr r hr').f1⟩
 have hbd (f : api_Span → Int) (hf : SelOk f) (n : Int) : 0 ≤ c.Car + ldF f c.Rides n ∧ c.Car + ldF f c.Rides n ≤ 100000 := by
  have := ld_bd hf (n := n) hr
  have := hc.c0
  have := hc.c1
  omega
 have hsl := starts_len c
 constructor
 ·unfold crew_Beyond_1 slices_IndexFunc_Lint_int_s2
  obtain ⟨r,h1,h2⟩ := find_gen (p := fun n => bey c (c.Car + ldF api_Span.Hi c.Rides n)) (starts_sorted c) (by omega) (fun s4 => slices_IndexFunc_Lint_int_s2_b4 N (startsF c) c s4) (fun i hi => by
   have hxi := hx _ (List.getElem_mem hi)
   show slices_IndexFunc_Lint_int_s2_b4 N (startsF c) c (i : Int) = _
   unfold slices_IndexFunc_Lint_int_s2_b4
   rw [lt_dec hi,cond_true,getI_nat hi,Option.bind_some]
   have e : crew_Beyond_1_1 N (startsF c)[i] c = some (bey c (c.Car + ldF api_Span.Hi c.Rides (startsF c)[i])) := by
    unfold crew_Beyond_1_1
    rw [show crew_Cable_load N ⟨c.Car,c.Wide,c.Sag,c.Most,c.Rides⟩ (startsF c)[i] = some _ from loadH_ok (c := c) hN hB.2 hr (by omega) ⟨hc.c0,hc.c1⟩ hxi.1 (by omega),Option.bind_some]
    exact congrArg some (beyond_ok hc (hbd _ sel_hi _).1 (hbd _ sel_hi _).2)
   rw [e,Option.bind_some]
   cases bey c (c.Car + ldF api_Span.Hi c.Rides (startsF c)[i]) <;> rfl) (by
   show slices_IndexFunc_Lint_int_s2_b4 N (startsF c) c _ = _
   unfold slices_IndexFunc_Lint_int_s2_b4
   rw [ge_dec,cond_false]) (N := N) (by omega)
  exact ⟨r,h1,h2.congr (fun x => starts_mem) fun x _ => rfl⟩
 ·unfold crew_Beyond_1_s2 slices_IndexFunc_Lint_int_s3
  obtain ⟨r,h1,h2⟩ := find_gen (p := fun n => bey c (c.Car + ldF api_Span.Lo c.Rides n)) (starts_sorted c) (by omega) (fun s4 => slices_IndexFunc_Lint_int_s3_b4 N (startsF c) c s4) (fun i hi => by
   have hxi := hx _ (List.getElem_mem hi)
   show slices_IndexFunc_Lint_int_s3_b4 N (startsF c) c (i : Int) = _
   unfold slices_IndexFunc_Lint_int_s3_b4
   rw [lt_dec hi,cond_true,getI_nat hi,Option.bind_some]
   have e : crew_Beyond_1_1_s2 N (startsF c)[i] c = some (bey c (c.Car + ldF api_Span.Lo c.Rides (startsF c)[i])) := by
    unfold crew_Beyond_1_1_s2
    rw [show crew_Cable_load_s2 N ⟨c.Car,c.Wide,c.Sag,c.Most,c.Rides⟩ (startsF c)[i] = some _ from loadL_ok (c := c) hN hB.2 hr (by omega) ⟨hc.c0,hc.c1⟩ hxi.1 (by omega),Option.bind_some]
    exact congrArg some (beyond_ok hc (hbd _ sel_lo _).1 (hbd _ sel_lo _).2)
   rw [e,Option.bind_some]
   cases bey c (c.Car + ldF api_Span.Lo c.Rides (startsF c)[i]) <;> rfl) (by
   show slices_IndexFunc_Lint_int_s3_b4 N (startsF c) c _ = _
   unfold slices_IndexFunc_Lint_int_s3_b4
   rw [ge_dec,cond_false]) (N := N) (by omega)
  exact ⟨r,h1,h2.congr (fun x => starts_mem) fun x _ => rfl⟩
theorem beyond_zero {N : Nat} (hN : 40 ≤ N) {c : crew_Cable} (h : cabCode c = 0) : ∃ a b,crew_Beyond N c = some (a,b,0) ∧ IsMin (fun n => bey c (c.Car + ldF api_Span.Hi c.Rides n)) (0::c.Rides.map fun r => r.From) a ∧ IsMin (fun n => bey c (c.Car + ldF api_Span.Lo c.Rides n)) (0::c.Rides.map fun r => r.From) b := by
 obtain ⟨hn,hc,hr⟩ := cab_zero h
 obtain ⟨⟨a,a1,a2⟩,⟨b,b1,b2⟩⟩ := beyondc_ok hN (B := 100000) (by omega) hn hc hr
 refine ⟨a,b,?_,a2,b2⟩
 unfold crew_Beyond
 rw [check_ok (by omega) (by omega),h,Option.bind_some]
 simp only [bne_self_eq_false,cond_false]
 rw [starts_ok (by omega) (by omega),Option.bind_some,a1,Option.bind_some,b1,Option.bind_some]
end Go.Nilo
