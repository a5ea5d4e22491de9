/-
  What the plain functions compute, in plain arithmetic, part 3. Conditions: what each theorem names.
-/
import Derived.Test.YtpfmkhhhamdpeaaGreatTuL2
set_option linter.unusedSimpArgs false
set_option linter.unusedVariables false
namespace Go.Nilo
def idxI (l : List Int) (v : Int) : Int := if l.findIdx (fun e => v == e) < l.length then ((l.findIdx (fun e => v == e) : Nat) : Int) else -1
theorem idx_ok {N : Nat} {l : List Int} {v : Int} (hl : l.length ≤ 1000000) (hN : l.length < N) : slices_Index_Lint_int N l v = some (idxI l v) := by
 unfold slices_Index_Lint_int idxI
 have := firstLoop (fun e => v == e) l hl (fun s4 => slices_Index_Lint_int_b4 N l v s4) (fun x => rfl) l.length 0 N (by omega) hN (fun j h hj => by omega)
 rw [show ((0 : Nat) : Int) = 0 from rfl] at this
 rcases this with ⟨h1,h2⟩ | ⟨h1,h2⟩
 ·rw [if_pos h1,h2]; rfl
 ·rw [if_neg (by omega),h2]; rfl
theorem idx_mem {l : List Int} {v : Int} : idxI l v ≠ -1 ↔ v ∈ l := by
 unfold idxI
 rw [← List.findIdx_lt_length.trans (show (∃ x ∈ l,(v == x) = true) ↔ v ∈ l by
  constructor
  ·rintro ⟨x,h1,h2⟩; rw [beq_iff_eq] at h2; exact h2 ▸ h1
  ·intro h; exact ⟨v,h,by simp⟩)]
 split
 ·rename_i h; constructor
  ·intro _; exact h
  ·intro _; omega
 ·rename_i h; constructor
  ·intro h2; exact absurd rfl h2
  ·intro h2; exact absurd h2 h
theorem idx_get {l : List Int} {v : Int} (h : v ∈ l) : ∃ i : Nat,idxI l v = (i : Int) ∧ ∃ hi : i < l.length,l[i] = v := by
 have h1 : l.findIdx (fun e => v == e) < l.length := List.findIdx_lt_length.2 ⟨v,h,by simp⟩
 refine ⟨l.findIdx (fun e => v == e),by unfold idxI; rw [if_pos h1],h1,?_⟩
 have := List.findIdx_getElem (w := h1)
 rw [beq_iff_eq] at this
 exact this.symm
theorem idx_none {l : List Int} {v : Int} (h : v ∉ l) : idxI l v = -1 := Decidable.byContradiction fun hc => h (idx_mem.1 hc)
theorem idx_inj {l : List Int} {v w : Int} (hv : v ∈ l) (h : idxI l v = idxI l w) : v = w := by
 obtain ⟨i,h1,h2,h3⟩ := idx_get hv
 have hw : w ∈ l := idx_mem.1 (by omega)
 obtain ⟨j,k1,k2,k3⟩ := idx_get hw
 have : i = j := by omega
 subst this
 rw [← h3,← k3]
theorem idx_nth {l : List Int} (hn : l.Nodup) {i : Nat} (hi : i < l.length) : idxI l l[i] = (i : Int) := by
 obtain ⟨j,h1,h2,h3⟩ := idx_get (List.getElem_mem hi)
 have := (List.getElem_inj hn (h₀ := h2) (h₁ := hi)).1 h3
 omega
theorem contains_ok {N : Nat} {l : List Int} {v : Int} (hl : l.length ≤ 1000000) (hN : l.length < N) : slices_Contains_Lint_int N l v = some (decide (v ∈ l)) := by
 unfold slices_Contains_Lint_int
 rw [idx_ok hl hN,Option.bind_some]
 congr 1
 rw [decide_eq_decide]
 by_cases h : v ∈ l
 ·obtain ⟨i,h1,-⟩ := idx_get h
  constructor
  ·intro _; exact h
  ·intro _; omega
 ·rw [idx_none h]
  constructor
  ·intro h2; omega
  ·intro h2; exact absurd h2 h
abbrev np (r : crew_Roster) : Int := (r.People.length : Int)
abbrev ns (r : crew_Roster) : Int := (r.Stations.length : Int)
def pf (r : crew_Roster) (p : Int) : List Int := r.People.getD p.toNat []
def sta (r : crew_Roster) (s : Int) : crew_Station := r.Stations.getD s.toNat ⟨0,[]⟩
def rk (r : crew_Roster) (s p : Int) : Int := idxI (sta r s).Order p
structure RosOk (r : crew_Roster) : Prop where
 p1 : 1 ≤ r.People.length
 p2 : r.People.length ≤ 12
 s1 : 1 ≤ r.Stations.length
 s2 : r.Stations.length ≤ 12
 pn : ∀ l ∈ r.People,l.Nodup
 pr : ∀ l ∈ r.People,∀ s ∈ l,0 ≤ s ∧ s < ns r
 sp : ∀ x ∈ r.Stations,1 ≤ x.Places ∧ x.Places ≤ 12
 sn : ∀ x ∈ r.Stations,x.Order.Nodup
 sr : ∀ x ∈ r.Stations,∀ p ∈ x.Order,0 ≤ p ∧ p < np r
theorem nodup_le : ∀ {l l' : List Int},l.Nodup → (∀ x ∈ l,x ∈ l') → l.length ≤ l'.length
 | [],_,_,_ => Nat.zero_le _
 | a::l,l',hn,h => by
  have ha : a ∈ l' := h a List.mem_cons_self
  have hn' := List.nodup_cons.1 hn
  have := nodup_le (l := l) (l' := l'.erase a) hn'.2 fun x hx => by
   refine (List.mem_erase_of_ne ?_).2 (h x (List.mem_cons_of_mem _ hx))
   rintro rfl
   exact hn'.1 hx
  rw [List.length_erase_of_mem ha] at this
  have : 0 < l'.length := List.length_pos_of_mem ha
  rw [List.length_cons]
  omega
theorem range_len {l : List Int} {n : Nat} (hn : l.Nodup) (h : ∀ x ∈ l,0 ≤ x ∧ x < (n : Int)) : l.length ≤ n := by
 have := nodup_le (l := l) (l' := (List.range n).map fun i : Nat => (i : Int)) hn fun x hx => by
  have := h x hx
  exact List.mem_map.2 ⟨x.toNat,List.mem_range.2 (by omega),by omega⟩
 simpa using this
theorem RosOk.pf_len {r : crew_Roster} (h : RosOk r) {l : List Int} (hl : l ∈ r.People) : l.length ≤ 12 := Nat.le_trans (range_len (h.pn l hl) (h.pr l hl)) h.s2
theorem RosOk.or_len {r : crew_Roster} (h : RosOk r) {x : crew_Station} (hx : x ∈ r.Stations) : x.Order.length ≤ 12 := Nat.le_trans (range_len (h.sn x hx) (h.sr x hx)) h.p2
theorem getI_of {α : Type} {l : List α} {i : Int} (d : α) (h0 : 0 ≤ i) (h1 : i < (l.length : Int)) : getI l i = some (l.getD i.toNat d) := by
 obtain ⟨n,rfl⟩ := Int.eq_ofNat_of_zero_le h0
 have hn : n < l.length := by omega
 rw [getI_nat hn,Int.toNat_natCast,get_getD (d := d) hn]
theorem mem_of {α : Type} {l : List α} {i : Int} (d : α) (h0 : 0 ≤ i) (h1 : i < (l.length : Int)) : l.getD i.toNat d ∈ l := by
 have hn : i.toNat < l.length := by omega
 rw [← get_getD (d := d) hn]
 exact List.getElem_mem hn
theorem once_ok {N : Nat} {l : List Int} (hl : l.length ≤ 1000) (hN : l.length < N) (hn : l.Nodup) : crew_once N l = some true := by
 unfold crew_once
 have hrun := runS (ρ := Bool) (fun i : Nat => (i : Int)) l.length (fun s4 => crew_once_b4 N l s4) (fun i hi => by
  show crew_once_b4 N l (i : Int) = _
  unfold crew_once_b4
  have hsub : subO l 0 (i : Int) = some (l.take i) := by
   unfold subO
   rw [if_pos ⟨by omega,by omega,by omega⟩]
   simp
  rw [lt_dec hi,cond_true,getI_nat hi,Option.bind_some,hsub,Option.bind_some,contains_ok (by rw [List.length_take]; omega) (by rw [List.length_take]; omega),Option.bind_some]
  have : decide (l[i] ∈ l.take i) = false := by
   rw [decide_eq_false_iff_not]
   intro hm
   obtain ⟨j,hj,he⟩ := List.getElem_of_mem hm
   rw [List.length_take] at hj
   rw [List.getElem_take] at he
   have := (List.getElem_inj hn (h₀ := by omega) (h₁ := hi)).1 he
   omega
  rw [this,cond_false,W_succ (by omega)]) (by
  show crew_once_b4 N l _ = _
  unfold crew_once_b4
  rw [ge_dec,cond_false]) hN
 rw [show (0 : Int) = ((0 : Nat) : Int) from rfl,hrun]
 rfl
theorem every_mon {N : Nat} {α : Type} {l : List α} (hl : l.length ≤ 1000) (hN : l.length < N) (b : Int → Option (Step Int Int)) (hb : ∀ i (h : i < l.length),b (i : Int) = some (.cont (W ((i : Int) + 1)))) (hend : b (l.length : Int) = some (.brk (l.length : Int))) :
  (Option.bind (Option.bind (Option.bind (loopO b N 0) fun x4 => exK x4 (fun _ => some (-1)) some) fun r => some (decide (0 ≤ r))) fun r => some (!r)) = some true := by
 have hrun := runS (ρ := Int) (fun i : Nat => (i : Int)) l.length b (fun i hi => by rw [hb i hi,W_succ (by omega)]) hend hN
 rw [show (0 : Int) = ((0 : Nat) : Int) from rfl,hrun]
 rfl
theorem rcheck_ok {N : Nat} (hN : 40 ≤ N) {r : crew_Roster} (h : RosOk r) : crew_Check N r = some 0 := by
 obtain ⟨p1,p2,s1,s2,pn,pr,sp,sn,sr⟩ := id h
 have hin : ∀ {n a b : Int},a ≤ n → n ≤ b → crew_in n a b = true := fun h1 h2 => by unfold crew_in; rw [decide_eq_true h1,decide_eq_true h2]; rfl
 unfold crew_Check
 have c1 : crew_every_Lint N r.People r = some true := by
  unfold crew_every_Lint slices_ContainsFunc_LLint_Lint slices_IndexFunc_LLint_Lint
  refine every_mon (l := r.People) (by omega) (by omega) _ (fun i hi => ?_) (by unfold slices_IndexFunc_LLint_Lint_b4; rw [ge_dec,cond_false])
  unfold slices_IndexFunc_LLint_Lint_b4
  have hm := List.getElem_mem hi
  have hlen := h.pf_len hm
  have e : crew_every_Lint_1 N r.People[i] r = some false := by
   unfold crew_every_Lint_1 crew_Check_1 crew_every_int slices_ContainsFunc_Lint_int_s2 slices_IndexFunc_Lint_int_s2
   rw [every_mon (l := r.People[i]) (by omega) (by omega) _ (fun j hj => ?_) (by unfold slices_IndexFunc_Lint_int_s2_b4; rw [ge_dec,cond_false])]
   ·rfl
   ·unfold slices_IndexFunc_Lint_int_s2_b4
    have hs : 0 ≤ r.People[i][j] ∧ r.People[i][j] < (r.Stations.length : Int) := pr _ hm _ (List.getElem_mem hj)
    have : crew_every_int_1 r.People[i][j] ⟨r.People,r.Stations⟩ = false := by
     unfold crew_every_int_1 crew_Check_1_1
     rw [hin hs.1 (by dsimp only; rw [W_id (by omega) (by omega)]; omega)]
     rfl
    rw [lt_dec hj,cond_true,getI_nat hj,Option.bind_some,this,cond_false]
  rw [lt_dec hi,cond_true,getI_nat hi,Option.bind_some,e]
  rfl
 have c2 : crew_every_crew_Station N r.Stations r = some true := by
  unfold crew_every_crew_Station slices_ContainsFunc_Lcrew_Station_crew_Station slices_IndexFunc_Lcrew_Station_crew_Station
  refine every_mon (l := r.Stations) (by omega) (by omega) _ (fun i hi => ?_) (by unfold slices_IndexFunc_Lcrew_Station_crew_Station_b4; rw [ge_dec,cond_false])
  unfold slices_IndexFunc_Lcrew_Station_crew_Station_b4
  have hm := List.getElem_mem hi
  have hlen := h.or_len hm
  have e : crew_every_crew_Station_1 N r.Stations[i] r = some false := by
   unfold crew_every_crew_Station_1 crew_Check_2 crew_every_int_s2 slices_ContainsFunc_Lint_int_s3 slices_IndexFunc_Lint_int_s3
   have hpl := sp _ hm
   rw [hin hpl.1 hpl.2,cond_true,every_mon (l := r.Stations[i].Order) (by omega) (by omega) _ (fun j hj => ?_) (by unfold slices_IndexFunc_Lint_int_s3_b4; rw [ge_dec,cond_false])]
   ·rfl
   ·unfold slices_IndexFunc_Lint_int_s3_b4
    have hs : 0 ≤ r.Stations[i].Order[j] ∧ r.Stations[i].Order[j] < (r.People.length : Int) := sr _ hm _ (List.getElem_mem hj)
    have : crew_every_int_1_s2 r.Stations[i].Order[j] ⟨r.People,r.Stations⟩ = false := by
     unfold crew_every_int_1_s2 crew_Check_2_1
     rw [hin hs.1 (by dsimp only; rw [W_id (by omega) (by omega)]; omega)]
     rfl
    rw [lt_dec hj,cond_true,getI_nat hj,Option.bind_some,this,cond_false]
  rw [lt_dec hi,cond_true,getI_nat hi,Option.bind_some,e]
  rfl
 have c3 : crew_every_Lint_s2 N r.People = some true := by
  unfold crew_every_Lint_s2 slices_ContainsFunc_LLint_Lint_s2 slices_IndexFunc_LLint_Lint_s2
  refine every_mon (l := r.People) (by omega) (by omega) _ (fun i hi => ?_) (by unfold slices_IndexFunc_LLint_Lint_s2_b4; rw [ge_dec,cond_false])
  unfold slices_IndexFunc_LLint_Lint_s2_b4 crew_every_Lint_1_s2
  have hm := List.getElem_mem hi
  have hlen := h.pf_len hm
  rw [lt_dec hi,cond_true,getI_nat hi,Option.bind_some,once_ok (by omega) (by omega) (pn _ hm)]
  rfl
 have c4 : crew_every_crew_Station_s2 N r.Stations = some true := by
  unfold crew_every_crew_Station_s2 slices_ContainsFunc_Lcrew_Station_crew_Station_s2 slices_IndexFunc_Lcrew_Station_crew_Station_s2
  refine every_mon (l := r.Stations) (by omega) (by omega) _ (fun i hi => ?_) (by unfold slices_IndexFunc_Lcrew_Station_crew_Station_s2_b4; rw [ge_dec,cond_false])
  unfold slices_IndexFunc_Lcrew_Station_crew_Station_s2_b4 crew_every_crew_Station_1_s2 crew_Check_3
  have hm := List.getElem_mem hi
  have hlen := h.or_len hm
  rw [lt_dec hi,cond_true,getI_nat hi,Option.bind_some,once_ok (by omega) (by omega) (sn _ hm)]
  rfl
 rw [hin (by omega) (by omega),hin (by omega) (by omega),c1,c2,c3,c4]
 rfl
theorem opened_ok {N : Nat} (hN : 40 ≤ N) {r : crew_Roster} (h : RosOk r) : ∃ rank : Nat → Int,crew_opened N r = some (.inr (rank,0)) ∧ ∀ s p : Nat,s < r.Stations.length → p < r.People.length → rank (s * 12 + p) = rk r (s : Int) (p : Int) := by
 have hp2 := h.p2
 have hs2 := h.s2
 unfold crew_opened
 rw [rcheck_ok hN h,Option.bind_some]
 simp only [bne_self_eq_false,cond_false]
 obtain ⟨s,hs,hI⟩ := loopInv (ρ := Int ⊕ ((Nat → Int) × Int)) (fun s9 => crew_opened_b9 N r s9.1 s9.2) (fun i s => s.1 = (i : Int) ∧ ∀ a b : Nat,a < i → b < r.People.length → s.2 (a * 12 + b) = rk r (a : Int) (b : Int)) r.Stations.length (fun i s hi hI => by
  obtain ⟨x,f⟩ := s
  obtain ⟨rfl,hf⟩ := hI
  dsimp only at hf
  have hm := List.getElem_mem hi
  have hol := h.or_len hm
  obtain ⟨s2,g0,g1,g2⟩ := loopInv (ρ := Step (Int × (Nat → Int)) (Int ⊕ ((Nat → Int) × Int))) (fun s17 => crew_opened_b17 N r (i : Int) r.Stations[i] s17.1 s17.2) (fun j s => s.1 = (j : Int) ∧ ∀ a b : Nat,(a < i ∧ b < r.People.length) ∨ (a = i ∧ b < j) → s.2 (a * 12 + b) = rk r (a : Int) (b : Int)) r.People.length (fun j s hj hJ => by
   obtain ⟨y,g⟩ := s
   obtain ⟨rfl,hg⟩ := hJ
   dsimp only at hg
   have hr1 : inR (i : Int) 12 = some () := by unfold inR; rw [if_pos ⟨by omega,by omega⟩]
   have hr2 : inR (j : Int) 12 = some () := by unfold inR; rw [if_pos ⟨by omega,by omega⟩]
   refine ⟨(W ((j : Int) + 1),setF g ((i : Int) * 12 + (j : Int)).toNat (idxI r.Stations[i].Order (j : Int))),?_,W_succ (by omega),fun a b hab => ?_⟩
   ·show crew_opened_b17 N r (i : Int) r.Stations[i] (j : Int) g = _
    unfold crew_opened_b17
    rw [lt_dec hj,cond_true,idx_ok (by omega) (by omega),Option.bind_some,hr1,Option.bind_some,hr2,Option.bind_some]
   ·dsimp only
    have e : ((i : Int) * 12 + (j : Int)).toNat = i * 12 + j := by omega
    rw [e]
    unfold setF
    by_cases hij : a = i ∧ b = j
    ·obtain ⟨rfl,rfl⟩ := hij
     rw [Nat.beq_refl,cond_true]
     unfold rk sta
     rw [Int.toNat_natCast,← get_getD hi]
    ·have hne : Nat.beq (a * 12 + b) (i * 12 + j) = false := by
      cases hb : Nat.beq (a * 12 + b) (i * 12 + j) with
      | false => rfl
      | true => have := Nat.eq_of_beq_eq_true hb; rcases hab with hab | hab <;> omega
     rw [hne,cond_false]
     refine hg a b ?_
     rcases hab with hab | hab
     ·exact Or.inl hab
     ·exact Or.inr ⟨hab.1,by omega⟩) (fun s hJ => by
   show crew_opened_b17 N r (i : Int) r.Stations[i] s.1 s.2 = _
   unfold crew_opened_b17
   rw [hJ.1,ge_dec,cond_false,← hJ.1]) r.People.length 0 (0,f) N (by omega) (by omega) ⟨rfl,fun a b hab => by
    rcases hab with hab | hab
    ·exact hf a b hab.1 hab.2
    ·omega⟩
  refine ⟨(W ((i : Int) + 1),s2.2),?_,W_succ (by omega),fun a b ha hb => ?_⟩
  ·show crew_opened_b9 N r (i : Int) f = _
   unfold crew_opened_b9
   rw [lt_dec hi,cond_true,getI_nat hi,Option.bind_some,g0,Option.bind_some]
   rfl
  ·refine g2 a b ?_
   by_cases h : a < i
   ·exact Or.inl ⟨h,hb⟩
   ·exact Or.inr ⟨by omega,hb⟩) (fun s hI => by
  show crew_opened_b9 N r s.1 s.2 = _
  unfold crew_opened_b9
  rw [hI.1,ge_dec,cond_false,← hI.1]) r.Stations.length 0 (0,fun _ => 0) N (by omega) (by omega) ⟨rfl,fun a b ha => by omega⟩
 refine ⟨s.2,?_,fun a b ha hb => hI.2 a b ha hb⟩
 rw [hs]
 rfl
end Go.Nilo
