/-
  What the plain functions compute, in plain arithmetic, part 8. Conditions: what each theorem names.
-/
import Derived.Test.YtpfmkhhhamdpeaaGreatStL7
set_option linter.unusedSimpArgs false
set_option linter.unusedVariables false
namespace Go.Nilo
theorem has_ref {N : Nat} {l : List crew_Refusal} {p s : Int} (hl : l.length ≤ 1000) (hN : l.length < N) : ∃ b,slices_Contains_Lcrew_Refusal_crew_Refusal N l ⟨p,s⟩ = some b ∧ (b = true ↔ Ref l p s) := by
 unfold slices_Contains_Lcrew_Refusal_crew_Refusal slices_Index_Lcrew_Refusal_crew_Refusal
 have hany : l.any (fun x => p == x.Person && s == x.Station) = true ↔ Ref l p s := by
  rw [List.any_eq_true]
  unfold Ref
  constructor
  ·rintro ⟨x,h1,h2⟩
   rw [Bool.and_eq_true,beq_iff_eq,beq_iff_eq] at h2
   obtain ⟨rfl,rfl⟩ := h2
   exact h1
  ·intro h; exact ⟨_,h,by simp⟩
 rcases indexLoop (fun x : crew_Refusal => p == x.Person && s == x.Station) l (by omega) (fun s4 => slices_Index_Lcrew_Refusal_crew_Refusal_b4 N l ⟨p,s⟩ s4) (fun x => rfl) l.length 0 N (by omega) hN with ⟨k,h1,h2,h3⟩ | ⟨h1,h2⟩
 ·rw [show ((0 : Nat) : Int) = 0 from rfl] at h1
  rw [List.drop_zero] at h3
  refine ⟨true,?_,by simp only [true_iff]; exact hany.1 h3⟩
  rw [h1]
  simp [exK,h2]
 ·rw [show ((0 : Nat) : Int) = 0 from rfl] at h1
  rw [List.drop_zero] at h2
  refine ⟨false,by rw [h1]; rfl,?_⟩
  rw [← hany,h2]
theorem all_better {N : Nat} (hN : 200 ≤ N) {r : crew_Roster} {rank : Nat → Int} (hw : WOk r rank) {q s : Int} (hq : inP r q) (hs : s ∈ pf r q) {ahead : List crew_Refusal} (hl : ahead.length ≤ 150) :
  ∃ b,crew_work_better_1 N ⟨r,rank⟩ q s (rY (fun (zz : Bool) (ix_ : Int) => crew_work_holds_r19 N ahead q zz ix_)) (.go true) = some (.go b) ∧ (Bet r ahead q s → b = true) := by
 have hnd := hw.ok.pn _ (pf_mem hq)
 obtain ⟨sg,h1,b,rfl,h2⟩ := better_inv (N := N) (by omega) hw (than := s) hq (rY (fun (zz : Bool) (ix_ : Int) => crew_work_holds_r19 N ahead q zz ix_))
  (fun j sg => (∃ b,sg = .go b ∧ ((∀ i (hi : i < (pf r q).length),i < j → posB r q (pf r q)[i] → Ref ahead q (pf r q)[i]) → b = true)) ∧ ∀ i (hi : i < (pf r q).length),i < j → (pf r q)[i] ≠ s)
  (fun sg => ∃ b,sg = .go b ∧ (Bet r ahead q s → b = true))
  (fun i hi sg hI hne hpo => by
   obtain ⟨⟨b,rfl,hb⟩,hns⟩ := hI
   obtain ⟨c,c1,c2⟩ := has_ref (N := N) (l := ahead) (p := q) (s := (pf r q)[i]) (by omega) (by omega)
   refine ⟨.go (b && c),true,?_,fun _ => ⟨⟨_,rfl,fun hall => ?_⟩,fun j hj hji => ?_⟩,(fun e => by cases e)⟩
   ·show Option.map (fun r => (r,r.on)) (crew_work_holds_r19 N ahead q b (pf r q)[i]) = _
    unfold crew_work_holds_r19
    rw [c1]
    cases b <;> rfl
   ·rw [hb fun j hj hji hpj => hall j hj (by omega) hpj,c2.2 (hall i hi (by omega) hpo)]; rfl
   ·by_cases h4 : j = i
    ·subst h4; exact hne
    ·exact hns j hj (by omega))
  (fun i hi sg hI hne hnp => by
   obtain ⟨⟨b,rfl,hb⟩,hns⟩ := hI
   refine ⟨⟨b,rfl,fun hall => hb fun j hj hji hpj => hall j hj (by omega) hpj⟩,fun j hj hji => ?_⟩
   by_cases h4 : j = i
   ·subst h4; exact hne
   ·exact hns j hj (by omega))
  (fun i hi sg hI ht => by
   obtain ⟨⟨b,rfl,hb⟩,hns⟩ := hI
   refine ⟨b,rfl,fun hB => hb fun j hj hji hpj => hB _ (List.getElem_mem hj) ?_ hpj⟩
   rw [← ht,idx_nth hnd hj,idx_nth hnd hi]
   omega)
  (fun sg hI => by
   obtain ⟨j,hj,hje⟩ := List.getElem_of_mem hs
   exact absurd hje (hI.2 j hj hj)) (.go true) ⟨⟨true,rfl,fun _ => rfl⟩,fun i hi hi0 => by omega⟩
 exact ⟨b,h1,h2⟩
theorem holds_one {N : Nat} (hN : 200 ≤ N) {r : crew_Roster} {rank : Nat → Int} (hw : WOk r rank) {x : crew_Refusal} {ahead : List crew_Refusal} (hl : ahead.length ≤ 150) (hp : inP r x.Person) (hs : inS r x.Station) (hpo : posB r x.Person x.Station) (hj : Just r ahead x) : crew_work_holds N ⟨r,rank⟩ x ahead = some true := by
 have hp2 := hw.ok.p2
 have hs2 := hw.ok.s2
 unfold crew_work_holds
 rw [possible_ok (by omega) hw hs hp,decide_eq_true hpo,Option.bind_some]
 simp only [Bool.not_true,cond_false]
 obtain ⟨s,g1,g2,g3,g4,g5⟩ := loopInv (ρ := Bool) (fun s8 => crew_work_holds_b8 N ⟨r,rank⟩ x ahead s8.1 s8.2) (fun i s => s.2 = (i : Int) ∧ 0 ≤ s.1 ∧ s.1 ≤ (i : Int) ∧ ∀ qs : List Int,qs.Nodup → (∀ q ∈ qs,q < (i : Int) ∧ inP r q ∧ posB r q x.Station ∧ rk r x.Station q < rk r x.Station x.Person ∧ Bet r ahead q x.Station) → (qs.length : Int) ≤ s.1) r.People.length (fun i s hi hI => by
  obtain ⟨many,y⟩ := s
  obtain ⟨rfl,f1,f2,f3⟩ := hI
  dsimp only at f1 f2 f3
  have hiP : inP r (i : Int) := ⟨by omega,by omega⟩
  have hsplit : ∀ qs : List Int,qs.Nodup → (∀ q ∈ qs,q < ((i + 1 : Nat) : Int) ∧ inP r q ∧ posB r q x.Station ∧ rk r x.Station q < rk r x.Station x.Person ∧ Bet r ahead q x.Station) → (qs.length : Int) ≤ many + (if (i : Int) ∈ qs then 1 else 0) := fun qs hn hall => by
   by_cases hm : (i : Int) ∈ qs
   ·rw [if_pos hm]
    have := f3 (qs.erase (i : Int)) (hn.erase _) fun q hq => by
     obtain ⟨h1,h2⟩ := hn.mem_erase_iff.1 hq
     have h3 := hall q h2
     exact ⟨by have := h3.1; push_cast at this; omega,h3.2⟩
    rw [List.length_erase_of_mem hm] at this
    have := List.length_pos_of_mem hm
    omega
   ·rw [if_neg hm]
    have := f3 qs hn fun q hq => by
     have h3 := hall q hq
     refine ⟨?_,h3.2⟩
     have h4 := h3.1
     have : q ≠ (i : Int) := fun e => hm (e ▸ hq)
     push_cast at h4
     omega
    omega
  show ∃ s',crew_work_holds_b8 N ⟨r,rank⟩ x ahead many (i : Int) = _ ∧ _
  unfold crew_work_holds_b8 crew_work_holds_j12
  dsimp only
  rw [lt_dec hi,cond_true,possible_ok (by omega) hw hs hiP,Option.bind_some,W_succ (by omega)]
  by_cases h1 : posB r (i : Int) x.Station
  ·rw [decide_eq_true h1,Bool.not_true,cond_false,inR_ok hs.1 (by have := hs.2; omega),inR_ok hiP.1 (by omega),inR_ok hp.1 (by have := hp.2; omega),Option.bind_some,Option.bind_some,Option.bind_some,Option.bind_some]
   simp only [hw.get hs hp,hw.get hs hiP,Option.bind_some]
   by_cases h2 : rk r x.Station x.Person ≤ rk r x.Station (i : Int)
   ·rw [decide_eq_true h2,cond_true]
    refine ⟨_,rfl,rfl,f1,by dsimp only; omega,fun qs hn hall => ?_⟩
    have := hsplit qs hn hall
    by_cases hm : (i : Int) ∈ qs
    ·have := (hall _ hm).2.2.2.1; omega
    ·rw [if_neg hm] at this; dsimp only; omega
   ·rw [decide_eq_false h2,cond_false]
    unfold crew_work_better
    rw [Option.bind_some]
    obtain ⟨b,b1,b2⟩ := all_better hN hw hiP h1.2 hl
    rw [b1,Option.bind_some]
    have hW : W (many + 1) = many + 1 := W_id (by omega) (by omega)
    cases b with
    | true =>
     refine ⟨(many + 1,((i + 1 : Nat) : Int)),by show some (Step.cont (W (many + 1),_)) = _; rw [hW],rfl,by dsimp only; omega,by dsimp only; push_cast; omega,fun qs hn hall => ?_⟩
     have := hsplit qs hn hall
     dsimp only
     split at this <;> omega
    | false =>
     refine ⟨(many,((i + 1 : Nat) : Int)),rfl,rfl,f1,by dsimp only; omega,fun qs hn hall => ?_⟩
     have := hsplit qs hn hall
     by_cases hm : (i : Int) ∈ qs
     ·have := b2 (hall _ hm).2.2.2.2; cases this
     ·rw [if_neg hm] at this; dsimp only; omega
  ·rw [decide_eq_false h1,Bool.not_false,cond_true,Option.bind_some,cond_true]
   refine ⟨_,rfl,rfl,f1,by dsimp only; omega,fun qs hn hall => ?_⟩
   have := hsplit qs hn hall
   by_cases hm : (i : Int) ∈ qs
   ·exact absurd (hall _ hm).2.2.1 h1
   ·rw [if_neg hm] at this; dsimp only; omega) (fun s hI => by
  show crew_work_holds_b8 N ⟨r,rank⟩ x ahead s.1 s.2 = _
  unfold crew_work_holds_b8
  dsimp only
  rw [hI.1,ge_dec,cond_false,← hI.1]) r.People.length 0 (0,0) N (by omega) (by omega) ⟨rfl,Int.le_refl _,Int.le_refl _,fun qs hn hall => by
   have : qs = [] := by
    cases qs with
    | nil => rfl
    | cons a l => have h1 := hall a List.mem_cons_self; have h2 := h1.1; have h3 := h1.2.1.1; omega
   rw [this]; simp⟩
 rw [g1,Option.bind_some]
 simp only [exK]
 have hget : getI r.Stations x.Station = some (sta r x.Station) := getI_of _ hs.1 hs.2
 rw [hget,Option.bind_some]
 obtain ⟨qs,q1,q2,q3⟩ := hj
 have := g5 qs q1 fun q hq => ⟨(q3 q hq).1.2,q3 q hq⟩
 rw [decide_eq_true (by omega)]
theorem holds_ok {N : Nat} (hN : 200 ≤ N) {r : crew_Roster} (hr : RosOk r) {l : List crew_Refusal} (hl : l.length ≤ 144) (hp : ∀ x ∈ l,inP r x.Person ∧ inS r x.Station ∧ posB r x.Person x.Station) (hj : ∀ k (h : k < l.length),Just r (l.take k) l[k]) : crew_Holds N r l = some (true,0) := by
 obtain ⟨rank,h1,h2⟩ := opened_ok (N := N) (by omega) hr
 have hw : WOk r rank := ⟨hr,h2⟩
 have hp2 := hr.p2
 have hs2 := hr.s2
 unfold crew_Holds
 rw [h1,Option.bind_some]
 simp only [sumK,bne_self_eq_false,cond_false]
 have c1 : crew_every_crew_Refusal N l r = some true := by
  unfold crew_every_crew_Refusal slices_ContainsFunc_Lcrew_Refusal_crew_Refusal_s2 slices_IndexFunc_Lcrew_Refusal_crew_Refusal_s2
  refine every_mon (l := l) (by omega) (by omega) _ (fun i hi => ?_) (by unfold slices_IndexFunc_Lcrew_Refusal_crew_Refusal_s2_b4; rw [ge_dec,cond_false])
  unfold slices_IndexFunc_Lcrew_Refusal_crew_Refusal_s2_b4
  obtain ⟨⟨a1,a2⟩,⟨b1,b2⟩,-⟩ := hp _ (List.getElem_mem hi)
  have : crew_every_crew_Refusal_1 l[i] r = false := by
   unfold crew_every_crew_Refusal_1 crew_Holds_1 crew_in
   rw [W_id (by omega) (by omega),W_id (by omega) (by omega),decide_eq_true a1,decide_eq_true b1,decide_eq_true (by omega),decide_eq_true (by omega)]
   rfl
  rw [lt_dec hi,cond_true,getI_nat hi,Option.bind_some,this,cond_false]
 rw [show decide (144 < ((l.length : Nat) : Int)) = false by rw [decide_eq_false_iff_not]; omega,cond_false,c1,Option.bind_some,Bool.not_true,cond_false]
 have hrun := runS (ρ := Bool × Int) (fun i : Nat => (i : Int)) l.length (fun s28 => crew_Holds_b28 N r l (rank,0) s28) (fun i hi => by
  show crew_Holds_b28 N r l (rank,0) (i : Int) = _
  unfold crew_Holds_b28
  obtain ⟨a1,b1,c1⟩ := hp _ (List.getElem_mem hi)
  have hsub : subO l 0 (i : Int) = some (l.take i) := by
   unfold subO
   rw [if_pos ⟨by omega,by omega,by omega⟩]
   simp
  rw [lt_dec hi,cond_true,getI_nat hi,Option.bind_some,hsub,Option.bind_some,holds_one hN hw (by rw [List.length_take]; omega) a1 b1 c1 (hj i hi),Option.bind_some,Bool.not_true,cond_false,W_succ (by omega)]) (by
  show crew_Holds_b28 N r l (rank,0) _ = _
  unfold crew_Holds_b28
  rw [ge_dec,cond_false]) (N := N) (by omega)
 rw [show ((0 : Nat) : Int) = 0 from rfl] at hrun
 rw [hrun,Option.bind_some]
 rfl
end Go.Nilo
