/-
  What the plain functions compute, in plain arithmetic, part 7. Conditions: what each theorem names.
-/
import Derived.Test.YtbgjmnbgilddgaaPnL6
set_option linter.unusedSimpArgs false
set_option linter.unusedVariables false
namespace Go.Nilo
def inT (x : Int) : Bool := decide (-1000000000 ≤ x ∧ x ≤ 1000000000)
def okE (s : gauge_Site) (t : List Int) (a b : Nat) : Bool := (!stepB s a b) || decide (t.getD b 0 - t.getD a 0 ≤ cst s b)
def okA (s : gauge_Site) (t : List Int) : Bool := (List.range' 0 (s.Points.length + 2)).all fun b => (List.range' 0 b).all fun a => okE s t a b
def provesR (s : gauge_Site) (t : List Int) (cost : Int) : Bool × Int :=
 if chkS s = 0 then (if t.length = s.Points.length + 2 then (if t.all inT = true ∧ (0 ≤ cost ∧ cost ≤ 1000000000) then (okA s t && decide (cost ≤ t.getD (s.Points.length + 1) 0 - t.getD 0 0),0) else (false,4)) else (false,2)) else (false,chkS s)
theorem inT_get {t : List Int} (h : t.all inT = true) {i : Nat} (hi : i < t.length) : -1000000000 ≤ t.getD i 0 ∧ t.getD i 0 ≤ 1000000000 := by
 have := List.all_eq_true.1 h _ (List.getElem_mem hi)
 rw [get_getD (d := 0) hi] at this
 exact of_decide_eq_true this
theorem every_toll {N : Nat} {l : List Int} (hl : l.length < N) (hl' : l.length ≤ 1000000) : gauge_every_int N l = some (l.all inT) := by
 unfold gauge_every_int slices_ContainsFunc_Lint_int slices_IndexFunc_Lint_int
 refine every_gen (f := gauge_every_int_1) (ok := inT) (fun x => ?_) hl hl' _ (fun x => rfl)
 unfold gauge_every_int_1 gauge_Proves_1 inT
 rw [in_dec]
theorem proves_spec {N : Nat} (hN : 100 ≤ N) {s : gauge_Site} (hs : s.Points.length ≤ 40) {t : List Int} (ht : t.length ≤ 40) {cost : Int} : gauge_Proves N s t cost = some (provesR s t cost) := by
 unfold gauge_Proves provesR
 rw [check_spec hN hs,Option.bind_some]
 by_cases hc : chkS s = 0
 ·have h := chk_ok hc
  have hn := h.n
  rw [if_pos hc,hc,W_sm (n := ((s.Points.length : Nat) : Int) + 1) (by omega) (by omega),W_sm (by omega) (by omega)]
  show cond (((t.length : Nat) : Int) != ((s.Points.length : Nat) : Int) + 1 + 1) _ _ = _
  by_cases hl : t.length = s.Points.length + 2
  ·rw [if_pos hl,show (((t.length : Nat) : Int) != ((s.Points.length : Nat) : Int) + 1 + 1) = false from by rw [hl,show ((s.Points.length + 2 : Nat) : Int) = ((s.Points.length : Nat) : Int) + 1 + 1 by omega]; exact bne_self_eq_false _,cond_false,every_toll (by omega) (by omega),Option.bind_some,in_dec]
   by_cases h4 : t.all inT = true ∧ (0 ≤ cost ∧ cost ≤ 1000000000)
   ·rw [if_pos h4,h4.1,dT h4.2,Bool.not_true,Bool.or_false,cond_false]
    have hrow : ∀ b,b ≤ s.Points.length + 1 → gauge_Proves_b14 N s t (b : Int) = some (cond ((List.range' 0 b).all fun a => okE s t a b) (Step.cont ((b + 1 : Nat) : Int)) (.ret (false,(0 : Int)))) := by
     intro b hb
     have hin := scanS (ρ := Step Int (Bool × Int)) (fun i : Nat => (i : Int)) (fun a => cond (okE s t a b) none (some (.ret (false,0)))) b (fun s22 => gauge_Proves_b22 N s t (b : Int) s22) (fun a ha => by
      show gauge_Proves_b22 N s t (b : Int) (a : Int) = _
      unfold gauge_Proves_b22 okE
      rw [lt_dec ha,cond_true,steps_spec2 h (by omega) hb,Option.bind_some]
      cases stepB s a b with
      | false =>
       rw [cond_false,Option.bind_some,cond_false,W_succ (by omega)]
       rfl
      | true =>
       have i1 := inT_get h4.1 (i := a) (by omega)
       have i2 := inT_get h4.1 (i := b) (by omega)
       rw [cond_true,getI_d 0 (by omega),Option.bind_some,getI_d 0 (by omega),Option.bind_some,station_spec2 (by omega) hb,Option.bind_some,Option.bind_some,W_sm (by omega) (by omega),W_succ (by omega)]
       show cond (decide (cst s b < t.getD b 0 - t.getD a 0)) _ _ = _
       by_cases hh : t.getD b 0 - t.getD a 0 ≤ cst s b
       ·rw [dF (by omega),dT hh]; rfl
       ·rw [dT (by omega),dF hh]; rfl) (by
      show gauge_Proves_b22 N s t (b : Int) (b : Int) = _
      unfold gauge_Proves_b22
      rw [ge_dec,cond_false]) b 0 N (by omega) (by omega)
     unfold gauge_Proves_b14
     rw [W_sm (n := ((s.Points.length : Nat) : Int) + 1) (by omega) (by omega),W_sm (by omega) (by omega),dT (by omega),cond_true]
     show Option.bind (loopO (fun s22 => gauge_Proves_b22 N s t (b : Int) s22) N ((0 : Nat) : Int)) _ = _
     rw [hin,firstG_range,W_succ (by omega)]
     cases (List.range' 0 b).all fun a => okE s t a b <;> rfl
    have hout := scanS (ρ := Bool × Int) (fun i : Nat => (i : Int)) (fun b => cond ((List.range' 0 b).all fun a => okE s t a b) none (some (false,(0 : Int)))) (s.Points.length + 2) (fun s14 => gauge_Proves_b14 N s t s14) (fun b hb => (hrow b (by omega)).trans (by cases (List.range' 0 b).all fun a => okE s t a b <;> rfl)) (by
     show gauge_Proves_b14 N s t ((s.Points.length + 2 : Nat) : Int) = _
     unfold gauge_Proves_b14
     rw [W_sm (n := ((s.Points.length : Nat) : Int) + 1) (by omega) (by omega),W_sm (by omega) (by omega),dF (by omega),cond_false]) (s.Points.length + 2) 0 N (by omega) (by omega)
    show Option.bind (loopO (fun s14 => gauge_Proves_b14 N s t s14) N ((0 : Nat) : Int)) _ = _
    rw [hout,firstG_range]
    have hok : ((List.range' 0 (s.Points.length + 2)).all fun b => (List.range' 0 b).all fun a => okE s t a b) = okA s t := rfl
    rw [hok]
    cases okA s t with
    | false => rfl
    | true =>
     have i1 := inT_get h4.1 (i := 0) (by omega)
     have i2 := inT_get h4.1 (i := s.Points.length + 1) (by omega)
     rw [cond_true,Option.bind_some]
     show Option.bind (getI t (((s.Points.length : Nat) : Int) + 1)) _ = _
     rw [show ((s.Points.length : Nat) : Int) + 1 = ((s.Points.length + 1 : Nat) : Int) by omega,getI_d 0 (by omega),Option.bind_some,show getI t (0 : Int) = some (t.getD 0 0) from getI_d (i := 0) 0 (by omega),Option.bind_some,W_sm (by omega) (by omega)]
     rfl
   ·rw [if_neg h4]
    have e : ((!t.all inT) || (!decide (0 ≤ cost ∧ cost ≤ 1000000000))) = true := by
     rw [Bool.or_eq_true]
     simp only [Bool.not_eq_true',decide_eq_false_iff_not]
     by_cases h5 : t.all inT = true
     ·exact .inr fun h6 => h4 ⟨h5,h6⟩
     ·exact .inl (by simpa using h5)
    rw [e,cond_true]
  ·rw [if_neg hl,show (((t.length : Nat) : Int) != ((s.Points.length : Nat) : Int) + 1 + 1) = true from bne_iff_ne.2 (by omega),cond_true]
 ·rw [if_neg hc,show (chkS s != 0) = true from bne_iff_ne.2 hc,cond_true]
theorem okA_alt {s : gauge_Site} {t : List Int} : ((List.range' 0 (s.Points.length + 2)).all fun a => (List.range' 0 (s.Points.length + 1 - a)).all fun i => okE s t a (a + 1 + i)) = okA s t := by
 unfold okA
 rw [Bool.eq_iff_iff,range_all,range_all]
 constructor
 ·intro h b hb
  rw [range_all]
  intro a ha
  have h1 := h a (by omega)
  rw [range_all] at h1
  have h2 := h1 (b - a - 1) (by omega)
  rwa [show a + 1 + (b - a - 1) = b by omega] at h2
 ·intro h a ha
  rw [range_all]
  intro i hi
  have h1 := h (a + 1 + i) (by omega)
  rw [range_all] at h1
  exact h1 a (by omega)
theorem ref_proves {N : Nat} (hN : 100 ≤ N) {s : gauge_Site} (hs : s.Points.length ≤ 40) {t : List Int} (ht : t.length ≤ 40) {cost : Int} : ref03_Proves N (rs s) t cost = some (provesR s t cost) := by
 unfold ref03_Proves provesR
 rw [ref_check hN hs,Option.bind_some]
 by_cases hc : chkS s = 0
 ·have h := chk_ok hc
  have hn := h.n
  rw [if_pos hc,hc]
  show Option.bind (ref03_stations N (rs s)) _ = _
  rw [stations_spec hs,Option.bind_some,stl_len]
  by_cases hl : t.length = s.Points.length + 2
  ·rw [if_pos hl,show (((t.length : Nat) : Int) != ((s.Points.length + 2 : Nat) : Int)) = false from by rw [hl]; exact bne_self_eq_false _,cond_false]
   have l12 := scanS (ρ := Bool × Int) (fun i : Nat => (i : Int)) (fun j => cond (inT (t.getD j 0)) none (some (false,(4 : Int)))) t.length (fun s12 => ref03_Proves_b12 N t s12) (fun i hi => by
    show ref03_Proves_b12 N t (i : Int) = _
    unfold ref03_Proves_b12
    rw [lt_dec hi,cond_true,getI_d 0 hi,Option.bind_some,out_dec,W_succ (by omega)]
    unfold inT
    cases decide (-1000000000 ≤ t.getD i 0 ∧ t.getD i 0 ≤ 1000000000) <;> rfl) (by
    show ref03_Proves_b12 N t (t.length : Int) = _
    unfold ref03_Proves_b12
    rw [ge_dec,cond_false]) t.length 0 N (by omega) (by omega)
   show Option.bind (loopO (fun s12 => ref03_Proves_b12 N t s12) N ((0 : Nat) : Int)) _ = _
   rw [l12,firstG_range,all_range]
   cases h5 : t.all inT with
   | false => rw [if_neg (by simp)]; rfl
   | true =>
    rw [cond_true,Option.bind_some]
    show cond (ref03_outside cost 0 1000000000) _ _ = _
    rw [out_dec]
    by_cases h6 : 0 ≤ cost ∧ cost ≤ 1000000000
    ·rw [dT h6,Bool.not_true,cond_false,if_pos ⟨rfl,h6⟩]
     have hrow : ∀ a,a ≤ s.Points.length + 1 → ref03_Proves_b18 N (rs s) t (stl s) (a : Int) = some (cond ((List.range' 0 (s.Points.length + 1 - a)).all fun i => okE s t a (a + 1 + i)) (Step.cont ((a + 1 : Nat) : Int)) (.ret (false,(0 : Int)))) := by
      intro a ha
      have hin := scanS (ρ := Step Int (Bool × Int)) (fun i : Nat => ((a + 1 + i : Nat) : Int)) (fun i => cond (okE s t a (a + 1 + i)) none (some (.ret (false,0)))) (s.Points.length + 1 - a) (fun s25 => ref03_Proves_b25 N (rs s) t (stl s) (a : Int) s25) (fun i hi => by
       show ref03_Proves_b25 N (rs s) t (stl s) (a : Int) ((a + 1 + i : Nat) : Int) = _
       unfold ref03_Proves_b25 okE
       rw [stl_len,lt_dec (by omega),cond_true,stl_get ha,Option.bind_some,stl_get (by omega),Option.bind_some,goes_spec h ha (by omega),Option.bind_some]
       cases stepB s a (a + 1 + i) with
       | false =>
        rw [cond_false,Option.bind_some,cond_false,W_succ (by omega)]
        rfl
       | true =>
        have i1 := inT_get h5 (i := a) (by omega)
        have i2 := inT_get h5 (i := a + 1 + i) (by omega)
        have i3 := stn_bd h (i := a + 1 + i) (by omega)
        rw [cond_true,getI_d 0 (by omega),Option.bind_some,Option.bind_some,getI_d 0 (by omega),Option.bind_some,Option.bind_some]
        show cond (decide (W (t.getD a 0 + (stn s (a + 1 + i)).Cost) < t.getD (a + 1 + i) 0)) (some (Step.ret (.ret (false,0)) : Step Int (Step Int (Bool × Int)))) (some (.cont (W (((a + 1 + i : Nat) : Int) + 1)))) = _
        rw [W_sm (n := t.getD a 0 + _) (by omega) (by omega),W_succ (by omega)]
        by_cases hh : t.getD (a + 1 + i) 0 - t.getD a 0 ≤ cst s (a + 1 + i)
        ·rw [dT hh]
         unfold cst at hh
         rw [dF (by omega)]; rfl
        ·rw [dF hh]
         unfold cst at hh
         rw [dT (by omega)]; rfl) (by
       show ref03_Proves_b25 N (rs s) t (stl s) (a : Int) _ = _
       unfold ref03_Proves_b25
       rw [stl_len,dF (by omega),cond_false]) (s.Points.length + 1 - a) 0 N (by omega) (by omega)
      unfold ref03_Proves_b18
      rw [stl_len,dT (by omega),cond_true,W_succ (by omega)]
      show Option.bind (loopO (fun s25 => ref03_Proves_b25 N (rs s) t (stl s) (a : Int) s25) N ((a + 1 + 0 : Nat) : Int)) _ = _
      rw [hin,firstG_range]
      cases (List.range' 0 (s.Points.length + 1 - a)).all fun i => okE s t a (a + 1 + i) <;> rfl
     have hout := scanS (ρ := Bool × Int) (fun i : Nat => (i : Int)) (fun a => cond ((List.range' 0 (s.Points.length + 1 - a)).all fun i => okE s t a (a + 1 + i)) none (some (false,(0 : Int)))) (s.Points.length + 2) (fun s18 => ref03_Proves_b18 N (rs s) t (stl s) s18) (fun a ha => (hrow a (by omega)).trans (by cases (List.range' 0 (s.Points.length + 1 - a)).all fun i => okE s t a (a + 1 + i) <;> rfl)) (by
      show ref03_Proves_b18 N (rs s) t (stl s) ((s.Points.length + 2 : Nat) : Int) = _
      unfold ref03_Proves_b18
      rw [stl_len,dF (by omega),cond_false]) (s.Points.length + 2) 0 N (by omega) (by omega)
     show Option.bind (loopO (fun s18 => ref03_Proves_b18 N (rs s) t (stl s) s18) N ((0 : Nat) : Int)) _ = _
     rw [hout,firstG_range,okA_alt]
     cases okA s t with
     | false => rfl
     | true =>
      have i1 := inT_get h5 (i := 0) (by omega)
      have i2 := inT_get h5 (i := s.Points.length + 1) (by omega)
      rw [cond_true,Option.bind_some]
      show Option.bind (getI t ((0 : Nat) : Int)) (fun e_1 => Option.bind (getI t (W (((s.Points.length + 2 : Nat) : Int) - 1))) _) = _
      rw [getI_d 0 (by omega),Option.bind_some,W_sm (by omega) (by omega),show ((s.Points.length + 2 : Nat) : Int) - 1 = ((s.Points.length + 1 : Nat) : Int) by omega,getI_d 0 (by omega),Option.bind_some,W_sm (by omega) (by omega),Bool.true_and]
      congr 2
      exact decide_eq_decide.2 (by omega)
    ·rw [dF h6,Bool.not_false,cond_true,if_neg (fun hh => h6 hh.2)]
  ·rw [if_neg hl,show (((t.length : Nat) : Int) != ((s.Points.length + 2 : Nat) : Int)) = true from bne_iff_ne.2 (by omega),cond_true]
 ·rw [if_neg hc,show (chkS s != 0) = true from bne_iff_ne.2 hc,cond_true]
def tlL (s : gauge_Site) (L : Nat → gauge_spent) (m : Nat) : List Int := (List.range m).map fun i => max 0 ((L 0).cost - (L i).cost)
theorem tlL_get {s : gauge_Site} {L : Nat → gauge_spent} {m i : Nat} (h : i < m) : (tlL s L m).getD i 0 = max 0 ((L 0).cost - (L i).cost) := by
 unfold tlL
 simp [List.getD,h]
theorem tolls_spec {N : Nat} (hN : 100 ≤ N) {s : gauge_Site} (hs : s.Points.length ≤ 40) :
  (chkS s ≠ 0 ∧ gauge_Tolls N s = some ([],chkS s)) ∨ (chkS s = 0 ∧ ∃ L mp,(∀ k,k ≤ s.Points.length + 1 → Fin' s L mp k) ∧ gauge_Tolls N s = some (tlL s L (s.Points.length + 2),0)) := by
 by_cases hc : chkS s = 0
 ·right
  have h := chk_ok hc
  have hn := h.n
  obtain ⟨L,mp,e,hf⟩ := opened_spec hN h hc
  refine ⟨hc,L,mp,hf,?_⟩
  unfold gauge_Tolls
  rw [e,Option.bind_some]
  show cond ((0 : Int) != 0) _ (Option.bind (inR 0 32) (fun un => Option.bind (loopO (fun s14 => gauge_Tolls_b14 N s (s.Left,s.Right,s.Gap,s.Step_,L,mp,0) s14.1 s14.2) N ([],0)) fun x14 => exK x14 (fun s14 => some (s14.1,0)) some)) = _
  rw [bne_self_eq_false,cond_false,show inR 0 32 = some () from rfl,Option.bind_some]
  have := runS (ρ := List Int × Int) (fun i : Nat => (tlL s L i,(i : Int))) (s.Points.length + 2) (fun s14 => gauge_Tolls_b14 N s (s.Left,s.Right,s.Gap,s.Step_,L,mp,0) s14.1 s14.2) (fun i hi => by
   have b0 := fin_bd h (hf 0 (by omega))
   have b1 := fin_bd h (hf i (by omega))
   show gauge_Tolls_b14 N s (s.Left,s.Right,s.Gap,s.Step_,L,mp,0) (tlL s L i) (i : Int) = _
   unfold gauge_Tolls_b14
   rw [W_sm (n := ((s.Points.length : Nat) : Int) + 2) (by omega) (by omega),dT (by omega),cond_true,show inR (i : Int) 32 = some () from by unfold inR; rw [if_pos (by omega)],Option.bind_some,W_succ (by omega)]
   have e1 : tlL s L i ++ [max 0 (W ((L (0 : Int).toNat).cost - (L (i : Int).toNat).cost))] = tlL s L (i + 1) := by
    rw [Int.toNat_natCast,show (0 : Int).toNat = 0 from rfl,W_sm (by omega) (by omega)]
    unfold tlL
    rw [List.range_succ,List.map_append]
    rfl
   show Option.bind (room (tlL s L i ++ [max 0 (W ((L (0 : Int).toNat).cost - (L (i : Int).toNat).cost))]).length) (fun un_2 => some (Step.cont (tlL s L i ++ [max 0 (W ((L (0 : Int).toNat).cost - (L (i : Int).toNat).cost))],((i + 1 : Nat) : Int)) : Step (List Int × Int) (List Int × Int))) = _
   rw [e1,room_ok (by simp [tlL]; omega),Option.bind_some]) (by
   show gauge_Tolls_b14 N s (s.Left,s.Right,s.Gap,s.Step_,L,mp,0) _ ((s.Points.length + 2 : Nat) : Int) = _
   unfold gauge_Tolls_b14
   rw [W_sm (by omega) (by omega),dF (by omega),cond_false]) (N := N) (by omega)
  show Option.bind (loopO _ N (tlL s L 0,((0 : Nat) : Int))) _ = _
  rw [this]
  rfl
 ·left
  refine ⟨hc,?_⟩
  unfold gauge_Tolls
  rw [opened_err hN hs hc,Option.bind_some]
  show cond (chkS s != 0) _ _ = _
  rw [show (chkS s != 0) = true from bne_iff_ne.2 hc,cond_true]
theorem tolls_prove {s : gauge_Site} (hc : chkS s = 0) {L : Nat → gauge_spent} {mp : Int → Option Int} (hf : ∀ k,k ≤ s.Points.length + 1 → Fin' s L mp k) : provesR s (tlL s L (s.Points.length + 2)) (L 0).cost = (true,0) := by
 have h := chk_ok hc
 have hn := h.n
 have hb : ∀ k,k ≤ s.Points.length + 1 → 0 ≤ (L k).cost ∧ (L k).cost ≤ 1000000000 := fun k hk => (fin_bd h (hf k hk)).1
 have hl : (tlL s L (s.Points.length + 2)).length = s.Points.length + 2 := by simp [tlL]
 have h0 := hb 0 (by omega)
 have hlast : (L (s.Points.length + 1)).cost = 0 := by
  rcases hf (s.Points.length + 1) (Nat.le_refl _) with ⟨q,h1,h2,-⟩ | ⟨hno,-⟩
  ·obtain rfl := best_uniq h1 best_self
   rw [h2]
   rfl
  ·exact absurd rfl (hno [])
 unfold provesR
 rw [if_pos hc,if_pos hl,if_pos ⟨List.all_eq_true.2 fun x hx => by
  obtain ⟨i,hi,rfl⟩ := List.mem_map.1 hx
  have hi' := List.mem_range.1 hi
  have := hb i (by omega)
  exact dT (by omega),h0⟩,tlL_get (by omega),tlL_get (by omega),hlast]
 have e : okA s (tlL s L (s.Points.length + 2)) = true := by
  unfold okA
  rw [range_all]
  intro b hbb
  rw [range_all]
  intro a ha
  unfold okE
  cases hst : stepB s a b with
  | false => rfl
  | true =>
   rw [Bool.not_true,Bool.false_or,tlL_get (by omega),tlL_get (by omega)]
   have h1 := hb a (by omega)
   have h2 := hb b (by omega)
   have h3 := stn_bd h (i := b) (by omega)
   have h3' : 0 ≤ cst s b := h3.2.2.1
   refine dT ?_
   rcases hf b (by omega) with ⟨q,hq,hLb,-⟩ | ⟨-,hLb⟩
   ·rcases hf a (by omega) with ⟨r,hr,hLa,-⟩ | ⟨hno,-⟩
    ·have h4 := hr.2 (b::q) ⟨⟨ha,hst⟩,hq.1⟩
     have h5 : pc (cst s) r ≤ cst s b + pc (cst s) q := by
      have : ¬ (cst s b + pc (cst s) q < pc (cst s) r) := fun hh => h4 (.inl hh)
      omega
     have ea : (L a).cost = pc (cst s) r := by rw [hLa]; rfl
     have eb : (L b).cost = pc (cst s) q := by rw [hLb]; rfl
     omega
    ·exact absurd ⟨⟨ha,hst⟩,hq.1⟩ (hno (b::q))
   ·have eb : (L b).cost = 1000000000 := by rw [hLb]; rfl
    omega
 rw [e,Bool.true_and,dT (by omega)]
end Go.Nilo
