/-
  What the plain functions compute, in plain arithmetic, part 6. Conditions: what each theorem names.
-/
import Derived.Test.YtakhbnnlhoninaeGreatThL5
set_option linter.unusedSimpArgs false
set_option linter.unusedVariables false
namespace Go.Nilo
theorem or_spec {N : Nat} (hN : 100 ≤ N) (p q : Int) : cmp_Or_int N [p,q] = some (if p = 0 then q else p) := by
 obtain ⟨M,rfl⟩ : ∃ M,N = M + 3 := ⟨N - 3,by omega⟩
 have b0 : cmp_Or_int_b5 (M + 3) [p,q] 0 = cond (p != 0) (some (.ret p)) (some (.cont (W (0 + 1)))) := rfl
 have b1 : cmp_Or_int_b5 (M + 3) [p,q] 1 = cond (q != 0) (some (.ret q)) (some (.cont (W (1 + 1)))) := rfl
 have b2 : cmp_Or_int_b5 (M + 3) [p,q] 2 = some (.brk 2) := rfl
 have w1 : W (0 + 1) = 1 := rfl
 have w2 : W (1 + 1) = 2 := rfl
 unfold cmp_Or_int
 unfold loopO
 rw [b0,w1]
 by_cases hp : p = 0
 ·rw [if_pos hp,show (p != 0) = false from by rw [hp]; rfl,cond_false]
  show Option.bind (loopO _ (M + 2) 1) _ = _
  unfold loopO
  rw [b1,w2]
  by_cases hq : q = 0
  ·rw [show (q != 0) = false from by rw [hq]; rfl,cond_false]
   show Option.bind (loopO _ (M + 1) 2) _ = _
   unfold loopO
   rw [b2,hq]
   rfl
  ·rw [show (q != 0) = true from bne_iff_ne.2 hq,cond_true]
   rfl
 ·rw [if_neg hp,show (p != 0) = true from bne_iff_ne.2 hp,cond_true]
  rfl
theorem compare_spec (x y : Int) : cmp_Compare_int x y = if x < y then -1 else if y < x then 1 else 0 := by
 unfold cmp_Compare_int cmp_isNaN_int
 rw [bne_self_eq_false,bne_self_eq_false,cond_false,cond_false]
 by_cases h : x < y
 ·rw [dT h,if_pos h]; rfl
 ·rw [dF h,if_neg h,cond_false]
  by_cases h' : y < x
  ·rw [dT h',if_pos h']; rfl
  ·rw [dF h',if_neg h']; rfl
def farS : gauge_spent := ⟨1000000000,0⟩
def ltS (x y : gauge_spent) : Prop := x.cost < y.cost ∨ x.cost = y.cost ∧ x.points < y.points
instance (x y : gauge_spent) : Decidable (ltS x y) := by unfold ltS; infer_instance
theorem or_neg (x y : gauge_spent) : (if cmp_Compare_int x.cost y.cost = 0 then cmp_Compare_int x.points y.points else cmp_Compare_int x.cost y.cost) < 0 ↔ ltS x y := by
 rw [compare_spec,compare_spec]
 unfold ltS
 by_cases h1 : x.cost < y.cost
 ·rw [if_pos h1,if_neg (by decide : ¬ (-1 : Int) = 0)]
  exact ⟨fun _ => .inl h1,fun _ => by decide⟩
 ·by_cases h2 : y.cost < x.cost
  ·rw [if_neg h1,if_pos h2,if_neg (by decide : ¬ (1 : Int) = 0)]
   exact ⟨fun h => absurd h (by decide),fun h => by omega⟩
  ·rw [if_neg h1,if_neg h2,if_pos rfl]
   by_cases h3 : x.points < y.points
   ·rw [if_pos h3]
    exact ⟨fun _ => .inr ⟨by omega,h3⟩,fun _ => by decide⟩
   ·rw [if_neg h3]
    by_cases h4 : y.points < x.points
    ·rw [if_pos h4]
     exact ⟨fun h => absurd h (by decide),fun h => by omega⟩
    ·rw [if_neg h4]
     exact ⟨fun h => absurd h (by decide),fun h => by omega⟩
def upS (s : gauge_Site) (L : Nat → gauge_spent) (b : Nat) : gauge_spent := if b ≤ s.Points.length then ⟨(L b).cost + cst s b,(L b).points + 1⟩ else L b
theorem spent_ext {x y : gauge_spent} : x = y ↔ x.cost = y.cost ∧ x.points = y.points := by
 cases x; cases y
 simp
instance : DecidableEq gauge_spent := fun _ _ => decidable_of_iff _ spent_ext.symm
theorem far_beq (x : gauge_spent) : (x.cost == (farS).cost && x.points == (farS).points) = decide (x = farS) := by
 rw [Bool.eq_iff_iff,Bool.and_eq_true,beq_iff_eq,beq_iff_eq,decide_eq_true_eq,spent_ext]
def newB (s : gauge_Site) (L : Nat → gauge_spent) (a b : Nat) : Bool := decide (ltS (upS s L b) (L a)) || decide (L a = farS)
theorem better_spec {N : Nat} (hN : 100 ≤ N) {s : gauge_Site} (h : SiOk s) {L : Nat → gauge_spent} {mp : Int → Option Int} {a b : Nat} (ha : a ≤ s.Points.length) (hb : b ≤ s.Points.length + 1) (hL : (0 ≤ (L b).cost ∧ (L b).cost ≤ 1000000000) ∧ 0 ≤ (L b).points ∧ (L b).points ≤ 100) :
  gauge_work_better N ⟨s,L,mp⟩ (a : Int) (b : Int) = some (cond (newB s L a b) (setF L a (upS s L b),setM (setM mp (a : Int) ((mp (a : Int)).getD 0)) (a : Int) (b : Int)) (L,mp)) := by
 have hn := h.n
 have ia : inR (a : Int) 32 = some () := by unfold inR; rw [if_pos (by omega)]
 have ib : inR (b : Int) 32 = some () := by unfold inR; rw [if_pos (by omega)]
 have hj : ∀ x : gauge_spent,gauge_work_better_j2 N ⟨s,L,mp⟩ (a : Int) (b : Int) x.cost x.points = some (cond (decide (ltS x (L a)) || decide (L a = farS)) (setF L a x,setM (setM mp (a : Int) ((mp (a : Int)).getD 0)) (a : Int) (b : Int)) (L,mp)) := by
  intro x
  unfold gauge_work_better_j2
  rw [ia,Option.bind_some,or_spec hN,Option.bind_some]
  have e : decide ((if cmp_Compare_int x.cost (((⟨s,L,mp⟩ : gauge_work).least (a : Int).toNat).cost) = 0 then cmp_Compare_int x.points (((⟨s,L,mp⟩ : gauge_work).least (a : Int).toNat).points) else cmp_Compare_int x.cost (((⟨s,L,mp⟩ : gauge_work).least (a : Int).toNat).cost)) < 0) = decide (ltS x (L a)) := by
   rw [Int.toNat_natCast]
   exact decide_eq_decide.2 (or_neg x (L a))
  rw [e]
  have e2 : Option.bind (gauge_far N) (fun r_1 => some ((((⟨s,L,mp⟩ : gauge_work).least (a : Int).toNat).cost) == r_1.cost && (((⟨s,L,mp⟩ : gauge_work).least (a : Int).toNat).points) == r_1.points)) = some (decide (L a = farS)) := by
   unfold gauge_far
   rw [Option.bind_some,Int.toNat_natCast]
   exact congrArg some (far_beq (L a))
  rw [e2]
  cases decide (ltS x (L a)) with
  | true =>
   rw [cond_true,Option.bind_some,cond_true,Option.bind_some,Int.toNat_natCast]
   rfl
  | false =>
   rw [cond_false,Option.bind_some]
   cases decide (L a = farS) with
   | true =>
    rw [cond_true,Option.bind_some,Int.toNat_natCast]
    rfl
   | false => rfl
 unfold gauge_work_better newB upS
 rw [ib,Option.bind_some]
 show cond (decide ((b : Int) ≤ ((s.Points.length : Nat) : Int))) _ _ = _
 by_cases hbn : b ≤ s.Points.length
 ·have hbd := stn_bd h hb
  rw [dT (by omega),cond_true,station_spec (by show s.Points.length ≤ 40; omega) (by show b ≤ s.Points.length + 1; omega),Option.bind_some,if_pos hbn,Int.toNat_natCast]
  show gauge_work_better_j2 N ⟨s,L,mp⟩ (a : Int) (b : Int) (W ((L b).cost + (stn s b).Cost)) (W ((L b).points + 1)) = _
  rw [W_sm (by omega) (by omega),W_sm (by omega) (by omega)]
  exact hj ⟨(L b).cost + cst s b,(L b).points + 1⟩
 ·rw [dF (by omega),cond_false,if_neg hbn,Int.toNat_natCast]
  exact hj (L b)

def spOf (s : gauge_Site) (q : List Nat) : gauge_spent := ⟨pc (cst s) q,((q.length - 1 : Nat) : Int)⟩
theorem pc_bd {s : gauge_Site} (h : SiOk s) : ∀ {q : List Nat},(∀ x ∈ q,x ≤ s.Points.length + 1) → 0 ≤ pc (cst s) q ∧ pc (cst s) q ≤ 1000000 * (q.length : Int)
 | [],_ => by simp [pc]
 | x::q,hq => by
  have ih := pc_bd h (q := q) fun y hy => hq y (List.mem_cons_of_mem _ hy)
  have hx := stn_bd h (hq x List.mem_cons_self)
  show 0 ≤ cst s x + pc (cst s) q ∧ cst s x + pc (cst s) q ≤ 1000000 * ((q.length + 1 : Nat) : Int)
  unfold cst at *
  omega
def Fin' (s : gauge_Site) (L : Nat → gauge_spent) (mp : Int → Option Int) (k : Nat) : Prop :=
 (∃ q,Best (stepB s) (cst s) k q (s.Points.length + 1) ∧ L k = spOf s q ∧ ∀ x r,q = x::r → mp (k : Int) = some (x : Int)) ∨ ((∀ q,¬ Seg (stepB s) k q (s.Points.length + 1)) ∧ L k = farS)
theorem seg_bd {s : gauge_Site} {a : Nat} {q : List Nat} (hs : Seg (stepB s) a q (s.Points.length + 1)) : (∀ x ∈ q,x ≤ s.Points.length + 1) ∧ q.length ≤ s.Points.length + 1 := by
 have h1 := seg_le hs
 exact ⟨fun x hx => (seg_mem hs x hx).2,by omega⟩
theorem spOf_far {s : gauge_Site} (h : SiOk s) {a : Nat} {q : List Nat} (hs : Seg (stepB s) a q (s.Points.length + 1)) : spOf s q ≠ farS ∧ (0 ≤ (spOf s q).cost ∧ (spOf s q).cost ≤ 31000000) ∧ 0 ≤ (spOf s q).points ∧ (spOf s q).points ≤ 31 := by
 have hn := h.n
 obtain ⟨h1,h2⟩ := seg_bd hs
 have h3 := pc_bd h h1
 have hb : (0 ≤ (spOf s q).cost ∧ (spOf s q).cost ≤ 31000000) ∧ 0 ≤ (spOf s q).points ∧ (spOf s q).points ≤ 31 := by
  unfold spOf
  show (0 ≤ pc (cst s) q ∧ pc (cst s) q ≤ 31000000) ∧ 0 ≤ ((q.length - 1 : Nat) : Int) ∧ ((q.length - 1 : Nat) : Int) ≤ 31
  omega
 refine ⟨fun e => ?_,hb⟩
 rw [e] at hb
 exact absurd hb.1.2 (by decide)
theorem fin_bd {s : gauge_Site} (h : SiOk s) {L : Nat → gauge_spent} {mp : Int → Option Int} {k : Nat} (hf : Fin' s L mp k) : (0 ≤ (L k).cost ∧ (L k).cost ≤ 1000000000) ∧ 0 ≤ (L k).points ∧ (L k).points ≤ 100 := by
 rcases hf with ⟨q,h1,h2,-⟩ | ⟨-,h2⟩
 ·have := spOf_far h h1.1
  rw [h2]
  omega
 ·rw [h2]
  decide
structure Inn (s : gauge_Site) (a b : Nat) (L : Nat → gauge_spent) (mp : Int → Option Int) (o : Option (List Nat)) : Prop where
 hd : HdW (stepB s) (cst s) (s.Points.length + 1) a b o
 no : o = none → L a = farS
 yes : ∀ q,o = some q → L a = spOf s q ∧ ∀ x r,q = x::r → mp (a : Int) = some (x : Int)
 rest : ∀ k,a < k → k ≤ s.Points.length + 1 → Fin' s L mp k
theorem inner_step {N : Nat} (hN : 100 ≤ N) {s : gauge_Site} (h : SiOk s) {a b : Nat} (ha : a < b) (hb : b ≤ s.Points.length + 1) {L : Nat → gauge_spent} {mp : Int → Option Int} {o : Option (List Nat)} (hi : Inn s a b L mp o) :
  ∃ L' mp' o',gauge_opened_b18 N s (a : Int) (b : Int) L mp = some (.cont (((b + 1 : Nat) : Int),L',mp')) ∧ Inn s a (b + 1) L' mp' o' := by
 have hn := h.n
 have hfb := hi.rest b ha hb
 have hbd := fin_bd h hfb
 have ib : inR (b : Int) 32 = some () := by unfold inR; rw [if_pos (by omega)]
 have hbody : gauge_opened_b18 N s (a : Int) (b : Int) L mp = cond (stepB s a b && !decide (L b = farS)) (Option.bind (gauge_work_better N ⟨s,L,mp⟩ (a : Int) (b : Int)) fun r_4 => some (.cont (((b + 1 : Nat) : Int),r_4.1,r_4.2))) (some (.cont (((b + 1 : Nat) : Int),L,mp))) := by
  unfold gauge_opened_b18 gauge_opened_j21
  rw [W_sm (by omega) (by omega),dT (by omega),cond_true,steps_spec (by exact h) (by show a ≤ s.Points.length + 1; omega) hb,Option.bind_some,W_succ (by omega)]
  show Option.bind (cond (stepB s a b) (Option.bind (inR (b : Int) 32) fun un_1 => Option.bind (gauge_far N) fun r_3 => some (!(((L (b : Int).toNat).cost) == r_3.cost && ((L (b : Int).toNat).points) == r_3.points))) (some false)) _ = _
  cases stepB s a b with
  | false => rfl
  | true =>
   unfold gauge_far
   rw [cond_true,ib,Option.bind_some,Option.bind_some,Int.toNat_natCast]
   show Option.bind (some (!((L b).cost == (farS).cost && (L b).points == (farS).points))) _ = _
   rw [far_beq,Option.bind_some,Bool.true_and]
 rw [hbody]
 have hskip : (∀ q,¬ Seg (stepB s) a (b::q) (s.Points.length + 1)) → Inn s a (b + 1) L mp o := fun hk => ⟨hd_skip hi.hd hk,hi.no,hi.yes,hi.rest⟩
 cases hst : stepB s a b with
 | false =>
  refine ⟨L,mp,o,rfl,hskip fun q hs => ?_⟩
  have := hs.1.2
  rw [hst] at this
  cases this
 | true =>
  rcases hfb with ⟨q,hq,hLb,hmp⟩ | ⟨hno,hLb⟩
  ·have hfar := spOf_far h hq.1
   rw [hLb,dF hfar.1,Bool.true_and,Bool.not_false,cond_true,better_spec hN h (by omega) hb hbd,Option.bind_some]
   have hup : upS s L b = spOf s (b::q) := by
    unfold upS
    rw [hLb]
    by_cases hbn : b ≤ s.Points.length
    ·rw [if_pos hbn]
     cases q with
     | nil =>
      have : b = s.Points.length + 1 := hq.1
      omega
     | cons y r =>
      rw [spent_ext]
      refine ⟨?_,?_⟩
      ·show pc (cst s) (y::r) + cst s b = cst s b + pc (cst s) (y::r)
       omega
      ·show (((y::r).length - 1 : Nat) : Int) + 1 = (((b::y::r).length - 1 : Nat) : Int)
       simp only [List.length_cons]
       omega
    ·rw [if_neg hbn]
     have e : b = s.Points.length + 1 := by omega
     subst e
     have eq := best_uniq hq best_self
     subst eq
     rw [spent_ext]
     refine ⟨?_,rfl⟩
     show (0 : Int) = cst s (s.Points.length + 1) + 0
     rw [cst_end]
     rfl
   have hlt : ∀ r,o = some r → (ltS (spOf s (b::q)) (L a) ↔ (pc (cst s) (b::q) < pc (cst s) r ∨ pc (cst s) (b::q) = pc (cst s) r ∧ (b::q).length < r.length)) := by
    intro r hr
    obtain ⟨x,r0,hx,-⟩ : ∃ x r0,r = x::r0 ∧ x < b := by
     have := hi.hd
     rw [hr] at this
     exact this.1
    rw [(hi.yes r hr).1]
    unfold ltS spOf
    show (pc (cst s) (b::q) < pc (cst s) r ∨ pc (cst s) (b::q) = pc (cst s) r ∧ (((b::q).length - 1 : Nat) : Int) < ((r.length - 1 : Nat) : Int)) ↔ _
    rw [hx]
    simp only [List.length_cons]
    omega
   have hrest : ∀ x : gauge_spent,∀ m,∀ k,a < k → k ≤ s.Points.length + 1 → Fin' s (setF L a x) (setM (setM mp (a : Int) m) (a : Int) (b : Int)) k := by
    intro x m k hk1 hk2
    have e1 : setF L a x k = L k := setF_ne (by omega)
    have e2 : setM (setM mp (a : Int) m) (a : Int) (b : Int) (k : Int) = mp (k : Int) := by
     unfold setM
     rw [if_neg (by omega),if_neg (by omega)]
    unfold Fin'
    rw [e1,e2]
    exact hi.rest k hk1 hk2
   have hnew : newB s L a b = true → (∀ r,o = some r → pc (cst s) (b::q) < pc (cst s) r ∨ pc (cst s) (b::q) = pc (cst s) r ∧ (b::q).length < r.length) := by
    intro hnb r hr
    unfold newB at hnb
    rw [hup,Bool.or_eq_true,decide_eq_true_eq,decide_eq_true_eq] at hnb
    rcases hnb with hnb | hnb
    ·exact (hlt r hr).1 hnb
    ·have h3 := hi.hd
     rw [hr] at h3
     have := (hi.yes r hr).1
     rw [hnb] at this
     exact absurd this.symm (spOf_far h h3.2.1).1
   cases hnb : newB s L a b with
   | true =>
    rw [cond_true]
    refine ⟨_,_,some (b::q),rfl,hd_new hi.hd ha hst hq (hnew hnb),fun hh => (by cases hh),fun q' hq' => ?_,hrest _ _⟩
    obtain rfl := Option.some.inj hq'
    refine ⟨by show setF L a (upS s L b) a = _; rw [setF_self,hup],fun x r hx => ?_⟩
    obtain ⟨rfl,-⟩ := List.cons.inj hx
    show (setM (setM mp (a : Int) _) (a : Int) (b : Int)) (a : Int) = _
    unfold setM
    rw [if_pos rfl]
   | false =>
    rw [cond_false]
    have hnb' := hnb
    unfold newB at hnb'
    rw [hup,Bool.or_eq_false_iff,decide_eq_false_iff_not,decide_eq_false_iff_not] at hnb'
    cases ho : o with
    | none => exact absurd (hi.no ho) hnb'.2
    | some r =>
     have h3 := hi.hd
     rw [ho] at h3
     refine ⟨L,mp,some r,rfl,hd_keep h3 hq fun hh => hnb'.1 ((hlt r ho).2 hh),fun hh => (by cases hh),fun q' hq' => ?_,hi.rest⟩
     exact hi.yes q' (by rw [ho]; exact hq')
  ·rw [hLb,dT rfl]
   refine ⟨L,mp,o,rfl,hskip fun q hs => hno q hs.2⟩
theorem inner_loop {N : Nat} (hN : 100 ≤ N) {s : gauge_Site} (h : SiOk s) {a : Nat} (ha : a ≤ s.Points.length) {L : Nat → gauge_spent} {mp : Int → Option Int} (hrest : ∀ k,a < k → k ≤ s.Points.length + 1 → Fin' s L mp k) :
  ∃ b L' mp',loopO (fun s18 => gauge_opened_b18 N s (a : Int) s18.1 s18.2.1 s18.2.2) N (((a + 1 : Nat) : Int),setF L a farS,mp) = some (.go (b,L',mp')) ∧ ∀ k,a ≤ k → k ≤ s.Points.length + 1 → Fin' s L' mp' k := by
 have hn := h.n
 obtain ⟨s',h1,h2⟩ := loopInv (fun s18 : Int × (Nat → gauge_spent) × (Int → Option Int) => gauge_opened_b18 N s (a : Int) s18.1 s18.2.1 s18.2.2)
  (fun i st => st.1 = ((a + 1 + i : Nat) : Int) ∧ ∃ o,Inn s a (a + 1 + i) st.2.1 st.2.2 o) (s.Points.length + 1 - a) (by
  rintro i ⟨b',L1,mp1⟩ hi ⟨k1,o,k2⟩
  simp only at k1 k2
  subst k1
  obtain ⟨L2,mp2,o2,e1,e2⟩ := inner_step hN h (show a < a + 1 + i by omega) (by omega) k2
  exact ⟨_,e1,rfl,o2,e2⟩) (by
  rintro ⟨b',L1,mp1⟩ ⟨k1,-⟩
  simp only at k1
  subst k1
  show gauge_opened_b18 N s (a : Int) _ L1 mp1 = _
  unfold gauge_opened_b18
  rw [W_sm (by omega) (by omega),dF (by omega),cond_false]) (s.Points.length + 1 - a) 0 (((a + 1 : Nat) : Int),setF L a farS,mp) N (by omega) (by omega)
  ⟨rfl,none,⟨hd_zero,fun _ => setF_self _ _ _,fun q hq => (by cases hq),fun k hk1 hk2 => by
   show Fin' s (setF L a farS) mp k
   unfold Fin'
   rw [show setF L a farS k = L k from setF_ne (by omega)]
   exact hrest k hk1 hk2⟩⟩
 obtain ⟨b',L1,mp1⟩ := s'
 obtain ⟨k1,o,k2⟩ := h2
 refine ⟨b',L1,mp1,h1,fun k hk1 hk2 => ?_⟩
 by_cases e : k = a
 ·subst e
  rw [show k + 1 + (s.Points.length + 1 - k) = s.Points.length + 1 + 1 by omega] at k2
  cases o with
  | none => exact .inr ⟨hd_none k2.hd (by omega),k2.no rfl⟩
  | some q => exact .inl ⟨q,hd_end k2.hd (by omega),(k2.yes q rfl).1,(k2.yes q rfl).2⟩
 ·exact k2.rest k (by omega) hk2
theorem opened_spec {N : Nat} (hN : 100 ≤ N) {s : gauge_Site} (h : SiOk s) (hc : chkS s = 0) : ∃ L mp,gauge_opened N s = some (.inr (s.Left,s.Right,s.Gap,s.Step_,L,mp,0)) ∧ ∀ k,k ≤ s.Points.length + 1 → Fin' s L mp k := by
 have hn := h.n
 obtain ⟨s',h1,h2⟩ := loopInv (fun s10 : Int × (Nat → gauge_spent) × (Int → Option Int) => gauge_opened_b10 N s s10.1 s10.2.1 s10.2.2)
  (fun i st => st.1 = ((s.Points.length : Nat) : Int) - (i : Int) ∧ ∀ k,s.Points.length + 1 ≤ k + i → k ≤ s.Points.length + 1 → Fin' s st.2.1 st.2.2 k) (s.Points.length + 1) (by
  rintro i ⟨a',L1,mp1⟩ hi ⟨k1,k2⟩
  simp only at k1 k2
  subst k1
  obtain ⟨a,ha⟩ : ∃ a : Nat,((s.Points.length : Nat) : Int) - (i : Int) = (a : Int) := ⟨s.Points.length - i,by omega⟩
  obtain ⟨b,L2,mp2,e1,e2⟩ := inner_loop hN h (a := a) (by omega) (L := L1) (mp := mp1) fun k hk1 hk2 => k2 k (by omega) hk2
  refine ⟨(((s.Points.length : Nat) : Int) - ((i + 1 : Nat) : Int),L2,mp2),?_,rfl,fun k hk1 hk2 => e2 k (by omega) hk2⟩
  show gauge_opened_b10 N s (((s.Points.length : Nat) : Int) - (i : Int)) L1 mp1 = _
  unfold gauge_opened_b10 gauge_far
  rw [ha,dT (by omega),cond_true,Option.bind_some,show inR (a : Int) 32 = some () from by unfold inR; rw [if_pos (by omega)],Option.bind_some,Int.toNat_natCast,W_succ (by omega)]
  show Option.bind (loopO _ N (((a + 1 : Nat) : Int),setF L1 a farS,mp1)) _ = _
  rw [e1,Option.bind_some,W_sm (by omega) (by omega),show (a : Int) - 1 = ((s.Points.length : Nat) : Int) - ((i + 1 : Nat) : Int) by omega]
  rfl) (by
  rintro ⟨a',L1,mp1⟩ ⟨k1,-⟩
  simp only at k1
  subst k1
  show gauge_opened_b10 N s _ L1 mp1 = _
  unfold gauge_opened_b10
  rw [dF (by omega),cond_false]) (s.Points.length + 1) 0 (((s.Points.length : Nat) : Int),(fun _ => (⟨0,0⟩ : gauge_spent)),(fun _ => none : Int → Option Int)) N (by omega) (by omega)
  ⟨by simp,fun k hk1 hk2 => by
   have e : k = s.Points.length + 1 := by omega
   subst e
   exact .inl ⟨[],best_self,rfl,fun x r hx => (by cases hx)⟩⟩
 obtain ⟨a',L1,mp1⟩ := s'
 refine ⟨L1,mp1,?_,fun k hk => h2.2 k (by omega) hk⟩
 unfold gauge_opened
 rw [check_spec hN (by omega),Option.bind_some,hc]
 show Option.bind (loopO _ N (W (W (((s.Points.length : Nat) : Int) + 1) - 1),(fun _ => (⟨0,0⟩ : gauge_spent)),(fun _ => none : Int → Option Int))) _ = _
 rw [W_sm (n := ((s.Points.length : Nat) : Int) + 1) (by omega) (by omega),W_sm (by omega) (by omega),show ((s.Points.length : Nat) : Int) + 1 - 1 = ((s.Points.length : Nat) : Int) by omega,h1]
 rfl
theorem opened_err {N : Nat} (hN : 100 ≤ N) {s : gauge_Site} (hs : s.Points.length ≤ 40) (hc : chkS s ≠ 0) : gauge_opened N s = some (.inl (chkS s)) := by
 unfold gauge_opened
 rw [check_spec hN hs,Option.bind_some,show (chkS s != 0) = true from bne_iff_ne.2 hc,cond_true]
theorem follow_spec {s : gauge_Site} (h : SiOk s) {L : Nat → gauge_spent} {mp : Int → Option Int} (hf : ∀ k,k ≤ s.Points.length + 1 → Fin' s L mp k) :
  ∀ (q : List Nat) (a : Nat) (out : List Int) (M : Nat),Best (stepB s) (cst s) a q (s.Points.length + 1) → a ≤ s.Points.length → out.length + q.length ≤ 100 → q.length < M → gauge_Plan_1 M (a : Int) ⟨s,L,mp⟩ s out = some (out ++ ci q.dropLast)
 | [],a,out,M,hb,ha,_,_ => by have : a = s.Points.length + 1 := hb.1; omega
 | x::r,a,out,0,_,_,_,hM => by simp at hM
 | x::r,a,out,M + 1,hb,ha,hl,hM => by
  have hmp : mp (a : Int) = some (x : Int) := by
   rcases hf a (by omega) with ⟨q,h1,-,h3⟩ | ⟨hno,-⟩
   ·obtain rfl := best_uniq h1 hb
    exact h3 x r rfl
   ·exact absurd hb.1 (hno _)
  have hxm := (seg_mem hb.1 x List.mem_cons_self).2
  unfold gauge_Plan_1
  show cond (decide (((mp (a : Int)).getD 0) ≤ ((s.Points.length : Nat) : Int))) (Option.bind (room (out ++ [(mp (a : Int)).getD 0]).length) fun un => Option.bind (gauge_Plan_1 M ((mp (a : Int)).getD 0) ⟨s,L,mp⟩ s (out ++ [(mp (a : Int)).getD 0])) fun r => some r) (some out) = _
  rw [hmp]
  show cond (decide ((x : Int) ≤ ((s.Points.length : Nat) : Int))) (Option.bind (room (out ++ [(x : Int)]).length) fun un => Option.bind (gauge_Plan_1 M (x : Int) ⟨s,L,mp⟩ s (out ++ [(x : Int)])) fun r => some r) (some out) = _
  cases r with
  | nil =>
   have : x = s.Points.length + 1 := hb.1.2
   rw [dF (by omega),cond_false]
   simp [ci]
  | cons y r =>
   have hxl : x ≤ s.Points.length := by
    have := seg_le hb.1.2
    simp only [List.length_cons] at this
    omega
   simp only [List.length_cons] at hl hM
   rw [dT (by omega),cond_true,room_ok (by simp; omega),Option.bind_some,follow_spec h hf (y::r) x (out ++ [(x : Int)]) M (best_tail hb) hxl (by simp only [List.length_append,List.length_cons,List.length_nil]; omega) (by simp only [List.length_cons]; omega),Option.bind_some]
   simp [ci,List.dropLast]
theorem plan_spec {N : Nat} (hN : 100 ≤ N) {s : gauge_Site} (hs : s.Points.length ≤ 40) :
  (chkS s ≠ 0 ∧ gauge_Plan N s = some ([],0,chkS s)) ∨ (chkS s = 0 ∧ ((∃ q,Best (stepB s) (cst s) 0 q (s.Points.length + 1) ∧ gauge_Plan N s = some (ci q.dropLast,pc (cst s) q,0)) ∨ ((∀ q,¬ Seg (stepB s) 0 q (s.Points.length + 1)) ∧ gauge_Plan N s = some ([],0,5)))) := by
 by_cases hc : chkS s = 0
 ·right
  have h := chk_ok hc
  refine ⟨hc,?_⟩
  obtain ⟨L,mp,e,hf⟩ := opened_spec hN h hc
  have hstart : gauge_Plan N s = cond (decide (L 0 = farS)) (some ([],0,5)) (Option.bind (gauge_Plan_1 N 0 ⟨s,L,mp⟩ s []) fun r_3 => some (r_3,(L 0).cost,0)) := by
   unfold gauge_Plan
   rw [e,Option.bind_some]
   show cond ((0 : Int) != 0) _ (Option.bind (inR 0 32) _) = _
   rw [bne_self_eq_false,cond_false]
   unfold gauge_far
   rw [show inR 0 32 = some () from rfl,Option.bind_some,Option.bind_some]
   show cond ((L 0).cost == (farS).cost && (L 0).points == (farS).points) _ _ = _
   rw [far_beq]
   rfl
  rw [hstart]
  rcases hf 0 (by omega) with ⟨q,h1,h2,-⟩ | ⟨hno,h2⟩
  ·left
   refine ⟨q,h1,?_⟩
   have hsb := seg_bd h1.1
   have hn := h.n
   rw [h2,dF (spOf_far h h1.1).1,cond_false]
   show Option.bind (gauge_Plan_1 N ((0 : Nat) : Int) ⟨s,L,mp⟩ s []) _ = _
   rw [follow_spec h hf q 0 [] N h1 (by omega) (by simp; omega) (by omega)]
   rfl
  ·right
   refine ⟨hno,?_⟩
   rw [h2,dT rfl,cond_true]
 ·left
  refine ⟨hc,?_⟩
  unfold gauge_Plan
  rw [opened_err hN hs hc,Option.bind_some]
  show cond (chkS s != 0) _ _ = _
  rw [show (chkS s != 0) = true from bne_iff_ne.2 hc,cond_true]
end Go.Nilo
