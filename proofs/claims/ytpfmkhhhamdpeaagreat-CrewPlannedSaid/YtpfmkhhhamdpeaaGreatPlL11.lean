/-
  What the plain functions compute, in plain arithmetic, part 11. Conditions: what each theorem names.
-/
import Derived.Test.YtpfmkhhhamdpeaaGreatPlL10
set_option linter.unusedSimpArgs false
set_option linter.unusedVariables false
namespace Go.Nilo
structure Ls (f : api_Span → Int) (v w : crew_Visit) : Prop where
 way : f v.Way = f w.Way
 op : v.Open = w.Open
 wk : f v.Work ≤ f w.Work
inductive Al2 {α β : Type} (R : α → β → Prop) : List α → List β → Prop where
 | nil : Al2 R [] []
 | cons {a : α} {b : β} {l : List α} {m : List β} : R a b → Al2 R l m → Al2 R (a::l) (b::m)
theorem all2_of {α : Type} {R : α → α → Prop} {d : α} : ∀ {l m : List α},l.length = m.length → (∀ i,i < l.length → R (l.getD i d) (m.getD i d)) → Al2 R l m
 | [],[],_,_ => .nil
 | a::l,b::m,h,hR => .cons (by simpa [List.getD] using hR 0 (by simp)) (all2_of (d := d) (by simpa using h) fun i hi => by
   have := hR (i + 1) (by simp only [List.length_cons]; omega)
   simpa [List.getD] using this)
theorem bg_rel {f : api_Span → Int} : ∀ {l m : List crew_Visit} {s t : Int},Al2 (Ls f) l m → s ≤ t → ∀ i,(bg f s l).getD i 0 ≤ (bg f t m).getD i 0
 | _,_,s,t,.nil,_,i => by simp [bg]
 | _,_,s,t,.cons (a := v) (b := w) (l := l) (m := m) hr hl,h,i => by
  have h1 : bgn f s v ≤ bgn f t w := by
   have := hr.way
   have := hr.op
   unfold bgn
   omega
  have h2 := hr.wk
  cases i with
  | zero => exact h1
  | succ i =>
   have := bg_rel hl (s := bgn f s v + f v.Work) (t := bgn f t w + f w.Work) (by omega) i
   simpa [bg,List.getD] using this
theorem inT_anti {l : List crew_Visit} {s t : Int} (h : s ≤ t) (ht : inT t l) : inT s l := by
 obtain ⟨B,h1,h2⟩ := inT_iff.1 ht
 exact inT_iff.2 ⟨B,h1,by omega⟩
theorem inT_rel : ∀ {l m : List crew_Visit} {s : Int},Al2 (fun v w => Ls api_Span.Hi v w ∧ v.Close = w.Close) l m → inT s m → inT s l
 | _,_,s,.nil,h => h
 | _,_,s,.cons (a := v) (b := w) (l := l) (m := m) hr hl,h => by
  obtain ⟨h1,h2⟩ := h
  have e : bgn api_Span.Hi s v = bgn api_Span.Hi s w := by
   have := hr.1.way
   have := hr.1.op
   unfold bgn
   omega
  have hw := hr.1.wk
  refine ⟨by rw [e,hr.2]; exact h1,?_⟩
  rw [e]
  exact inT_anti (by show bgn api_Span.Hi s w + v.Work.Hi ≤ bgn api_Span.Hi s w + w.Work.Hi; omega) (inT_rel hl h2)
structure Mine (s : gauge_Site) (mine : List Int) : Prop where
 ok : (costR s mine).2 = 0
 len : mine.length ≤ 8
theorem few_step {N : Nat} (hN : 100 ≤ N) {s : gauge_Site} (h : Made s) {r11 : gauge_Site × Int × Int} (hs : s = ⟨r11.1.Left,r11.1.Right,50,100,r11.1.Points⟩) {others : List Int} (hb : Bytes others) {mine : List Int} {k : Nat} {u m : Int} {j : Nat} (hj : j ≤ 10000) (hm : Mine s mine) (hk : k < mine.length) (hso : SOk u m j) :
  ∃ mine' u' m',law11_CrewPlanned_b40 N others r11 mine (k : Int) u m = some (.cont (mine',(k : Int) - 1,u',m')) ∧ Mine s mine' ∧ mine.length ≤ mine'.length + 1 ∧ SOk u' m' (j + 1) := by
 have hl := hm.len
 have hn := h.n
 have hdel : slices_Delete_Lint_int N mine (k : Int) ((k + 1 : Nat) : Int) = some (mine.take k ++ mine.drop (k + 1)) := by
  unfold slices_Delete_Lint_int delO
  rw [if_pos (by omega),Int.toNat_natCast,Int.toNat_natCast]
 have hfl : (mine.take k ++ mine.drop (k + 1)).length = mine.length - 1 := by simp; omega
 unfold law11_CrewPlanned_b40 law11_CrewPlanned_j47
 rw [dT (by omega),cond_true]
 unfold kit_Copy_int
 rw [room_ok (by omega),Option.bind_some,Option.bind_some,W_succ (by omega),hdel,Option.bind_some,← hs,cost_spec hN (by omega) (by omega),Option.bind_some,W_sm (n := (k : Int) - 1) (by omega) (by omega)]
 by_cases hc : (costR s (mine.take k ++ mine.drop (k + 1))).2 = 0
 ·obtain ⟨a,u1,m1,e1,a0,a1,s1⟩ := next_spec (N := N) hb (n := 2) hso (by omega)
  rw [hc,beq_self_eq_true,cond_true,e1,Option.bind_some,Option.bind_some]
  show ∃ mine' u' m',cond (a == 0) _ _ = _ ∧ _
  cases a == 0 with
  | true => exact ⟨_,u1,m1,rfl,⟨hc,by omega⟩,by omega,s1⟩
  | false => exact ⟨mine,u1,m1,rfl,hm,by omega,s1⟩
 ·rw [show ((costR s (mine.take k ++ mine.drop (k + 1))).2 == 0) = false from beq_eq_false_iff_ne.2 hc,cond_false,Option.bind_some]
  exact ⟨mine,u,m,rfl,hm,by omega,hso.mono' (by omega)⟩
theorem few_loop {N : Nat} (hN : 100 ≤ N) {s : gauge_Site} (h : Made s) {r11 : gauge_Site × Int × Int} (hs : s = ⟨r11.1.Left,r11.1.Right,50,100,r11.1.Points⟩) {others : List Int} (hb : Bytes others) {mine : List Int} {u m : Int} {j : Nat} (hj : j ≤ 9000) (hm : Mine s mine) (hso : SOk u m j) :
  ∃ mine' k u' m',loopO (fun s40 => law11_CrewPlanned_b40 N others r11 s40.1 s40.2.1 s40.2.2.1 s40.2.2.2) N (mine,((mine.length : Nat) : Int) - 1,u,m) = some (.go (mine',k,u',m')) ∧ Mine s mine' ∧ SOk u' m' (j + 8) := by
 have hl := hm.len
 obtain ⟨s',h1,h2⟩ := loopInv (fun s40 : List Int × Int × Int × Int => law11_CrewPlanned_b40 N others r11 s40.1 s40.2.1 s40.2.2.1 s40.2.2.2)
  (fun i st => st.2.1 = ((mine.length : Nat) : Int) - 1 - (i : Int) ∧ Mine s st.1 ∧ mine.length ≤ st.1.length + i ∧ SOk st.2.2.1 st.2.2.2 (j + i)) mine.length (by
  rintro i ⟨mn,k,u1,m1⟩ hi ⟨k1,k2,k3,k4⟩
  simp only at k1 k2 k3 k4
  subst k1
  obtain ⟨mn',u2,m2,e1,e2,e3,e4⟩ := few_step hN h hs hb (k := mine.length - 1 - i) (by omega) k2 (by omega) k4
  rw [show (((mine.length - 1 - i : Nat) : Int)) = ((mine.length : Nat) : Int) - 1 - (i : Int) by omega] at e1
  exact ⟨_,e1,by show ((mine.length : Nat) : Int) - 1 - (i : Int) - 1 = ((mine.length : Nat) : Int) - 1 - ((i + 1 : Nat) : Int); omega,e2,by show mine.length ≤ mn'.length + (i + 1); omega,e4⟩) (by
  rintro ⟨mn,k,u1,m1⟩ ⟨k1,-⟩
  simp only at k1
  subst k1
  show law11_CrewPlanned_b40 N others r11 mn (((mine.length : Nat) : Int) - 1 - ((mine.length : Nat) : Int)) u1 m1 = _
  unfold law11_CrewPlanned_b40
  rw [dF (by omega),cond_false]) mine.length 0 (mine,((mine.length : Nat) : Int) - 1,u,m) N (by omega) (by omega) ⟨by simp,hm,by show mine.length ≤ mine.length + 0; omega,hso⟩
 obtain ⟨mn,k,u1,m1⟩ := s'
 exact ⟨mn,k,u1,m1,h1,h2.2.1,h2.2.2.2.mono' (by omega)⟩
theorem mine_loop {N : Nat} (hN : 100 ≤ N) {r11 : gauge_Site × Int × Int} (hn : r11.1.Points.length ≤ 8) : loopO (fun s37 => law11_CrewPlanned_b37 N r11 s37.1 s37.2) N (([] : List Int),0) = some (.go (allP r11.1.Points.length,((r11.1.Points.length : Nat) : Int))) := by
 have := runS (ρ := Step (List crew_Visit × List crew_Visit × Int × Int × Int × Int × Int) Bool) (fun i : Nat => (allP i,(i : Int))) r11.1.Points.length (fun s37 => law11_CrewPlanned_b37 N r11 s37.1 s37.2) (fun i hi => by
  show law11_CrewPlanned_b37 N r11 (allP i) (i : Int) = _
  unfold law11_CrewPlanned_b37
  have e : allP i ++ [((i + 1 : Nat) : Int)] = allP (i + 1) := by
   unfold allP
   rw [List.range'_concat,ci_app,Nat.one_mul,Nat.add_comm 1 i]
   rfl
  rw [lt_dec hi,cond_true,W_succ (by omega),e,room_ok (by simp [allP,ci]; omega),Option.bind_some]) (by
  show law11_CrewPlanned_b37 N r11 _ (r11.1.Points.length : Int) = _
  unfold law11_CrewPlanned_b37
  rw [ge_dec,cond_false]) (N := N) (by omega)
 exact this
def v0 : crew_Visit := ⟨⟨0,0⟩,⟨0,0⟩,0,0⟩
structure Pl (l tour slow : List crew_Visit) (i : Nat) : Prop where
 lt : tour.length = l.length
 ls : slow.length = l.length
 done : ∀ j,j < i → ∃ n m : Int,(0 ≤ n ∧ n ≤ m ∧ m ≤ 1000) ∧ tour.getD j v0 = ⟨(l.getD j v0).Way,⟨n,n⟩,(l.getD j v0).Open,(l.getD j v0).Close⟩ ∧ slow.getD j v0 = ⟨(l.getD j v0).Way,⟨m,m⟩,(l.getD j v0).Open,(l.getD j v0).Close⟩
 todo : ∀ j,i ≤ j → tour.getD j v0 = l.getD j v0 ∧ slow.getD j v0 = l.getD j v0
theorem gset_self {α : Type} {l : List α} {i : Nat} {v d : α} (h : i < l.length) : (l.set i v).getD i d = v := by simp [List.getD,h]
theorem gset_ne {α : Type} {l : List α} {i j : Nat} {v d : α} (h : i ≠ j) : (l.set i v).getD j d = l.getD j d := by simp [List.getD,List.getElem?_set_ne h]
theorem plan_step {N : Nat} (hN : 100 ≤ N) {numbers others : List Int} (hb : Bytes numbers) (ho : Bytes others) {r2 : List crew_Visit × Int × Int} {tour slow : List crew_Visit} {i : Nat} (h10 : r2.1.length ≤ 10) (hi : i < r2.1.length) (hp : Pl r2.1 tour slow i) {u m a b : Int} {k j : Nat} (hk : k ≤ 9000) (hj : j ≤ 8000) (hs : SOk u m k) (hq : SOk a b j) :
  ∃ tour' slow' u' m' a' b',law11_CrewPlanned_b7 N numbers others r2 tour slow (i : Int) u m a b = some (.cont (tour',slow',((i + 1 : Nat) : Int),u',m',a',b')) ∧ Pl r2.1 tour' slow' (i + 1) ∧ SOk u' m' (k + 40) ∧ SOk a' b' (j + 8) := by
 obtain ⟨x,u1,m1,e1,s1,hM⟩ := sited_spec hN hb (by omega) hs
 have hMn : x.Points.length ≤ 8 := hM.n
 have hlt := hp.lt
 have hls := hp.ls
 obtain ⟨mn,kk,a1,b1,f1,f2,q1⟩ := few_loop hN hM (r11 := (x,u1,m1)) rfl ho (mine := allP x.Points.length) (by omega) ⟨allP_ok hM,by simp [allP,ci]; exact hMn⟩ hq
 obtain ⟨c,hc⟩ : ∃ c,costR ⟨x.Left,x.Right,50,100,x.Points⟩ mn = (c,0) := ⟨_,Prod.ext rfl f2.ok⟩
 obtain ⟨w,hw,rfl⟩ := cost_way hM hc
 have hwb := seg_bd hw
 have hwc := hM.pc hwb.1
 have hn8 : (⟨x.Left,x.Right,50,100,x.Points⟩ : gauge_Site).Points.length ≤ 8 := hMn
 rcases plan_spec hN (s := ⟨x.Left,x.Right,50,100,x.Points⟩) (by omega) with ⟨d1,-⟩ | ⟨-,⟨q,d1,d2⟩ | ⟨d1,-⟩⟩
 ·exact absurd hM.chk d1
 ·have hqb := seg_bd d1.1
  have hqc := hM.pc hqb.1
  have hle : Go.Nilo.pc (Go.Nilo.cst ⟨x.Left,x.Right,50,100,x.Points⟩) q ≤ Go.Nilo.pc (Go.Nilo.cst ⟨x.Left,x.Right,50,100,x.Points⟩) w := by
   have := d1.2 w hw
   have h3 : ¬ (Go.Nilo.pc (Go.Nilo.cst ⟨x.Left,x.Right,50,100,x.Points⟩) w < Go.Nilo.pc (Go.Nilo.cst ⟨x.Left,x.Right,50,100,x.Points⟩) q) := fun hh => this (.inl hh)
   omega
  generalize hP : Go.Nilo.pc (Go.Nilo.cst ⟨x.Left,x.Right,50,100,x.Points⟩) q = P at *
  generalize hQ : Go.Nilo.pc (Go.Nilo.cst ⟨x.Left,x.Right,50,100,x.Points⟩) w = Q at *
  refine ⟨tour.set i ⟨(tour.getD i v0).Way,⟨P,P⟩,(tour.getD i v0).Open,(tour.getD i v0).Close⟩,slow.set i ⟨(slow.getD i v0).Way,⟨Q,Q⟩,(slow.getD i v0).Open,(slow.getD i v0).Close⟩,u1,m1,a1,b1,?_,⟨by simp [hlt],by simp [hls],fun j' hj' => ?_,fun j' hj' => ?_⟩,s1,q1⟩
  ·unfold law11_CrewPlanned_b7
   rw [lt_dec hi,cond_true,e1,Option.bind_some]
   show Option.bind (gauge_Plan N ⟨x.Left,x.Right,50,100,x.Points⟩) _ = _
   rw [d2,Option.bind_some,mine_loop hN (r11 := (x,u1,m1)) hMn,Option.bind_some]
   show Option.bind (loopO _ N (allP x.Points.length,W (((allP x.Points.length).length : Int) - 1),a,b)) _ = _
   have hal : (allP x.Points.length).length = x.Points.length := by simp [allP,ci]
   rw [W_sm (by rw [hal]; omega) (by rw [hal]; omega),f1,Option.bind_some]
   show Option.bind (gauge_Cost N ⟨x.Left,x.Right,50,100,x.Points⟩ mn) _ = _
   rw [cost_spec hN (by omega) (by have := f2.len; omega),hc,Option.bind_some]
   show cond (((((0 : Int) != 0) || ((0 : Int) != 0)) || (decide (Q < P))) || (decide (P < 0))) _ _ = _
   rw [dF (show ¬ Q < P by omega),dF (show ¬ P < 0 by omega),bne_self_eq_false,Bool.or_false,Bool.or_false,Bool.or_false,cond_false]
   show Option.bind (law11_span N P P) (fun r_14 => Option.bind (law11_span N Q Q) fun r_15 => Option.bind (getI tour (i : Int)) fun e_5 => Option.bind (getI slow (i : Int)) _) = _
   unfold law11_span
   rw [Option.bind_some,Option.bind_some,getI_d v0 (by omega),Option.bind_some,getI_d v0 (by omega),Option.bind_some,Int.toNat_natCast,W_succ (by omega)]
  ·by_cases e : j' = i
   ·subst e
    rw [gset_self (by omega),gset_self (by omega),(hp.todo j' (Nat.le_refl _)).1,(hp.todo j' (Nat.le_refl _)).2]
    exact ⟨P,Q,⟨by omega,hle,by omega⟩,rfl,rfl⟩
   ·rw [gset_ne (by omega),gset_ne (by omega)]
    exact hp.done j' (by omega)
  ·rw [gset_ne (by omega),gset_ne (by omega)]
   exact hp.todo j' (by omega)
 ·exact absurd hw (d1 w)
theorem crewplanned_law {numbers others : List Int} {at_ : Int} (hb : Bytes numbers) (ho : Bytes others) (ha : 0 ≤ at_ ∧ at_ ≤ 255) : law11_CrewPlanned 700 numbers others at_ = some true := by
 have hN : 100 ≤ 700 := by omega
 obtain ⟨l,u,m,k,e0,s0,k0,hl,l1,l5⟩ := toured_spec (N := 700) (by omega) hb (u := 0) (m := 0) (k := 0) (by omega) ⟨by omega,by omega,by omega,by omega⟩ (most := 5) (by omega) (by omega)
 obtain ⟨s',h1,h2⟩ := loopInv (fun s7 : List crew_Visit × List crew_Visit × Int × Int × Int × Int × Int => law11_CrewPlanned_b7 700 numbers others (l,u,m) s7.1 s7.2.1 s7.2.2.1 s7.2.2.2.1 s7.2.2.2.2.1 s7.2.2.2.2.2.1 s7.2.2.2.2.2.2)
  (fun i st => st.2.2.1 = (i : Int) ∧ Pl l st.1 st.2.1 i ∧ SOk st.2.2.2.1 st.2.2.2.2.1 (k + 40 * i) ∧ SOk st.2.2.2.2.2.1 st.2.2.2.2.2.2 (8 * i)) l.length (by
  rintro i ⟨tour,slow,x,u1,m1,a,b⟩ hi ⟨k1,k2,k3,k4⟩
  simp only at k1 k2 k3 k4
  subst k1
  obtain ⟨t',w',u2,m2,a2,b2,f1,f2,f3,f4⟩ := plan_step hN hb ho (r2 := (l,u,m)) (by show l.length ≤ 10; omega) hi k2 (by omega) (by omega) k3 k4
  exact ⟨_,f1,rfl,f2,f3.mono' (by omega),f4.mono' (by omega)⟩) (by
  rintro ⟨tour,slow,x,u1,m1,a,b⟩ ⟨k1,-⟩
  simp only at k1
  subst k1
  show law11_CrewPlanned_b7 700 numbers others (l,u,m) tour slow (l.length : Int) u1 m1 a b = _
  unfold law11_CrewPlanned_b7
  show cond (decide ((l.length : Int) < ((l.length : Nat) : Int))) _ _ = _
  rw [ge_dec,cond_false]) l.length 0 (l,l,0,u,m,0,0) 700 (by omega) (by omega)
  ⟨rfl,⟨rfl,rfl,fun j hj => absurd hj (Nat.not_lt_zero _),fun j _ => ⟨rfl,rfl⟩⟩,s0,⟨by show (0 : Int) ≤ 0; omega,by show (0 : Int) ≤ _; omega,by show (0 : Int) ≤ 0; omega,by show (0 : Int) ≤ 250; omega⟩⟩
 obtain ⟨tour,slow,x,u1,m1,a,b⟩ := s'
 obtain ⟨-,hp,-,-⟩ := h2
 simp only at hp
 have hlt := hp.lt
 have hls := hp.ls
 have hvl : ∀ j,j < l.length → VOk (l.getD j v0) := fun j hj => by rw [← get_getD hj]; exact hl _ (List.getElem_mem hj)
 have hT : ∀ v ∈ tour,VOk v := fun v hv => by
  obtain ⟨j,hj,rfl⟩ := List.getElem_of_mem hv
  rw [get_getD (d := v0)]
  obtain ⟨n,m',hn,e1,-⟩ := hp.done j (by omega)
  rw [e1]
  have := hvl j (by omega)
  exact ⟨this.w0,this.w1,this.w2,hn.1,Int.le_refl _,by show n ≤ 100000; omega,this.o0,this.o1,this.o2⟩
 have hS : ∀ v ∈ slow,VOk v := fun v hv => by
  obtain ⟨j,hj,rfl⟩ := List.getElem_of_mem hv
  rw [get_getD (d := v0)]
  obtain ⟨n,m',hn,-,e1⟩ := hp.done j (by omega)
  rw [e1]
  have := hvl j (by omega)
  exact ⟨this.w0,this.w1,this.w2,by show 0 ≤ m'; omega,Int.le_refl _,by show m' ≤ 100000; omega,this.o0,this.o1,this.o2⟩
 have hrel : ∀ f : api_Span → Int,(∀ n : Int,f ⟨n,n⟩ = n) → Al2 (fun v w => Ls f v w ∧ v.Close = w.Close) tour slow := fun f hf => all2_of (d := v0) (by omega) fun j hj => by
  obtain ⟨n,m',hn,e1,e2⟩ := hp.done j (by omega)
  rw [e1,e2]
  exact ⟨⟨rfl,rfl,by show f ⟨n,n⟩ ≤ f ⟨m',m'⟩; rw [hf,hf]; exact hn.2.1⟩,rfl⟩
 have hmapL : ∀ {f : api_Span → Int} {l m : List crew_Visit},Al2 (fun v w => Ls f v w ∧ v.Close = w.Close) l m → Al2 (Ls f) l m := by
  intro f l m h
  induction h with
  | nil => exact .nil
  | cons h _ ih => exact .cons h.1 ih
 have hlo := bg_rel (s := at_) (t := at_) (hmapL (hrel api_Span.Lo fun _ => rfl)) (Int.le_refl _)
 have hhi := bg_rel (s := at_) (t := at_) (hmapL (hrel api_Span.Hi fun _ => rfl)) (Int.le_refl _)
 have hclose : ∀ j,j < l.length → (tour.getD j ⟨⟨0,0⟩,⟨0,0⟩,0,0⟩).Close = (slow.getD j ⟨⟨0,0⟩,⟨0,0⟩,0,0⟩).Close := fun j hj => by
  obtain ⟨n,m',hn,e1,e2⟩ := hp.done j hj
  unfold v0 at e1 e2
  rw [e1,e2]
 have rT : rndCode tour = 0 := by
  unfold rndCode
  rw [if_pos (by omega),if_pos (List.all_eq_true.2 fun v hv => vok_iff.2 (hT v hv))]
 have rS : rndCode slow = 0 := by
  unfold rndCode
  rw [if_pos (by omega),if_pos (List.all_eq_true.2 fun v hv => vok_iff.2 (hS v hv))]
 unfold law11_CrewPlanned
 rw [show kit_New 700 numbers = some (0,0) from rfl,Option.bind_some,show kit_New 700 others = some (0,0) from rfl,Option.bind_some]
 show Option.bind (law11_Toured 700 ⟨numbers,0,0⟩ 5) _ = _
 rw [e0,Option.bind_some]
 unfold kit_Copy_crew_Visit
 rw [room_ok (by show l.length ≤ _; omega),Option.bind_some,Option.bind_some]
 show Option.bind (loopO _ 700 (l,l,0,u,m,0,0)) _ = _
 rw [h1,Option.bind_some]
 show Option.bind (crew_Hours 700 (W at_) tour) (fun r_4 => Option.bind (crew_Hours 700 (W at_) slow) fun r_5 => Option.bind (crew_Late 700 (W at_) tour) fun r_6 => Option.bind (crew_Late 700 (W at_) slow) _) = _
 rw [W_sm (by omega) (by omega),hours_ok (by omega) hT (by omega) (by omega) (by omega),Option.bind_some,hours_ok (by omega) hS (by omega) (by omega) (by omega),Option.bind_some,late_ok (by omega) hT (by omega) (by omega) (by omega),Option.bind_some,late_ok (by omega) hS (by omega) (by omega) (by omega),Option.bind_some]
 have hlate : ((fi (lateH at_ slow) 0 slow.length == (-1)) && (fi (lateH at_ tour) 0 tour.length != (-1))) = false := by
  rcases boolEq (fi (lateH at_ slow) 0 slow.length == (-1)) with hh | hh
  ·have h3 := fi_none.1 (beq_iff_eq.1 hh)
   have h4 : fi (lateH at_ tour) 0 tour.length = -1 := fi_none.2 fun i hi1 hi2 => by
    have h5 := h3 i hi1 (by omega)
    unfold lateH at h5 ⊢
    rw [decide_eq_false_iff_not] at h5 ⊢
    have h6 := hhi i
    rw [hclose i (by omega)]
    omega
   rw [hh,h4]
   rfl
  ·rw [hh]
   rfl
 show cond ((((((0 : Int) != 0) || ((0 : Int) != 0)) || ((0 : Int) != 0)) || ((0 : Int) != 0)) || ((((hrs at_ tour).length : Nat) : Int) != (((hrs at_ slow).length : Nat) : Int)) || ((fi (lateH at_ slow) 0 slow.length == (-1)) && (fi (lateH at_ tour) 0 tour.length != (-1)))) _ _ = _
 rw [hlate,hrs_len,hrs_len,hlt,hls,bne_self_eq_false,bne_self_eq_false]
 have l17 := runS (ρ := Bool) (fun i : Nat => (i : Int)) l.length (fun s17 => law11_CrewPlanned_b17 700 (hrs at_ tour,0) (hrs at_ slow,0) s17) (fun i hi => by
  show law11_CrewPlanned_b17 700 (hrs at_ tour,0) (hrs at_ slow,0) (i : Int) = _
  unfold law11_CrewPlanned_b17
  have g1 : getI (hrs at_ tour) (i : Int) = some ⟨(bg api_Span.Lo at_ tour).getD i 0,(bg api_Span.Hi at_ tour).getD i 0⟩ := by
   rw [getI_nat (by rw [hrs_len]; omega),hrs_get (by omega)]
  have g2 : getI (hrs at_ slow) (i : Int) = some ⟨(bg api_Span.Lo at_ slow).getD i 0,(bg api_Span.Hi at_ slow).getD i 0⟩ := by
   rw [getI_nat (by rw [hrs_len]; omega),hrs_get (by omega)]
  have q1 := hlo i
  have q2 := hhi i
  show cond (decide ((i : Int) < (((hrs at_ tour).length : Nat) : Int))) (Option.bind (getI (hrs at_ tour) (i : Int)) fun e_1 => Option.bind (getI (hrs at_ slow) (i : Int)) fun e_2 => Option.bind (cond (decide (e_2.Lo < e_1.Lo)) (some true) (Option.bind (getI (hrs at_ tour) (i : Int)) fun e_3 => Option.bind (getI (hrs at_ slow) (i : Int)) fun e_4 => some (decide (e_4.Hi < e_3.Hi)))) fun t_2 => _) _ = _
  rw [hrs_len,hlt,lt_dec hi,cond_true,g1,g2]
  simp only [Option.bind_some]
  rw [dF (by omega),dF (by omega),cond_false,Option.bind_some,cond_false,W_succ (by omega)]) (by
  show law11_CrewPlanned_b17 700 (hrs at_ tour,0) (hrs at_ slow,0) (l.length : Int) = _
  unfold law11_CrewPlanned_b17
  show cond (decide ((l.length : Int) < (((hrs at_ tour).length : Nat) : Int))) _ _ = _
  rw [hrs_len,hlt,ge_dec,cond_false]) (N := 700) (by omega)
 show Option.bind (loopO (fun s17 => law11_CrewPlanned_b17 700 (hrs at_ tour,0) (hrs at_ slow,0) s17) 700 ((0 : Nat) : Int)) _ = _
 rw [l17,Option.bind_some]
 show Option.bind (crew_Latest 700 tour) (fun r_8 => Option.bind (crew_Latest 700 slow) _) = _
 rw [latest_ok (by omega) rT,Option.bind_some,latest_ok (by omega) rS,Option.bind_some]
 have hin : ∀ B,lat slow = some B → ∃ B',lat tour = some B' ∧ B ≤ B' := fun B hB => inT_iff.1 (inT_rel (hrel api_Span.Hi fun _ => rfl) (inT_iff.2 ⟨B,hB,Int.le_refl _⟩))
 have hfin : ∀ p q : Int × Int,((((q.2 != 0) || ((p.2 == 0) && (decide (q.1 ≤ p.1)))) && ((p.2 == 0) || (p.2 == 5))) && ((q.2 == 0) || (q.2 == 5))) = true → Option.bind (cond ((((q.2 != 0) || ((p.2 == 0) && (decide (q.1 ≤ p.1)))) && ((p.2 == 0) || (p.2 == 5))) && ((q.2 == 0) || (q.2 == 5))) (Option.bind (law11_awake 700) fun r_10 => some r_10) (some false)) (fun t_1 => some t_1) = some true := fun p q h => by
  rw [h,cond_true,awake_true]
  rfl
 refine hfin _ _ ?_
 cases hs : lat slow with
 | none => cases lat tour with
  | none => rfl
  | some B' =>
   show ((((((0 : Int),(5 : Int)).2 != 0) || _) && (((if B' < 0 then ((0 : Int),(5 : Int)) else (B',0)).2 == 0) || ((if B' < 0 then ((0 : Int),(5 : Int)) else (B',0)).2 == 5))) && ((((0 : Int),(5 : Int)).2 == 0) || (((0 : Int),(5 : Int)).2 == 5))) = true
   by_cases hB : B' < 0
   ·rw [if_pos hB]; rfl
   ·rw [if_neg hB]; rfl
 | some B =>
  obtain ⟨B',e1,e2⟩ := hin B hs
  rw [e1]
  show (((((if B < 0 then ((0 : Int),(5 : Int)) else (B,0)).2 != 0) || (((if B' < 0 then ((0 : Int),(5 : Int)) else (B',0)).2 == 0) && (decide ((if B < 0 then ((0 : Int),(5 : Int)) else (B,0)).1 ≤ (if B' < 0 then ((0 : Int),(5 : Int)) else (B',0)).1)))) && (((if B' < 0 then ((0 : Int),(5 : Int)) else (B',0)).2 == 0) || ((if B' < 0 then ((0 : Int),(5 : Int)) else (B',0)).2 == 5))) && (((if B < 0 then ((0 : Int),(5 : Int)) else (B,0)).2 == 0) || ((if B < 0 then ((0 : Int),(5 : Int)) else (B,0)).2 == 5))) = true
  by_cases hB : B < 0
  ·rw [if_pos hB]
   by_cases hB' : B' < 0
   ·rw [if_pos hB']; rfl
   ·rw [if_neg hB']; rfl
  ·rw [if_neg hB,if_neg (show ¬ B' < 0 by omega)]
   show ((((0 : Int) != 0) || (((0 : Int) == 0) && decide (B ≤ B'))) && (((0 : Int) == 0) || ((0 : Int) == 5)) && (((0 : Int) == 0) || ((0 : Int) == 5))) = true
   rw [dT e2]
   rfl
end Go.Nilo
