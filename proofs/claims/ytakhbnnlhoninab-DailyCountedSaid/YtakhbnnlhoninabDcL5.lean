/-
  What the plain functions compute, in plain arithmetic, part 5. Conditions: what each theorem names.
-/
import Derived.Test.YtakhbnnlhoninabDcL4
set_option linter.unusedSimpArgs false
set_option linter.unusedVariables false
namespace Go.Nilo
structure Cor (l : List daily_Reading) (x : List Int) (c : Int) : Prop where
 n : x.length = l.length
 m : Mono l.length (fun i => x.getD i 0)
 v : ∀ i,i < l.length → x.getD i 0 ∈ l.map daily_Reading.Value
 e : c = costL l (fun i => x.getD i 0)
 b : ∀ y,Mono l.length y → (∀ i,i < l.length → y i ∈ l.map daily_Reading.Value) → c ≤ costL l y
theorem correct_cor {N : Nat} (hN : 40 ≤ N) {l : List daily_Reading} (hl : RdOk l) : ∃ x c,daily_Correct N l = some (x,c,0) ∧ Cor l x c := by
 obtain ⟨x,c,h1,h2,h3,h4,h5,h6⟩ := correct_ok hN hl
 exact ⟨x,c,h1,h2,h3,h4,h5,h6⟩
theorem RdOk.wn {l : List daily_Reading} (h : RdOk l) : ∀ j,0 ≤ j → j < 0 + l.length → 1 ≤ wt l j := fun j _ hj => (h.w j (by omega)).1
theorem cost_nonneg {l : List daily_Reading} (h : RdOk l) (x : Nat → Int) : 0 ≤ costL l x := tot_nonneg _ _ fun j h1 h2 => by have := h.wn j h1 h2; omega
theorem cor_right {r : List daily_Reading} (hr : RdOk r) {x : Nat → Int} (hm : Mono r.length x) (hv : ∀ j,j < r.length → vl r j = x j) {y : List Int} {c : Int} (hc : Cor r y c) : c = 0 ∧ ∀ j,j < r.length → y.getD j 0 = x j := by
 have h1 := hc.b x hm fun i hi => mem_val.2 ⟨i,hi,hv i hi⟩
 have h0 : costL r x = 0 := by
  have : costL r x = tot (vl r) (fun _ => 0) x 0 r.length := tot_congr _ _ fun j _ hj => by rw [hv j (by omega),cst_self]; unfold cst; omega
  rw [this]
  have hz : ∀ m i,tot (vl r) (fun _ => 0) x i m = 0 := by
   intro m
   induction m with
   | zero => intro i; rfl
   | succ m ih => intro i; show cst 0 _ _ + _ = 0; rw [ih]; unfold cst; omega
  exact hz _ _
 have h2 := cost_nonneg hr (fun i => y.getD i 0)
 have h3 := hc.e
 have h4 : c = 0 := by omega
 refine ⟨h4,fun j hj => ?_⟩
 have := tot_zero (v := vl r) (w := wt r) (x := fun i => y.getD i 0) r.length 0 hr.wn (by show costL r _ = 0; omega) j (by omega) (by omega)
 rw [this,hv j hj]
theorem cor_heavy {l h : List daily_Reading} (hl : RdOk l) (hn : h.length = l.length) {i : Nat} (hi : i < l.length) {w : Int} (hw : 0 ≤ w) (hv : ∀ j,j < l.length → vl h j = vl l j) (hwt : ∀ j,j < l.length → wt h j = if j = i then wt l j + w else wt l j) {x y : List Int} {c d : Int} (hc : Cor l x c) (hd : Cor h y d) : c ≤ d ∧ d ≤ c + w * max (x.getD i 0 - vl l i) (vl l i - x.getD i 0) := by
 have hmem : ∀ z : Int,z ∈ h.map daily_Reading.Value ↔ z ∈ l.map daily_Reading.Value := fun z => by
  rw [mem_val,mem_val]
  constructor
  ·rintro ⟨j,h1,h2⟩; exact ⟨j,by omega,by rw [← hv j (by omega)]; exact h2⟩
  ·rintro ⟨j,h1,h2⟩; exact ⟨j,by omega,by rw [hv j h1]; exact h2⟩
 have hge : ∀ z : Nat → Int,costL l z ≤ costL h z := fun z => by
  unfold costL
  rw [hn]
  refine tot_le _ _ fun j _ hj => ?_
  rw [hv j (by omega),hwt j (by omega)]
  unfold cst
  refine Int.mul_le_mul_of_nonneg_right ?_ (by omega)
  split <;> omega
 have heq : costL h (fun j => x.getD j 0) = costL l (fun j => x.getD j 0) + w * max (x.getD i 0 - vl l i) (vl l i - x.getD i 0) := by
  unfold costL
  rw [hn,show l.length = i + ((l.length - i - 1) + 1) by omega,tot_split i 0,tot_split i 0,Nat.zero_add]
  show _ + (cst _ _ _ + _) = _ + (cst _ _ _ + _) + _
  rw [tot_congr (v := vl h) (w := wt h) (v' := vl l) (w' := wt l) (x' := fun j => x.getD j 0) i 0 fun j _ hj => by rw [hv j (by omega),hwt j (by omega),if_neg (by omega)],
   tot_congr (v := vl h) (w := wt h) (v' := vl l) (w' := wt l) (x' := fun j => x.getD j 0) (l.length - i - 1) (i + 1) fun j h1 hj => by rw [hv j (by omega),hwt j (by omega),if_neg (by omega)],hv i hi,hwt i hi,if_pos rfl]
  unfold cst
  rw [Int.add_mul]
  dsimp only
  omega
 have h1 := hd.b (fun j => x.getD j 0) (by rw [hn]; exact hc.m) (fun j hj => (hmem _).2 (hc.v j (by omega)))
 have h2 := hc.b (fun j => y.getD j 0) (by have := hd.m; rw [hn] at this; exact this) (fun j hj => (hmem _).1 (hd.v j (by omega)))
 have h3 := hge (fun j => y.getD j 0)
 have h4 := hc.e
 have h5 := hd.e
 omega
theorem back_le {l b : List daily_Reading} (hn : b.length = l.length) {M : Int} (hv : ∀ j,j < l.length → vl b j = M - vl l (l.length - 1 - j)) (hw : ∀ j,j < l.length → wt b j = wt l (l.length - 1 - j)) {x y : List Int} {c d : Int} (hc : Cor l x c) (hd : Cor b y d) : d ≤ c := by
 have h1 := hd.b (fun j => M - x.getD (l.length - 1 - j) 0) (fun j hj => by
  have := hc.m (l.length - 1 - (j + 1)) (by omega)
  dsimp only at this ⊢
  rw [show l.length - 1 - (j + 1) + 1 = l.length - 1 - j by omega] at this
  omega) (fun j hj => by
  obtain ⟨k,k1,k2⟩ := mem_val.1 (hc.v (l.length - 1 - j) (by omega))
  refine mem_val.2 ⟨l.length - 1 - k,by omega,?_⟩
  rw [hv _ (by omega),show l.length - 1 - (l.length - 1 - k) = k by omega,k2])
 have h2 : costL b (fun j => M - x.getD (l.length - 1 - j) 0) = costL l (fun j => x.getD j 0) := by
  unfold costL
  rw [hn]
  refine tot_rev l.length 0 0 fun j hj => ?_
  rw [Nat.zero_add,Nat.zero_add,hv j hj,hw j hj]
  unfold cst
  congr 1
  omega
 have := hc.e
 omega
theorem cor_back {l b : List daily_Reading} (hn : b.length = l.length) {M : Int} (hv : ∀ j,j < l.length → vl b j = M - vl l (l.length - 1 - j)) (hw : ∀ j,j < l.length → wt b j = wt l (l.length - 1 - j)) {x y : List Int} {c d : Int} (hc : Cor l x c) (hd : Cor b y d) : d = c := by
 have h1 := back_le hn hv hw hc hd
 have h2 := back_le (l := b) (b := l) hn.symm (M := M) (fun j hj => by rw [hv (b.length - 1 - j) (by omega),show l.length - 1 - (b.length - 1 - j) = j by omega]; omega) (fun j hj => by rw [hw (b.length - 1 - j) (by omega),show l.length - 1 - (b.length - 1 - j) = j by omega]) hd hc
 omega
theorem greatest {P : Int → Prop} [DecidablePred P] : ∀ {l : List Int},(∃ x ∈ l,P x) → ∃ x ∈ l,P x ∧ ∀ y ∈ l,P y → y ≤ x
 | [],h => by obtain ⟨x,h,-⟩ := h; cases h
 | a::l,h => by
  by_cases hl : ∃ x ∈ l,P x
  ·obtain ⟨x,h1,h2,h3⟩ := greatest hl
   by_cases ha : P a ∧ x ≤ a
   ·refine ⟨a,List.mem_cons_self,ha.1,fun y hy hyt => ?_⟩
    rcases List.mem_cons.1 hy with rfl | hy
    ·exact Int.le_refl _
    ·exact Int.le_trans (h3 y hy hyt) ha.2
   ·refine ⟨x,List.mem_cons_of_mem _ h1,h2,fun y hy hyt => ?_⟩
    rcases List.mem_cons.1 hy with rfl | hy
    ·have : ¬ x ≤ y := fun hh => ha ⟨hyt,hh⟩
     omega
    ·exact h3 y hy hyt
  ·obtain ⟨x,h1,h2⟩ := h
   rcases List.mem_cons.1 h1 with rfl | h1
   ·refine ⟨x,List.mem_cons_self,h2,fun y hy hyt => ?_⟩
    rcases List.mem_cons.1 hy with rfl | hy
    ·exact Int.le_refl _
    ·exact absurd ⟨y,hy,hyt⟩ hl
   ·exact absurd ⟨x,h1,h2⟩ hl
theorem least_of {P : Int → Prop} [DecidablePred P] : ∀ {l : List Int},(∃ x ∈ l,P x) → ∃ x ∈ l,P x ∧ ∀ y ∈ l,P y → x ≤ y
 | [],h => by obtain ⟨x,h,-⟩ := h; cases h
 | a::l,h => by
  by_cases hl : ∃ x ∈ l,P x
  ·obtain ⟨x,h1,h2,h3⟩ := least_of hl
   by_cases ha : P a ∧ a ≤ x
   ·refine ⟨a,List.mem_cons_self,ha.1,fun y hy hyt => ?_⟩
    rcases List.mem_cons.1 hy with rfl | hy
    ·exact Int.le_refl _
    ·exact Int.le_trans ha.2 (h3 y hy hyt)
   ·refine ⟨x,List.mem_cons_of_mem _ h1,h2,fun y hy hyt => ?_⟩
    rcases List.mem_cons.1 hy with rfl | hy
    ·have : ¬ y ≤ x := fun hh => ha ⟨hyt,hh⟩
     omega
    ·exact h3 y hy hyt
  ·obtain ⟨x,h1,h2⟩ := h
   rcases List.mem_cons.1 h1 with rfl | h1
   ·refine ⟨x,List.mem_cons_self,h2,fun y hy hyt => ?_⟩
    rcases List.mem_cons.1 hy with rfl | hy
    ·exact Int.le_refl _
    ·exact absurd ⟨y,hy,hyt⟩ hl
   ·exact absurd ⟨x,h1,h2⟩ hl
theorem moved {f : List daily_Reading} (hf : RdOk f) {u : Int} {x : Nat → Int} (hm : Mono f.length x) (hx : ∀ j,j < f.length → x j = u ∨ x j ∈ f.map daily_Reading.Value) : ∃ y,Mono f.length y ∧ (∀ j,j < f.length → y j ∈ f.map daily_Reading.Value) ∧ costL f y ≤ costL f x := by
 by_cases hu : u ∈ f.map daily_Reading.Value
 ·exact ⟨x,hm,fun j hj => by rcases hx j hj with h | h; { rw [h]; exact hu }; exact h,Int.le_refl _⟩
 have hne : ∀ j,j < f.length → vl f j ≠ u := fun j hj e => hu (mem_val.2 ⟨j,hj,e⟩)
 have hv : ∀ j,j < f.length → vl f j ∈ f.map daily_Reading.Value := fun j hj => mem_val.2 ⟨j,hj,rfl⟩
 have hw : ∀ j,0 ≤ wt f j := fun j => by
  by_cases hj : j < f.length
  ·have := (hf.w j hj).1; unfold wt; omega
  ·unfold wt rd0; rw [gD0 (by omega)]; exact Int.le_refl _
 have hmono : ∀ t,t ∈ f.map daily_Reading.Value → (∀ z ∈ f.map daily_Reading.Value,z < u → z ≤ t) → (∀ z ∈ f.map daily_Reading.Value,u < z → t ≤ z) → Mono f.length (mv u t x) ∧ ∀ j,j < f.length → mv u t x j ∈ f.map daily_Reading.Value := fun t ht h1 h2 => by
  refine ⟨fun j hj => ?_,fun j hj => ?_⟩
  ·have := hm j hj
   unfold mv
   by_cases a : x j = u
   ·by_cases b : x (j + 1) = u
    ·rw [if_pos a,if_pos b]; exact Int.le_refl _
    ·rw [if_pos a,if_neg b]
     exact h2 _ ((hx (j + 1) hj).resolve_left b) (by omega)
   ·by_cases b : x (j + 1) = u
    ·rw [if_neg a,if_pos b]
     exact h1 _ ((hx j (by omega)).resolve_left a) (by omega)
    ·rw [if_neg a,if_neg b]; exact this
  ·unfold mv
   split
   ·exact ht
   ·rename_i a; exact (hx j hj).resolve_left a
 by_cases hlo : ∃ z ∈ f.map daily_Reading.Value,z < u
 ·obtain ⟨lo,l1,l2,l3⟩ := greatest hlo
  by_cases hhi : ∃ z ∈ f.map daily_Reading.Value,u < z
  ·obtain ⟨hi,g1,g2,g3⟩ := least_of hhi
   have hb : ∀ j,0 ≤ j → j < 0 + f.length → vl f j ≤ lo ∨ hi ≤ vl f j := fun j _ hj => by
    rcases Int.lt_or_le (vl f j) u with h | h
    ·exact .inl (l3 _ (hv j (by omega)) h)
    ·exact .inr (g3 _ (hv j (by omega)) (by have := hne j (by omega); omega))
   rcases mv_or (w := wt f) (x := x) l2 g2 hb with h | h
   ·obtain ⟨a,b⟩ := hmono lo l1 (fun z hz h => l3 z hz h) (fun z hz h => by omega)
    exact ⟨_,a,b,h⟩
   ·obtain ⟨a,b⟩ := hmono hi g1 (fun z hz h => by omega) (fun z hz h => g3 z hz h)
    exact ⟨_,a,b,h⟩
  ·obtain ⟨a,b⟩ := hmono lo l1 (fun z hz h => l3 z hz h) (fun z hz h => absurd ⟨z,hz,h⟩ hhi)
   refine ⟨_,a,b,mv_dn hw (by omega) fun j _ hj => l3 _ (hv j (by omega)) ?_⟩
   have h1 := hne j (by omega)
   have h2 : ¬ u < vl f j := fun h => hhi ⟨_,hv j (by omega),h⟩
   omega
 ·have h0 := hf.n0
  have hv0 := hv 0 (by omega)
  obtain ⟨hi,g1,g2,g3⟩ := least_of (P := fun z => u < z) (l := f.map daily_Reading.Value) ⟨vl f 0,hv0,by
   have h1 := hne 0 (by omega)
   have h2 : ¬ vl f 0 < u := fun h => hlo ⟨_,hv0,h⟩
   omega⟩
  obtain ⟨a,b⟩ := hmono hi g1 (fun z hz h => absurd ⟨z,hz,h⟩ hlo) (fun z hz h => g3 z hz h)
  refine ⟨_,a,b,mv_up hw (by omega) fun j _ hj => g3 _ (hv j (by omega)) ?_⟩
  have h1 := hne j (by omega)
  have h2 : ¬ vl f j < u := fun h => hlo ⟨_,hv j (by omega),h⟩
  omega
theorem cor_few {l f : List daily_Reading} (hl : RdOk l) (hf : RdOk f) {i : Nat} (hi : i < l.length) (hn : f.length + 1 = l.length) (hv : ∀ j,j < f.length → vl f j = vl l (if j < i then j else j + 1)) (hw : ∀ j,j < f.length → wt f j = wt l (if j < i then j else j + 1)) {x y : List Int} {c d : Int} (hc : Cor l x c) (hd : Cor f y d) : d ≤ c := by
 have hX : Mono f.length (fun j => x.getD (if j < i then j else j + 1) 0) := fun j hj => by
  dsimp only
  by_cases h1 : j + 1 < i
  ·rw [if_pos (by omega),if_pos h1]; exact hc.m j (by omega)
  ·by_cases h2 : j < i
   ·rw [if_pos h2,if_neg h1]
    exact Int.le_trans (hc.m j (by omega)) (hc.m (j + 1) (by omega))
   ·rw [if_neg h2,if_neg (by omega)]; exact hc.m (j + 1) (by omega)
 obtain ⟨z,z1,z2,z3⟩ := moved hf (u := vl l i) hX fun j hj => by
  obtain ⟨k,k1,k2⟩ := mem_val.1 (hc.v (if j < i then j else j + 1) (by split <;> omega))
  try dsimp only
  rw [← k2]
  by_cases e : k = i
  ·left; rw [e]
  ·right
   refine mem_val.2 ⟨if k < i then k else k - 1,by split <;> omega,?_⟩
   rw [hv _ (by split <;> omega)]
   by_cases hk : k < i
   ·simp only [if_pos hk]
   ·simp only [if_neg hk,if_neg (show ¬ k - 1 < i by omega)]
    rw [show k - 1 + 1 = k by omega]
 have h1 := hd.b z z1 z2
 have h2 : costL f (fun j => x.getD (if j < i then j else j + 1) 0) + cst (wt l i) (vl l i) (x.getD i 0) = costL l (fun j => x.getD j 0) := by
  unfold costL
  rw [show f.length = i + (f.length - i) by omega,show l.length = i + ((f.length - i) + 1) by omega,tot_split i 0,tot_split i 0,Nat.zero_add]
  show _ = _ + (cst _ _ _ + _)
  rw [tot_congr (v := vl f) (w := wt f) (v' := vl l) (w' := wt l) (x' := fun j => x.getD j 0) i 0 fun j _ hj => by rw [hv j (by omega),hw j (by omega),if_pos (by omega)],
   tot_shift (v := vl f) (w := wt f) (v' := vl l) (w' := wt l) (x' := fun j => x.getD j 0) (f.length - i) i (i + 1) fun j hj => by rw [hv _ (by omega),hw _ (by omega),if_neg (by omega),show i + j + 1 = i + 1 + j by omega]]
  dsimp only
  omega
 have h3 := cst_nonneg (v := vl l i) (x := x.getD i 0) (w := wt l i) (by have := (hl.w i hi).1; unfold wt; omega)
 have := hc.e
 omega
end Go.Nilo
