/-
  What the plain functions compute, in plain arithmetic, part 6. Conditions: what each theorem names.
-/
import Derived.Test.YtfacdlbpakdcfaaDkL5
set_option linter.unusedSimpArgs false
set_option linter.unusedVariables false
namespace Go.Nilo
def kA (ks : List daily_kink) (y : Int) : Int := sumBy (fun k => k.weight * max (k.value - y) 0) ks
theorem kA_nil (y : Int) : kA [] y = 0 := rfl
theorem kA_cons (k : daily_kink) (ks : List daily_kink) (y : Int) : kA (k::ks) y = k.weight * max (k.value - y) 0 + kA ks y := by
 unfold kA sumBy
 simp
theorem kA_app (a b : List daily_kink) (y : Int) : kA (a ++ b) y = kA a y + kA b y := by
 unfold kA sumBy
 simp
theorem kA_perm {a b : List daily_kink} (h : a.Perm b) (y : Int) : kA a y = kA b y := by
 induction h with
 | nil => rfl
 | cons x _ ih => rw [kA_cons,kA_cons,ih]
 | swap x z l => rw [kA_cons,kA_cons,kA_cons,kA_cons]; omega
 | trans _ _ h1 h2 => rw [h1,h2]
theorem kA_zero {ks : List daily_kink} {y : Int} (h : ∀ k ∈ ks,k.value ≤ y) : kA ks y = 0 := by
 induction ks with
 | nil => rfl
 | cons k ks ih =>
  rw [kA_cons,ih fun x hx => h x (List.mem_cons_of_mem _ hx)]
  have := h k List.mem_cons_self
  rw [Int.max_eq_right (by omega),Int.mul_zero]
  rfl
structure KI (T : Int → Int) (v w c p B : Int) (ks : List daily_kink) : Prop where
 p0 : 0 ≤ p ∧ p ≤ w
 vB : v ≤ B
 kB : ∀ k ∈ ks,k.value ≤ B
 e : ∀ y,y ≤ B → T y = c + kA ks y + p * max (v - y) 0 + (w - p) * max (y - v) 0
theorem push_eq {κ v y n : Int} (hy : y ≤ κ) : n * max (κ - y) 0 + n * max (y - v) 0 = n * (κ - v) + n * max (v - y) 0 := by
 have : max (κ - y) 0 + max (y - v) 0 = (κ - v) + max (v - y) 0 := by omega
 rw [← Int.mul_add,this,Int.mul_add]
theorem KI.step {T : Int → Int} {v w c p B : Int} {k : daily_kink} {ks : List daily_kink} (h : KI T v w c p B (k::ks)) (hs : ∀ x ∈ ks,x.value ≤ k.value) (hk : v < k.value) {n : Int} (hn : 0 ≤ n) (hn' : n ≤ w - p) :
  KI T v w (c + n * (k.value - v)) (p + n) k.value (⟨k.value,k.reading,k.weight - n⟩::ks) := by
 have hkB := h.kB k List.mem_cons_self
 have h0 := h.p0
 refine ⟨by omega,by omega,fun x hx => ?_,fun y hy => ?_⟩
 ·rcases List.mem_cons.1 hx with rfl | hx
  ·exact Int.le_refl _
  ·exact hs x hx
 ·have h1 := h.e y (by omega)
  have h2 := push_eq (v := v) (n := n) hy
  rw [kA_cons] at h1
  rw [kA_cons,h1]
  dsimp only
  rw [Int.sub_mul k.weight n,Int.add_mul,show w - (p + n) = w - p - n by omega,Int.sub_mul (w - p) n]
  omega
theorem KI.drop {T : Int → Int} {v w c p B : Int} {k : daily_kink} {ks : List daily_kink} (h : KI T v w c p B (k::ks)) (h0 : k.weight = 0) : KI T v w c p B ks := by
 refine ⟨h.p0,h.vB,fun x hx => h.kB x (List.mem_cons_of_mem _ hx),fun y hy => ?_⟩
 have := h.e y hy
 rw [kA_cons,h0,Int.zero_mul,Int.zero_add] at this
 exact this
theorem KI.start {ks0 ks : List daily_kink} {v w B : Int} {i : Int} (hp : ks.Perm (ks0 ++ [⟨v,i,w⟩])) (hw : 0 ≤ w) (hB : ∀ k ∈ ks,k.value ≤ B) : KI (fun y => kA ks0 y + w * max (v - y) 0 + w * max (y - v) 0) v w 0 0 B ks := by
 have hv : v ≤ B := hB _ (hp.mem_iff.2 (List.mem_append_right _ List.mem_cons_self))
 refine ⟨by omega,hv,hB,fun y _ => ?_⟩
 rw [kA_perm hp,kA_app,kA_cons,kA_nil]
 dsimp only
 rw [Int.zero_mul,Int.sub_zero]
 omega
theorem KI.stop {T : Int → Int} {v w c p B : Int} {ks : List daily_kink} (h : KI T v w c p B ks) (he : p = w ∨ ∀ k ∈ ks,k.value ≤ v) (i : Int) {M : Int} (hM : v ≤ M) (hM' : ∀ k ∈ ks,k.value ≤ M) (hMB : M ≤ B) (hv : p ≠ w → M = v) :
  ∀ y,y ≤ M → T y = c + kA (ks ++ [⟨v,i,p⟩]) y := by
 intro y hy
 rw [h.e y (by omega),kA_app,kA_cons,kA_nil]
 dsimp only
 by_cases hc : p = w
 ·rw [hc,Int.sub_self,Int.zero_mul]
  omega
 ·have := hv hc
  rw [Int.max_eq_right (show y - v ≤ 0 by omega),Int.mul_zero]
  omega
def PI (v w : Nat → Int) (V : List Int) (i : Nat) (ks : List daily_kink) (c : Int) : Prop := ∀ x : Int,∃ y : Nat → Int,Mono i y ∧ (∀ j,j < i → y j ≤ x) ∧ (∀ j,j < i → y j = x ∨ y j ∈ V) ∧ tot v w y 0 i = c + kA ks x
theorem PI.zero (v w : Nat → Int) (V : List Int) : PI v w V 0 [] 0 := fun x => ⟨fun _ => x,fun i hi => by omega,fun j hj => by omega,fun j hj => by omega,rfl⟩
theorem PI.next {v w : Nat → Int} {V : List Int} {i : Nat} {ks ks1 : List daily_kink} {c c1 M : Int} (h : PI v w V i ks c) (hM : M ∈ V) (hk : ∀ k ∈ ks1,k.value ≤ M) (he : ∀ y,y ≤ M → kA ks y + w i * max (v i - y) 0 + w i * max (y - v i) 0 = c1 + kA ks1 y) : PI v w V (i + 1) ks1 (c + c1) := by
 intro x
 obtain ⟨y,h1,h2,h3,h4⟩ := h (min x M)
 have hz : kA ks1 (min x M) = kA ks1 x := by
  by_cases hx : x ≤ M
  ·rw [Int.min_eq_left hx]
  ·rw [Int.min_eq_right (by omega),kA_zero hk,kA_zero fun k hk' => by have := hk k hk'; omega]
 refine ⟨fun j => if j < i then y j else min x M,fun j hj => ?_,fun j hj => ?_,fun j hj => ?_,?_⟩
 ·dsimp only
  rw [if_pos (by omega)]
  by_cases hj' : j + 1 < i
  ·rw [if_pos hj']; exact h1 j hj'
  ·rw [if_neg hj']; exact h2 j (by omega)
 ·dsimp only
  split
  ·rename_i hj'
   have := h2 j hj'
   omega
  ·omega
 ·dsimp only
  by_cases hm : x ≤ M
  ·rw [Int.min_eq_left hm] at *
   split
   ·rename_i hj'
    exact h3 j hj'
   ·left; rfl
  ·rw [Int.min_eq_right (show M ≤ x by omega)] at *
   right
   split
   ·rename_i hj'
    rcases h3 j hj' with e | e
    ·rw [e]; exact hM
    ·exact e
   ·exact hM
 ·rw [tot_snoc,Nat.zero_add,tot_congr (v' := v) (w' := w) (x' := y) i 0 fun j _ hj => by rw [if_pos (by omega)],h4,if_neg (by omega)]
  have h5 := he (min x M) (by omega)
  rw [hz] at h5
  have h6 : cst (w i) (v i) (min x M) = w i * max (v i - min x M) 0 + w i * max (min x M - v i) 0 := by
   unfold cst
   rw [← Int.mul_add]
   congr 1
   omega
  omega
def dsum (d v : Nat → Int) : Nat → Int
 | 0 => 0
 | n + 1 => dsum d v n + d n * v n
theorem abel {d y : Nat → Int} : ∀ n,(∀ b,b ≤ n → 0 ≤ dsum d (fun _ => 1) b) → Mono n y → ∀ t,(∀ j,j < n → y j ≤ t) → dsum d y n ≤ dsum d (fun _ => 1) n * t
 | 0,_,_,t,_ => by
  show (0 : Int) ≤ 0 * t
  rw [Int.zero_mul]
  exact Int.le_refl _
 | n + 1,hp,hm,t,ht => by
  have ih := abel n (fun b hb => hp b (by omega)) (fun i hi => hm i (by omega)) (y n) fun j hj => by
   have : ∀ k,j + k < n + 1 → y j ≤ y (j + k) := fun k => by
    induction k with
    | zero => intro _; exact Int.le_refl _
    | succ k ihk => intro hk; exact Int.le_trans (ihk (by omega)) (hm (j + k) (by omega))
   have h := this (n - j) (by omega)
   rw [show j + (n - j) = n by omega] at h
   exact h
  have h1 := hp (n + 1) (Nat.le_refl _)
  have h2 := ht n (by omega)
  have h3 : dsum d (fun _ => 1) (n + 1) * y n ≤ dsum d (fun _ => 1) (n + 1) * t := Int.mul_le_mul_of_nonneg_left h2 h1
  have e1 : dsum d (fun _ => 1) (n + 1) = dsum d (fun _ => 1) n + d n := by
   show dsum d (fun _ => 1) n + d n * 1 = _
   rw [Int.mul_one]
  rw [e1,Int.add_mul,Int.add_mul] at h3
  show dsum d y n + d n * y n ≤ _
  rw [e1,Int.add_mul]
  omega
theorem one_le {d w v y : Int} (h1 : -w ≤ d) (h2 : d ≤ w) : d * v ≤ d * y + cst w v y := by
 unfold cst
 have h3 : d * (v - y) ≤ w * max (y - v) (v - y) := by
  rcases Int.le_total v y with h | h
  ·rw [Int.max_eq_left (by omega),show d * (v - y) = (-d) * (y - v) by rw [Int.neg_mul,← Int.mul_neg]; congr 1; omega]
   exact Int.mul_le_mul_of_nonneg_right (by omega) (by omega)
  ·rw [Int.max_eq_right (by omega)]
   exact Int.mul_le_mul_of_nonneg_right h2 (by omega)
 rw [Int.mul_sub] at h3
 omega
theorem dsum_le {d v w y : Nat → Int} : ∀ n,(∀ j,j < n → -(w j) ≤ d j ∧ d j ≤ w j) → dsum d v n ≤ dsum d y n + tot v w y 0 n
 | 0,_ => Int.le_refl _
 | n + 1,h => by
  have ih := dsum_le (v := v) (y := y) n fun j hj => h j (by omega)
  have h1 := one_le (v := v n) (y := y n) (h n (by omega)).1 (h n (by omega)).2
  rw [tot_snoc,Nat.zero_add]
  show dsum d v n + d n * v n ≤ dsum d y n + d n * y n + (tot v w y 0 n + _)
  omega
theorem nets_prove {d v w y : Nat → Int} {n : Nat} (hd : ∀ j,j < n → -(w j) ≤ d j ∧ d j ≤ w j) (hp : ∀ b,b ≤ n → 0 ≤ dsum d (fun _ => 1) b) (h0 : dsum d (fun _ => 1) n = 0) (hy : Mono n y) (hw : ∀ j,j < n → y j ≤ 1000000) : dsum d v n ≤ tot v w y 0 n := by
 have h1 := dsum_le (v := v) (y := y) n hd
 have h2 := abel n hp hy 1000000 hw
 rw [h0,Int.zero_mul] at h2
 omega
end Go.Nilo
namespace Go.Nilo
theorem dsum_add (d e v : Nat → Int) : ∀ n,dsum (fun j => d j + e j) v n = dsum d v n + dsum e v n
 | 0 => rfl
 | n + 1 => by
  have ih := dsum_add d e v n
  show dsum (fun j => d j + e j) v n + (d n + e n) * v n = dsum d v n + d n * v n + (dsum e v n + e n * v n)
  rw [ih,Int.add_mul]
  omega
theorem dsum_one (w : Int) (v : Nat → Int) (a : Nat) : ∀ n,dsum (fun j => if a = j then w else 0) v n = if a < n then w * v a else 0
 | 0 => rfl
 | n + 1 => by
  have ih := dsum_one w v a n
  show dsum (fun j => if a = j then w else 0) v n + (if a = n then w else 0) * v n = _
  rw [ih]
  by_cases h : a = n
  ·subst h
   rw [if_neg (by omega),if_pos rfl,if_pos (by omega),Int.zero_add]
  ·rw [if_neg h,Int.zero_mul,Int.add_zero]
   by_cases h2 : a < n
   ·rw [if_pos h2,if_pos (by omega)]
   ·rw [if_neg h2,if_neg (by omega)]
def fN : List daily_Fall → Nat → Int
 | [],_ => 0
 | f::l,j => ((if f.A.toNat = j then f.Weight else 0) + (if f.B.toNat = j then -f.Weight else 0)) + fN l j
def fU : List daily_Fall → Nat → Int
 | [],_ => 0
 | f::l,j => ((if f.A.toNat = j then f.Weight else 0) + (if f.B.toNat = j then f.Weight else 0)) + fU l j
def fP (v : Nat → Int) : List daily_Fall → Int
 | [] => 0
 | f::l => f.Weight * (v f.A.toNat - v f.B.toNat) + fP v l
structure FlOk (n : Nat) (f : daily_Fall) : Prop where
 a : 0 ≤ f.A
 ab : f.A < f.B
 b : f.B < (n : Int)
 w : 1 ≤ f.Weight
theorem fN_sum {n : Nat} (v : Nat → Int) : ∀ {l : List daily_Fall},(∀ f ∈ l,FlOk n f) → dsum (fN l) v n = fP v l
 | [],_ => by
  have : ∀ k,dsum (fN []) v k = 0 := fun k => by
   induction k with
   | zero => rfl
   | succ k ih =>
    show dsum (fN []) v k + 0 * v k = 0
    rw [ih,Int.zero_mul]
    rfl
  exact this n
 | f::l,h => by
  have ih := fN_sum v fun x hx => h x (List.mem_cons_of_mem _ hx)
  obtain ⟨a,ab,b,w⟩ := h f List.mem_cons_self
  have e : fN (f::l) = fun j => ((if f.A.toNat = j then f.Weight else 0) + (if f.B.toNat = j then -f.Weight else 0)) + fN l j := rfl
  rw [e,dsum_add (fun j => (if f.A.toNat = j then f.Weight else 0) + (if f.B.toNat = j then -f.Weight else 0)) (fN l),dsum_add (fun j => if f.A.toNat = j then f.Weight else 0) (fun j => if f.B.toNat = j then -f.Weight else 0),dsum_one,dsum_one,if_pos (by omega),if_pos (by omega),ih]
  show _ = f.Weight * (v f.A.toNat - v f.B.toNat) + fP v l
  rw [Int.mul_sub,Int.neg_mul]
  omega
theorem fN_pre {n : Nat} : ∀ {l : List daily_Fall},(∀ f ∈ l,FlOk n f) → ∀ b,0 ≤ dsum (fN l) (fun _ => 1) b
 | [],_,b => by
  induction b with
  | zero => exact Int.le_refl _
  | succ k ih =>
   show 0 ≤ dsum (fN []) (fun _ => 1) k + 0 * 1
   omega
 | f::l,h,b => by
  have ih := fN_pre (fun x hx => h x (List.mem_cons_of_mem _ hx)) b
  obtain ⟨a,ab,hb,w⟩ := h f List.mem_cons_self
  have e : fN (f::l) = fun j => ((if f.A.toNat = j then f.Weight else 0) + (if f.B.toNat = j then -f.Weight else 0)) + fN l j := rfl
  rw [e,dsum_add (fun j => (if f.A.toNat = j then f.Weight else 0) + (if f.B.toNat = j then -f.Weight else 0)) (fN l),dsum_add (fun j => if f.A.toNat = j then f.Weight else 0) (fun j => if f.B.toNat = j then -f.Weight else 0),dsum_one,dsum_one]
  by_cases h1 : f.B.toNat < b
  ·rw [if_pos (by omega),if_pos h1]; omega
  ·rw [if_neg h1]
   split <;> omega
theorem fN_bd {n : Nat} : ∀ {l : List daily_Fall},(∀ f ∈ l,FlOk n f) → ∀ j,-(fU l j) ≤ fN l j ∧ fN l j ≤ fU l j
 | [],_,_ => ⟨Int.le_refl _,Int.le_refl _⟩
 | f::l,h,j => by
  have ih := fN_bd (fun x hx => h x (List.mem_cons_of_mem _ hx)) j
  obtain ⟨a,ab,hb,w⟩ := h f List.mem_cons_self
  show -(((if f.A.toNat = j then f.Weight else 0) + (if f.B.toNat = j then f.Weight else 0)) + fU l j) ≤ ((if f.A.toNat = j then f.Weight else 0) + (if f.B.toNat = j then -f.Weight else 0)) + fN l j ∧ ((if f.A.toNat = j then f.Weight else 0) + (if f.B.toNat = j then -f.Weight else 0)) + fN l j ≤ ((if f.A.toNat = j then f.Weight else 0) + (if f.B.toNat = j then f.Weight else 0)) + fU l j
  split <;> split <;> omega
theorem falls_le {n : Nat} {l : List daily_Fall} (h : ∀ f ∈ l,FlOk n f) {v w y : Nat → Int} (hu : ∀ j,j < n → fU l j ≤ w j) (hy : Mono n y) (hb : ∀ j,j < n → y j ≤ 1000000) : fP v l ≤ tot v w y 0 n := by
 rw [← fN_sum v h]
 have h0 : dsum (fN l) (fun _ => 1) n = 0 := by
  rw [fN_sum (fun _ => 1) h]
  clear hu h
  induction l with
  | nil => rfl
  | cons f l ih =>
   show f.Weight * (1 - 1) + fP (fun _ => 1) l = 0
   rw [ih,Int.sub_self,Int.mul_zero]
   rfl
 exact nets_prove (fun j hj => by
  have h1 := fN_bd h j
  have h2 := hu j hj
  omega) (fun b _ => fN_pre h b) h0 hy hb
end Go.Nilo
namespace Go.Nilo
theorem inRn9 {i : Int} {n : Nat} (h0 : 0 ≤ i) (h1 : i < (n : Int)) : inR i n = some () := by unfold inR; rw [if_pos ⟨h0,h1⟩]
def fu1 (f : daily_Fall) (j : Nat) : Int := (if f.A.toNat = j then f.Weight else 0) + (if f.B.toNat = j then f.Weight else 0)
theorem fU_snoc (f : daily_Fall) (j : Nat) : ∀ l,fU (l ++ [f]) j = fU l j + fu1 f j
 | [] => by
  show fu1 f j + 0 = 0 + fu1 f j
  omega
 | g::l => by
  have ih := fU_snoc f j l
  show fu1 g j + fU (l ++ [f]) j = fu1 g j + fU l j + fu1 f j
  rw [ih]
  omega
theorem fP_snoc (v : Nat → Int) (f : daily_Fall) : ∀ l,fP v (l ++ [f]) = fP v l + f.Weight * (v f.A.toNat - v f.B.toNat)
 | [] => by
  show f.Weight * (v f.A.toNat - v f.B.toNat) + 0 = 0 + _
  omega
 | g::l => by
  have ih := fP_snoc v f l
  show g.Weight * (v g.A.toNat - v g.B.toNat) + fP v (l ++ [f]) = g.Weight * (v g.A.toNat - v g.B.toNat) + fP v l + _
  rw [ih]
  omega
structure Fl9 (n : Nat) (f : daily_Fall) : Prop where
 o : FlOk n f
 w : f.Weight ≤ 100
theorem fU_bd {n : Nat} (j : Nat) : ∀ {l : List daily_Fall},(∀ f ∈ l,Fl9 n f) → 0 ≤ fU l j ∧ fU l j ≤ 200 * (l.length : Int)
 | [],_ => ⟨Int.le_refl _,Int.le_refl _⟩
 | f::l,h => by
  have ih := fU_bd j fun x hx => h x (List.mem_cons_of_mem _ hx)
  obtain ⟨⟨a,ab,b,w⟩,w'⟩ := h f List.mem_cons_self
  have h1 : 0 ≤ fu1 f j ∧ fu1 f j ≤ 200 := by unfold fu1; split <;> split <;> omega
  show 0 ≤ fu1 f j + fU l j ∧ fu1 f j + fU l j ≤ 200 * ((l.length + 1 : Nat) : Int)
  push_cast
  omega
theorem term_bd {w x : Int} (h0 : 1 ≤ w) (h1 : w ≤ 100) (h2 : -1000000 ≤ x) (h3 : x ≤ 1000000) : -100000000 ≤ w * x ∧ w * x ≤ 100000000 := by
 have a := absmul (x := w) (y := x) (A := 100) (B := 1000000) (by omega) (by omega)
 omega
theorem fP_bd {n : Nat} {v : Nat → Int} (hv : ∀ j,j < n → 0 ≤ v j ∧ v j ≤ 1000000) : ∀ {l : List daily_Fall},(∀ f ∈ l,Fl9 n f) → -(100000000 * (l.length : Int)) ≤ fP v l ∧ fP v l ≤ 100000000 * (l.length : Int)
 | [],_ => ⟨Int.le_refl _,Int.le_refl _⟩
 | f::l,h => by
  have ih := fP_bd hv fun x hx => h x (List.mem_cons_of_mem _ hx)
  obtain ⟨⟨a,ab,b,w⟩,w'⟩ := h f List.mem_cons_self
  have h1 := hv f.A.toNat (by omega)
  have h2 := hv f.B.toNat (by omega)
  have h3 := term_bd (x := v f.A.toNat - v f.B.toNat) w w' (by omega) (by omega)
  show -(100000000 * ((l.length + 1 : Nat) : Int)) ≤ f.Weight * (v f.A.toNat - v f.B.toNat) + fP v l ∧ f.Weight * (v f.A.toNat - v f.B.toNat) + fP v l ≤ 100000000 * ((l.length + 1 : Nat) : Int)
  push_cast
  omega
theorem wrong_ok {N n : Nat} (hn : n ≤ 30) {f : daily_Fall} (h : Fl9 n f) : daily_Fall_wrong N f ((n : Nat) : Int) = some 0 := by
 obtain ⟨⟨a,ab,b,w⟩,w'⟩ := h
 unfold daily_Fall_wrong daily_in
 rw [W_sm (n := ((n : Nat) : Int) - 1) (by omega) (by omega),dT a,dT (show f.A ≤ ((n : Nat) : Int) - 1 by omega),dT (show 0 ≤ f.B by omega),dT (show f.B ≤ ((n : Nat) : Int) - 1 by omega),dF (show ¬ f.B ≤ f.A by omega),dT w,dT w']
 rfl
theorem proves_ok {N : Nat} {l : List daily_Reading} (hl : RdOk l) {falls : List daily_Fall} (hf : ∀ f ∈ falls,Fl9 l.length f) (h9 : falls.length ≤ 900) (hN : falls.length < N) (hN' : 40 ≤ N) (hu : ∀ j,j < l.length → fU falls j ≤ wt l j) : daily_Proves N l falls = some (fP (vl l) falls,0) := by
 have hl1 := hl.n1
 unfold daily_Proves
 rw [rcheck_ok hN' hl,Option.bind_some,beq_self_eq_true,dF (show ¬ 900 < ((falls.length : Nat) : Int) by omega)]
 show daily_Proves_j3 N l falls 0 = _
 unfold daily_Proves_j3
 rw [bne_self_eq_false,cond_false]
 have hmem : ∀ i,∀ f ∈ falls.take i,Fl9 l.length f := fun i f hx => hf f (List.mem_of_mem_take hx)
 have e1 := runS (ρ := Int × Int) (fun i : Nat => (fP (vl l) (falls.take i),(i : Int),fun j => fU (falls.take i) j)) falls.length (fun s11 => daily_Proves_b11 N l falls s11.1 s11.2.1 s11.2.2) (fun i hi => by
  show daily_Proves_b11 N l falls (fP (vl l) (falls.take i)) (i : Int) (fun j => fU (falls.take i) j) = _
  unfold daily_Proves_b11
  have hfi := hf _ (List.getElem_mem hi)
  have htk : falls.take (i + 1) = falls.take i ++ [falls[i]] := List.take_succ_eq_append_getElem hi
  have hP := fP_bd (v := vl l) (fun j hj => hl.v j hj) (hmem i)
  rw [List.length_take] at hP
  have hUA := fU_bd falls[i].A.toNat (hmem i)
  have hUB := fU_bd falls[i].B.toNat (hmem i)
  rw [List.length_take] at hUA hUB
  rw [lt_dec hi,cond_true,getI_nat hi,Option.bind_some]
  generalize falls[i] = f at *
  obtain ⟨⟨a,ab,b,w⟩,w'⟩ := id hfi
  have vA := hl.v f.A.toNat (by omega)
  have vB := hl.v f.B.toNat (by omega)
  have hgA : getI l f.A = some (l.getD f.A.toNat rd0) := by
   have := getI_d (l := l) (i := f.A.toNat) rd0 (by omega)
   rwa [Int.toNat_of_nonneg a] at this
  have hgB : getI l f.B = some (l.getD f.B.toNat rd0) := by
   have := getI_d (l := l) (i := f.B.toNat) rd0 (by omega)
   rwa [Int.toNat_of_nonneg (by omega)] at this
  have ht := term_bd (x := vl l f.A.toNat - vl l f.B.toNat) w w' (by unfold vl; omega) (by unfold vl; omega)
  rw [wrong_ok hl1 hfi,Option.bind_some,bne_self_eq_false,cond_false,inRn9 a (by omega),Option.bind_some,Option.bind_some,inRn9 (show 0 ≤ f.B by omega) (by omega),Option.bind_some,Option.bind_some,hgA,Option.bind_some,hgB,Option.bind_some,W_sm (n := (l.getD f.A.toNat rd0).Value - (l.getD f.B.toNat rd0).Value) (by omega) (by omega)]
  show some (Step.cont (W (fP (vl l) (falls.take i) + W (f.Weight * (vl l f.A.toNat - vl l f.B.toNat))),_,_)) = _
  rw [W_sm (n := f.Weight * (vl l f.A.toNat - vl l f.B.toNat)) (by omega) (by omega),W_sm (n := fP (vl l) (falls.take i) + f.Weight * (vl l f.A.toNat - vl l f.B.toNat)) (by omega) (by omega),W_succ (by omega),htk,fP_snoc]
  have hne : f.B.toNat ≠ f.A.toNat := by omega
  have hfun : (setF (setF (fun j => fU (falls.take i) j) f.A.toNat (W (fU (falls.take i) f.A.toNat + f.Weight))) f.B.toNat (W ((setF (fun j => fU (falls.take i) j) f.A.toNat (W (fU (falls.take i) f.A.toNat + f.Weight))) f.B.toNat + f.Weight))) = fun j => fU (falls.take i ++ [f]) j := by
   funext j
   rw [fU_snoc,setF_ne hne]
   unfold fu1
   by_cases hB : j = f.B.toNat
   ·subst hB
    rw [setF_self,if_neg (Ne.symm hne),if_pos rfl,W_sm (by omega) (by omega)]
    omega
   ·rw [setF_ne hB,if_neg (Ne.symm hB)]
    by_cases hA : j = f.A.toNat
    ·subst hA
     rw [setF_self,if_pos rfl,W_sm (by omega) (by omega)]
     omega
    ·rw [setF_ne hA,if_neg (Ne.symm hA)]
     omega
  rw [hfun]) (by
  show daily_Proves_b11 N l falls _ ((falls.length : Nat) : Int) _ = _
  unfold daily_Proves_b11
  rw [ge_dec,cond_false]) (N := N) hN
 have e0 : (fun _ : Nat => (0 : Int)) = fun j => fU (falls.take 0) j := rfl
 rw [e0]
 show Option.bind (loopO (fun s11 => daily_Proves_b11 N l falls s11.1 s11.2.1 s11.2.2) N (fP (vl l) (falls.take 0),((0 : Nat) : Int),fun j => fU (falls.take 0) j)) _ = _
 rw [e1,Option.bind_some,exK_at,List.take_length]
 have e2 := runS (ρ := Int × Int) (fun i : Nat => (i : Int)) l.length (fun s14 => daily_Proves_b14 N l (fun j => fU falls j) s14) (fun i hi => by
  show daily_Proves_b14 N l (fun j => fU falls j) (i : Int) = _
  unfold daily_Proves_b14
  have h1 := hu i hi
  unfold wt at h1
  rw [lt_dec hi,cond_true,getI_d rd0 hi,Option.bind_some,inRn9 (by omega) (by omega),Option.bind_some]
  show cond (decide ((l.getD i rd0).Weight < fU falls ((i : Int)).toNat)) _ _ = _
  rw [Int.toNat_natCast,dF (by omega),cond_false,W_succ (by omega)]) (by
  show daily_Proves_b14 N l (fun j => fU falls j) ((l.length : Nat) : Int) = _
  unfold daily_Proves_b14
  rw [ge_dec,cond_false]) (N := N) (by omega)
 show Option.bind (loopO (fun s14 => daily_Proves_b14 N l (fun j => fU falls j) s14) N ((0 : Nat) : Int)) _ = _
 rw [e2,Option.bind_some,exK_at]
end Go.Nilo
namespace Go.Nilo
theorem sorted_ok {N : Nat} {x : List Int} (h1 : 1 ≤ x.length) (h30 : x.length ≤ 1000) (hN : x.length < N) (hm : Mono x.length (fun i => x.getD i 0)) : slices_IsSorted_Lint_int N x = some true := by
 unfold slices_IsSorted_Lint_int
 rw [W_sm (n := ((x.length : Nat) : Int) - 1) (by omega) (by omega)]
 have := runS (ρ := Bool) (fun i : Nat => ((x.length - 1 - i : Nat) : Int)) (x.length - 1) (fun s4 => slices_IsSorted_Lint_int_b4 N x s4) (fun i hi => by
  show slices_IsSorted_Lint_int_b4 N x ((x.length - 1 - i : Nat) : Int) = _
  unfold slices_IsSorted_Lint_int_b4
  have h2 : x.getD (x.length - 1 - i - 1) 0 ≤ x.getD (x.length - 1 - i - 1 + 1) 0 := hm (x.length - 1 - i - 1) (by omega)
  rw [show x.length - 1 - i - 1 + 1 = x.length - 1 - i by omega] at h2
  have hl : cmp_Less_int (x.getD (x.length - 1 - i) 0) (x.getD (x.length - 1 - i - 1) 0) = false := by
   unfold cmp_Less_int cmp_isNaN_int
   rw [bne_self_eq_false,Bool.false_and,Bool.false_or]
   exact dF (by omega)
  rw [dT (by omega),cond_true,getI_d 0 (by omega),Option.bind_some,W_sm (n := ((x.length - 1 - i : Nat) : Int) - 1) (by omega) (by omega),show ((x.length - 1 - i : Nat) : Int) - 1 = ((x.length - 1 - i - 1 : Nat) : Int) by omega,getI_d 0 (by omega),Option.bind_some,hl,cond_false,show x.length - 1 - i - 1 = x.length - 1 - (i + 1) by omega]) (by
  show slices_IsSorted_Lint_int_b4 N x ((x.length - 1 - (x.length - 1) : Nat) : Int) = _
  unfold slices_IsSorted_Lint_int_b4
  rw [dF (by omega),cond_false]) (N := N) (by omega)
 rw [show ((x.length : Nat) : Int) - 1 = ((x.length - 1 - 0 : Nat) : Int) by omega,this,Option.bind_some,exK_at]
theorem cost_ok {N : Nat} (hN : 40 ≤ N) {l : List daily_Reading} (hl : RdOk l) {y : List Int} (hn : y.length = l.length) (hy : ∀ i,i < l.length → 0 ≤ y.getD i 0 ∧ y.getD i 0 ≤ 1000000) (hm : Mono l.length (fun i => y.getD i 0)) : daily_Cost N l y = some (costL l (fun i => y.getD i 0),0) := by
 have h0 := hl.n0
 have h1 := hl.n1
 have hev : daily_every_int N y = some true := by
  unfold daily_every_int slices_ContainsFunc_Lint_int slices_IndexFunc_Lint_int
  have h2 := every_gen (N := N) (l := y) (f := daily_every_int_1) (ok := fun x => !daily_every_int_1 x) (fun x => (Bool.not_not _).symm) (by omega) (by omega) (fun s4 => slices_IndexFunc_Lint_int_b4 N y s4) (fun x => rfl)
  rw [h2]
  congr 1
  rw [List.all_eq_true]
  intro x hx
  obtain ⟨i,hi,rfl⟩ := List.getElem_of_mem hx
  have h3 := hy i (by omega)
  rw [gD hi] at h3
  generalize y[i] = z at *
  have : daily_every_int_1 z = !(decide (0 ≤ z) && decide (z ≤ 1000000)) := rfl
  rw [this,dT h3.1,dT h3.2]
  rfl
 unfold daily_Cost
 rw [rcheck_ok hN hl,Option.bind_some,bne_self_eq_false,cond_false,hn,bne_self_eq_false,cond_false,hev,Option.bind_some]
 show Option.bind (slices_IsSorted_Lint_int N y) _ = _
 rw [sorted_ok (by omega) (by omega) (by omega) (by rw [hn]; exact hm),Option.bind_some]
 show Option.bind (loopO (fun s15 => daily_Cost_b15 N l y s15.1 s15.2) N (tot (vl l) (wt l) (fun i => y.getD i 0) 0 0,((0 : Nat) : Int))) _ = _
 have hb : ∀ i,i ≤ l.length → 0 ≤ tot (vl l) (wt l) (fun i => y.getD i 0) 0 i ∧ tot (vl l) (wt l) (fun i => y.getD i 0) 0 i ≤ (i : Int) * 100000000 := fun i => by
  induction i with
  | zero => intro _; exact ⟨Int.le_refl _,by simp [tot]⟩
  | succ i ih =>
   intro hi
   have h2 := ih (by omega)
   have h3 := costs_eq (hl.v i (by omega)) (hl.w i (by omega)) (hy i (by omega))
   rw [tot_snoc,Nat.zero_add]
   unfold vl wt at *
   push_cast
   omega
 have := runS (ρ := Int × Int) (fun i : Nat => (tot (vl l) (wt l) (fun i => y.getD i 0) 0 i,(i : Int))) l.length (fun s15 => daily_Cost_b15 N l y s15.1 s15.2) (fun i hi => by
  show daily_Cost_b15 N l y (tot (vl l) (wt l) (fun i => y.getD i 0) 0 i) (i : Int) = _
  unfold daily_Cost_b15
  have h2 := hb (i + 1) (by omega)
  have h3 := (costs_eq (hl.v i (by omega)) (hl.w i (by omega)) (hy i (by omega))).1
  rw [lt_dec hi,cond_true,getI_d rd0 hi,Option.bind_some,getI_d 0 (by omega),Option.bind_some,h3]
  have h4 : tot (vl l) (wt l) (fun i => y.getD i 0) 0 (i + 1) = tot (vl l) (wt l) (fun i => y.getD i 0) 0 i + cst (l.getD i rd0).Weight (l.getD i rd0).Value (y.getD i 0) := by
   rw [tot_snoc,Nat.zero_add]
   rfl
  rw [← h4,W_sm (by omega) (by omega),W_succ (by omega)]) (by
  show daily_Cost_b15 N l y _ ((l.length : Nat) : Int) = _
  unfold daily_Cost_b15
  rw [ge_dec,cond_false]) (N := N) (by omega)
 rw [this,Option.bind_some,exK_at]
 rfl
end Go.Nilo
namespace Go.Nilo
structure DI (v : Nat → Int) (i : Nat) (d : Nat → Int) (c : Int) : Prop where
 s : dsum d v (i + 1) = c
 p : ∀ b,b ≤ i + 1 → 0 ≤ dsum d (fun _ => 1) b
 t : dsum d (fun _ => 1) (i + 1) = 0
def dstep (d : Nat → Int) (a i : Nat) (n : Int) : Nat → Int := fun j => (d j + (if a = j then n else 0)) + (if i = j then -n else 0)
theorem dstep_sum (d v : Nat → Int) (a i : Nat) (n : Int) (m : Nat) : dsum (dstep d a i n) v m = dsum d v m + (if a < m then n * v a else 0) + (if i < m then -n * v i else 0) := by
 unfold dstep
 rw [dsum_add (fun j => d j + (if a = j then n else 0)) (fun j => if i = j then -n else 0),dsum_add d (fun j => if a = j then n else 0),dsum_one,dsum_one]
theorem DI.step {v : Nat → Int} {i : Nat} {d : Nat → Int} {c : Int} (h : DI v i d c) {a : Nat} (ha : a < i) {n : Int} (hn : 0 ≤ n) : DI v i (dstep d a i n) (c + n * (v a - v i)) := by
 refine ⟨?_,fun b hb => ?_,?_⟩
 ·rw [dstep_sum,h.s,if_pos (by omega),if_pos (by omega),Int.mul_sub,Int.neg_mul]
  omega
 ·have h1 := h.p b hb
  rw [dstep_sum]
  by_cases h2 : i < b
  ·rw [if_pos (by omega),if_pos h2]; omega
  ·rw [if_neg h2]
   split <;> omega
 ·rw [dstep_sum,h.t,if_pos (by omega),if_pos (by omega)]
  omega
theorem DI.next {v : Nat → Int} {i : Nat} {d : Nat → Int} {c : Int} (h : DI v i d c) (h0 : d (i + 1) = 0) : DI v (i + 1) d c := by
 refine ⟨?_,fun b hb => ?_,?_⟩
 ·show dsum d v (i + 1) + d (i + 1) * v (i + 1) = c
  rw [h0,Int.zero_mul,h.s]
  omega
 ·rcases Nat.lt_or_eq_of_le hb with hb | rfl
  ·exact h.p b (by omega)
  ·show 0 ≤ dsum d (fun _ => 1) (i + 1) + d (i + 1) * 1
   rw [h0,h.t]
   decide
 ·show dsum d (fun _ => 1) (i + 1) + d (i + 1) * 1 = 0
  rw [h0,h.t]
  rfl
def kw : List daily_kink → Nat → Int
 | [],_ => 0
 | k::ks,j => (if k.reading = (j : Int) then k.weight else 0) + kw ks j
theorem kw_app (j : Nat) (b : List daily_kink) : ∀ a,kw (a ++ b) j = kw a j + kw b j
 | [] => by
  show kw b j = 0 + kw b j
  omega
 | k::ks => by
  have ih := kw_app j b ks
  show (if k.reading = (j : Int) then k.weight else 0) + kw (ks ++ b) j = (if k.reading = (j : Int) then k.weight else 0) + kw ks j + kw b j
  rw [ih]
  omega
theorem kw_perm {a b : List daily_kink} (h : a.Perm b) (j : Nat) : kw a j = kw b j := by
 induction h with
 | nil => rfl
 | cons x l ih =>
  show (if x.reading = (j : Int) then x.weight else 0) + kw _ j = (if x.reading = (j : Int) then x.weight else 0) + kw _ j
  rw [ih]
 | swap x y l =>
  show (if y.reading = (j : Int) then y.weight else 0) + ((if x.reading = (j : Int) then x.weight else 0) + kw l j) = (if x.reading = (j : Int) then x.weight else 0) + ((if y.reading = (j : Int) then y.weight else 0) + kw l j)
  omega
 | trans _ _ h1 h2 => rw [h1,h2]
theorem kw_nonneg {ks : List daily_kink} (h : ∀ k ∈ ks,0 ≤ k.weight) (j : Nat) : 0 ≤ kw ks j := by
 induction ks with
 | nil => exact Int.le_refl _
 | cons k ks ih =>
  have h1 := ih fun x hx => h x (List.mem_cons_of_mem _ hx)
  have h2 := h k List.mem_cons_self
  show 0 ≤ (if k.reading = (j : Int) then k.weight else 0) + kw ks j
  split <;> omega
theorem least_all {l : List daily_Reading} {x : List Int} {c : Int} (hc : Cor l x c) {d : Nat → Int} {ks : List daily_kink} {C : Int} {V : List Int} (hV : ∀ z ∈ V,z ∈ l.map daily_Reading.Value) {n : Nat} (hn : l.length = n + 1) (hD : DI (vl l) n d C) (hw : ∀ j,j < l.length → -(wt l j) ≤ d j ∧ d j ≤ wt l j)
  (hP : PI (vl l) (wt l) V l.length ks C) {M : Int} (hM : M ∈ V) (hk : ∀ k ∈ ks,k.value ≤ M) (hx : ∀ j,j < l.length → x.getD j 0 ≤ 1000000) :
  c = C ∧ ∀ y : Nat → Int,Mono l.length y → (∀ j,j < l.length → y j ≤ 1000000) → c ≤ costL l y := by
 have hlow : ∀ y : Nat → Int,Mono l.length y → (∀ j,j < l.length → y j ≤ 1000000) → C ≤ costL l y := fun y hy hb => by
  have h1 := nets_prove (v := vl l) hw (fun b hb => hD.p b (by omega)) (by rw [hn]; exact hD.t) hy hb
  rw [hn,hD.s,← hn] at h1
  exact h1
 obtain ⟨y,h1,h2,h3,h4⟩ := hP M
 rw [kA_zero hk,Int.add_zero] at h4
 have h5 := hc.b y h1 fun j hj => by
  rcases h3 j hj with e | e
  ·rw [e]; exact hV M hM
  ·exact hV _ e
 have h6 : costL l y = C := h4
 have h7 := hlow _ hc.m hx
 have h8 := hc.e
 have h9 : c = C := by omega
 exact ⟨h9,fun y hy hb => by rw [h9]; exact hlow y hy hb⟩
end Go.Nilo
