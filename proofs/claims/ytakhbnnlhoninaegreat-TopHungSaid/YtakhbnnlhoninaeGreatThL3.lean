/-
  What the plain functions compute, in plain arithmetic, part 3. Conditions: what each theorem names.
-/
import Derived.Test.YtakhbnnlhoninaeGreatThL2
set_option linter.unusedSimpArgs false
set_option linter.unusedVariables false
namespace Go.Nilo
theorem dT {p : Prop} [Decidable p] (h : p) : decide p = true := decide_eq_true h
theorem dF {p : Prop} [Decidable p] (h : ¬p) : decide p = false := decide_eq_false h
theorem getI_d {α : Type} {l : List α} {i : Nat} (d : α) (h : i < l.length) : getI l (i : Int) = some (l.getD i d) := by rw [getI_nat h,get_getD (d := d) h]
theorem W_sm {n : Int} (h1 : -4000000000000000000 ≤ n) (h2 : n ≤ 4000000000000000000) : W n = n := W_id (by omega) (by omega)

def afterS {σ ρ : Type} (st : Step σ ρ) (k : σ → Option (Ex σ ρ)) : Option (Ex σ ρ) := match st with
 | .cont s => k s
 | .brk s => some (.go s)
 | .ret r => some (.out r)
theorem loop_one {σ ρ : Type} {b : σ → Option (Step σ ρ)} {M : Nat} {s : σ} {st : Step σ ρ} (h : b s = some st) : loopO b (M + 1) s = afterS st (loopO b M) := by
 show (match b s with | none => none | some (.cont s') => loopO b M s' | some (.brk s') => some (.go s') | some (.ret r) => some (.out r)) = _
 rw [h]
 cases st <;> rfl

def lexB : List Nat → List Nat → Bool
 | x::l,y::m => if x = y then lexB l m else decide (x < y)
 | [],_::_ => true
 | _,[] => false
theorem lex_irrefl : ∀ l,lexB l l = false
 | [] => rfl
 | x::l => by unfold lexB; rw [if_pos rfl]; exact lex_irrefl l
theorem lex_trans : ∀ {l m n : List Nat},lexB l m = true → lexB m n = true → lexB l n = true
 | [],[],_,h,_ => nomatch h
 | [],_::_,[],_,h => nomatch h
 | [],_::_,_::_,_,_ => rfl
 | _::_,[],_,h,_ => nomatch h
 | _::_,_::_,[],_,h => nomatch h
 | x::l,y::m,z::n,h1,h2 => by
  unfold lexB at h1 h2 ⊢
  by_cases e1 : x = y
  ·subst e1
   rw [if_pos rfl] at h1
   by_cases e2 : x = z
   ·subst e2
    rw [if_pos rfl] at h2 ⊢
    exact lex_trans h1 h2
   ·rw [if_neg e2] at h2 ⊢
    exact h2
  ·rw [if_neg e1] at h1
   by_cases e2 : y = z
   ·subst e2
    rw [if_neg e1]
    exact h1
   ·rw [if_neg e2] at h2
    have h1' := of_decide_eq_true h1
    have h2' := of_decide_eq_true h2
    rw [if_neg (by omega)]
    exact dT (by omega)
theorem lex_tri : ∀ l m : List Nat,lexB l m = true ∨ l = m ∨ lexB m l = true
 | [],[] => .inr (.inl rfl)
 | [],_::_ => .inl rfl
 | _::_,[] => .inr (.inr rfl)
 | x::l,y::m => by
  by_cases e : x = y
  ·subst e
   rcases lex_tri l m with h | h | h
   ·left; unfold lexB; rw [if_pos rfl]; exact h
   ·right; left; rw [h]
   ·right; right; unfold lexB; rw [if_pos rfl]; exact h
  ·rcases Nat.lt_or_gt_of_ne e with h | h
   ·left; unfold lexB; rw [if_neg e]; exact dT h
   ·right; right; unfold lexB; rw [if_neg (Ne.symm e)]; exact dT h
def pc (c : Nat → Int) : List Nat → Int
 | [] => 0
 | x::q => c x + pc c q
def Bt (c : Nat → Int) (q r : List Nat) : Prop := pc c q < pc c r ∨ pc c q = pc c r ∧ (q.length < r.length ∨ q.length = r.length ∧ lexB q r = true)
theorem bt_irrefl {c : Nat → Int} {q : List Nat} : ¬ Bt c q q := by
 rintro (h | ⟨-,h | ⟨-,h⟩⟩)
 ·omega
 ·omega
 ·rw [lex_irrefl] at h; cases h
theorem bt_trans {c : Nat → Int} {q r s : List Nat} (h1 : Bt c q r) (h2 : Bt c r s) : Bt c q s := by
 unfold Bt at *
 rcases h1 with h1 | ⟨h1,h1' | ⟨h1',h1''⟩⟩ <;> rcases h2 with h2 | ⟨h2,h2' | ⟨h2',h2''⟩⟩
 all_goals first
  | (left; omega)
  | (right; refine ⟨by omega,?_⟩; left; omega)
  | (right; exact ⟨by omega,.inr ⟨by omega,lex_trans h1'' h2''⟩⟩)
theorem bt_tri (c : Nat → Int) (q r : List Nat) : Bt c q r ∨ q = r ∨ Bt c r q := by
 unfold Bt
 rcases lex_tri q r with h | h | h
 ·by_cases h1 : pc c q < pc c r
  ·exact .inl (.inl h1)
  ·by_cases h2 : pc c r < pc c q
   ·exact .inr (.inr (.inl h2))
   ·by_cases h3 : q.length ≤ r.length
    ·exact .inl (.inr ⟨by omega,by by_cases h4 : q.length = r.length; exact .inr ⟨h4,h⟩; exact .inl (by omega)⟩)
    ·exact .inr (.inr (.inr ⟨by omega,.inl (by omega)⟩))
 ·exact .inr (.inl h)
 ·by_cases h1 : pc c q < pc c r
  ·exact .inl (.inl h1)
  ·by_cases h2 : pc c r < pc c q
   ·exact .inr (.inr (.inl h2))
   ·by_cases h3 : r.length ≤ q.length
    ·exact .inr (.inr (.inr ⟨by omega,by by_cases h4 : r.length = q.length; exact .inr ⟨h4,h⟩; exact .inl (by omega)⟩))
    ·exact .inl (.inr ⟨by omega,.inl (by omega)⟩)
theorem bt_of_not {c : Nat → Int} {q r s : List Nat} (h1 : Bt c q r) (h2 : ¬ Bt c s r) : ¬ Bt c s q := fun h => h2 (bt_trans h h1)
theorem bt_cons {c : Nat → Int} {x : Nat} {q r : List Nat} : Bt c (x::q) (x::r) ↔ Bt c q r := by
 have e : lexB (x::q) (x::r) = lexB q r := by
  show (if x = x then lexB q r else _) = _
  rw [if_pos rfl]
 have e1 : pc c (x::q) = c x + pc c q := rfl
 have e2 : pc c (x::r) = c x + pc c r := rfl
 unfold Bt
 rw [e,e1,e2,List.length_cons,List.length_cons]
 constructor
 ·rintro (h | ⟨h,h' | ⟨h',h''⟩⟩)
  ·left; omega
  ·exact .inr ⟨by omega,.inl (by omega)⟩
  ·exact .inr ⟨by omega,.inr ⟨by omega,h''⟩⟩
 ·rintro (h | ⟨h,h' | ⟨h',h''⟩⟩)
  ·left; omega
  ·exact .inr ⟨by omega,.inl (by omega)⟩
  ·exact .inr ⟨by omega,.inr ⟨by omega,h''⟩⟩
def Seg (S : Nat → Nat → Bool) : Nat → List Nat → Nat → Prop
 | a,[],b => a = b
 | a,x::q,b => (a < x ∧ S a x = true) ∧ Seg S x q b
section ways
variable {S : Nat → Nat → Bool} {c : Nat → Int} {l : Nat}
theorem seg_le : ∀ {q : List Nat} {a b : Nat},Seg S a q b → a + q.length ≤ b
 | [],a,b,h => by have h' : a = b := h; simp [h']
 | x::q,a,b,h => by
  have := seg_le h.2
  have := h.1.1
  simp only [List.length_cons]
  omega
theorem seg_mem : ∀ {q : List Nat} {a b : Nat},Seg S a q b → ∀ x ∈ q,a < x ∧ x ≤ b
 | [],_,_,_,x,hx => nomatch hx
 | y::q,a,b,h,x,hx => by
  have h1 := seg_le h.2
  have h0 := h.1.1
  rcases List.mem_cons.1 hx with rfl | hx
  ·exact ⟨h.1.1,by omega⟩
  ·have := seg_mem h.2 x hx
   omega
def Best (S : Nat → Nat → Bool) (c : Nat → Int) (a : Nat) (q : List Nat) (b : Nat) : Prop := Seg S a q b ∧ ∀ r,Seg S a r b → ¬ Bt c r q
theorem best_uniq {a b : Nat} {q r : List Nat} (h1 : Best S c a q b) (h2 : Best S c a r b) : q = r := by
 rcases bt_tri c q r with h | h | h
 ·exact absurd h (h2.2 _ h1.1)
 ·exact h
 ·exact absurd h (h1.2 _ h2.1)
theorem best_self {a : Nat} : Best S c a [] a := ⟨rfl,fun r h => by
 have := seg_le h
 cases r with
 | nil => exact bt_irrefl
 | cons => simp only [List.length_cons] at this; omega⟩
theorem best_tail {a b x : Nat} {q : List Nat} (h : Best S c a (x::q) b) : Best S c x q b :=
 ⟨h.1.2,fun r hr hb => h.2 (x::r) ⟨h.1.1,hr⟩ (bt_cons.2 hb)⟩
def HdW (S : Nat → Nat → Bool) (c : Nat → Int) (l a k : Nat) : Option (List Nat) → Prop
 | none => ∀ x q,x < k → ¬ Seg S a (x::q) l
 | some q => (∃ x r,q = x::r ∧ x < k) ∧ Seg S a q l ∧ ∀ y r,y < k → Seg S a (y::r) l → ¬ Bt c (y::r) q
theorem hd_zero {a : Nat} : HdW S c l a (a + 1) none := fun x q hx h => by have := h.1.1; omega
theorem hd_skip {a k : Nat} {o : Option (List Nat)} (h : HdW S c l a k o) (hk : ∀ q,¬ Seg S a (k::q) l) : HdW S c l a (k + 1) o := by
 cases o with
 | none =>
  intro x q hx hs
  by_cases e : x = k
  ·subst e; exact hk q hs
  ·exact h x q (by omega) hs
 | some q =>
  obtain ⟨⟨x,r,h1,h2⟩,h3,h4⟩ := h
  refine ⟨⟨x,r,h1,by omega⟩,h3,fun y r' hy hs => ?_⟩
  by_cases e : y = k
  ·subst e; exact absurd hs (hk r')
  ·exact h4 y r' (by omega) hs
theorem hd_new {a k : Nat} {o : Option (List Nat)} {q : List Nat} (h : HdW S c l a k o) (ha : a < k) (hS : S a k = true) (hq : Best S c k q l)
  (hb : ∀ r,o = some r → pc c (k::q) < pc c r ∨ pc c (k::q) = pc c r ∧ (k::q).length < r.length) : HdW S c l a (k + 1) (some (k::q)) := by
 refine ⟨⟨k,q,rfl,by omega⟩,⟨⟨ha,hS⟩,hq.1⟩,fun y r hy hs => ?_⟩
 by_cases e : y = k
 ·subst e
  rw [bt_cons]
  exact hq.2 r hs.2
 ·cases o with
  | none => exact absurd hs (h y r (by omega))
  | some r0 =>
   have h1 := h.2.2 y r (by omega) hs
   refine bt_of_not ?_ h1
   rcases hb r0 rfl with hb | ⟨hb,hb'⟩
   ·exact .inl hb
   ·exact .inr ⟨hb,.inl hb'⟩
theorem hd_keep {a k : Nat} {q r : List Nat} (h : HdW S c l a k (some r)) (hq : Best S c k q l)
  (hb : ¬ (pc c (k::q) < pc c r ∨ pc c (k::q) = pc c r ∧ (k::q).length < r.length)) : HdW S c l a (k + 1) (some r) := by
 obtain ⟨⟨x,r0,h1,h2⟩,h3,h4⟩ := h
 refine ⟨⟨x,r0,h1,by omega⟩,h3,fun y r' hy hs => ?_⟩
 by_cases e : y = k
 ·subst e
  have h5 : Bt c r (y::q) := by
   have hlt : lexB r (y::q) = true := by
    rw [h1]
    show (if x = y then _ else decide (x < y)) = true
    rw [if_neg (by omega)]
    exact dT h2
   by_cases e1 : pc c r < pc c (y::q)
   ·exact .inl e1
   ·have e2 : pc c r = pc c (y::q) := by omega
    refine .inr ⟨e2,?_⟩
    by_cases e3 : r.length < (y::q).length
    ·exact .inl e3
    ·exact .inr ⟨by omega,hlt⟩
  have h6 : ¬ Bt c (y::r') (y::q) := fun hb' => hq.2 r' hs.2 (bt_cons.1 hb')
  intro h7
  exact h6 (bt_trans h7 h5)
 ·exact h4 y r' (by omega) hs
theorem hd_end {a : Nat} {q : List Nat} (h : HdW S c l a (l + 1) (some q)) (ha : a < l) : Best S c a q l := by
 refine ⟨h.2.1,fun r hs => ?_⟩
 cases r with
 | nil => have : a = l := hs; omega
 | cons y r =>
  have := seg_le hs.2
  exact h.2.2 y r (by omega) hs
theorem hd_none {a : Nat} (h : HdW S c l a (l + 1) none) (ha : a < l) : ∀ q,¬ Seg S a q l := fun q hs => by
 cases q with
 | nil => have : a = l := hs; omega
 | cons y r =>
  have := seg_le hs.2
  exact h y r (by omega) hs
end ways
end Go.Nilo
