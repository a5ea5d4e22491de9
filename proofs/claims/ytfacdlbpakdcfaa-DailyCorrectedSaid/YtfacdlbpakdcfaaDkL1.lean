/-
  What the plain functions compute, in plain arithmetic, part 1. Conditions: what each theorem names.
-/
import Derived.Test.YtfacdlbpakdcfaaDk3
set_option linter.unusedSimpArgs false
set_option linter.unusedVariables false
namespace Go.Nilo

theorem W_id {n : Int} (h1 : -9223372036854775808 ≤ n) (h2 : n ≤ 9223372036854775807) : W n = n := by
 unfold W
 rw [IntKind.wrap_i64]
 omega

theorem indexLoop {α : Type} (f : α → Bool) (l : List α) (hl : l.length ≤ 4611686018427387904) (b : Int → Option (Step Int Int))
  (hb : ∀ x,b x = cond (decide (x < ((l.length : Nat) : Int))) (Option.bind (getI l x) fun e => cond (f e) (some (.ret x)) (some (.cont (W (x + 1))))) (some (.brk x))) :
  ∀ (m i N : Nat),i + m = l.length → m < N → (∃ k : Int,loopO b N (i : Int) = some (.out k) ∧ 0 ≤ k ∧ (l.drop i).any f = true) ∨ (loopO b N (i : Int) = some (.go ((l.length : Nat) : Int)) ∧ (l.drop i).any f = false)
 | m,i,0,_,h => by omega
 | 0,i,N + 1,hi,_ => by
  right
  have hd : l.drop i = [] := List.drop_eq_nil_of_le (by omega)
  have : (decide ((i : Int) < ((l.length : Nat) : Int))) = false := by simp; omega
  unfold loopO
  rw [hb,this,hd]
  simp; omega
 | m + 1,i,N + 1,hi,hN => by
  have hil : i < l.length := by omega
  have h1 : (decide ((i : Int) < ((l.length : Nat) : Int))) = true := by simp; omega
  have hg : getI l (i : Int) = some l[i] := by unfold getI; simp [hil]
  have hdr : l.drop i = l[i]::l.drop (i + 1) := List.drop_eq_getElem_cons hil
  unfold loopO
  rw [hb,h1,hg,hdr]
  cases hf : f l[i] with
  | true => left; exact ⟨i,by simp only [cond_true,Option.bind_some,hf],by omega,by rw [List.any_cons,hf]; rfl⟩
  | false =>
   have hw : W ((i : Int) + 1) = ((i + 1 : Nat) : Int) := by rw [W_id (by omega) (by omega)]; push_cast; rfl
   rcases indexLoop f l hl b hb m (i + 1) N (by omega) (by omega) with ⟨k,h2,h3,h4⟩ | ⟨h2,h3⟩
   ·left; exact ⟨k,by simp only [cond_true,cond_false,Option.bind_some,hf,hw]; exact h2,h3,by rw [List.any_cons,hf,h4]; rfl⟩
   ·right; exact ⟨by simp only [cond_true,cond_false,Option.bind_some,hf,hw]; exact h2,by rw [List.any_cons,hf,h3]; rfl⟩

theorem tmod_mod {a b : Int} (h : 0 ≤ a) : a.tmod b = a % b := Int.tmod_eq_emod_of_nonneg h
theorem tdiv_div {a b : Int} (h : 0 ≤ a) : a.tdiv b = a / b := Int.tdiv_eq_ediv_of_nonneg h

theorem loopInv {σ ρ : Type} (b : σ → Option (Step σ ρ)) (Inv : Nat → σ → Prop) (n : Nat) (hstep : ∀ i s,i < n → Inv i s → ∃ s',b s = some (.cont s') ∧ Inv (i + 1) s') (hend : ∀ s,Inv n s → b s = some (.brk s)) :
  ∀ (m i : Nat) (s : σ) (N : Nat),i + m = n → m < N → Inv i s → ∃ s',loopO b N s = some (.go s') ∧ Inv n s'
 | m,i,s,0,_,h,_ => by omega
 | 0,i,s,N + 1,hi,_,hs => by
  obtain rfl : i = n := by omega
  exact ⟨s,by unfold loopO; rw [hend s hs],hs⟩
 | m + 1,i,s,N + 1,hi,hN,hs => by
  obtain ⟨s',h1,h2⟩ := hstep i s (by omega) hs
  obtain ⟨s'',h3,h4⟩ := loopInv b Inv n hstep hend m (i + 1) s' N (by omega) (by omega) h2
  exact ⟨s'',by unfold loopO; rw [h1]; exact h3,h4⟩

theorem getI_nat {α : Type} {l : List α} {i : Nat} (h : i < l.length) : getI l (i : Int) = some l[i] := by unfold getI; simp [h]
theorem W_succ {i : Nat} (h : i < 9223372036854775807) : W ((i : Int) + 1) = ((i + 1 : Nat) : Int) := by rw [W_id (by omega) (by omega)]; push_cast; rfl

def sumBy {α : Type} (f : α → Int) (l : List α) : Int := (l.map f).sum
theorem absmul {x y : Int} {A B : Nat} (hx : x.natAbs ≤ A) (hy : y.natAbs ≤ B) : (x * y).natAbs ≤ A * B := by
 rw [Int.natAbs_mul]
 exact Nat.mul_le_mul hx hy

theorem room_ok {n : Nat} (h : n ≤ 1000000) : room n = some () := by unfold room; rw [if_pos h]
theorem getD_lt {α : Type} {l : List α} {x d : α} {j : Nat} (h : j < l.length) : (l ++ [x]).getD j d = l.getD j d := by simp [List.getD,List.getElem?_append_left h]
theorem getD_eq {α : Type} {l : List α} {x d : α} : (l ++ [x]).getD l.length d = x := by simp [List.getD]
theorem mul_bd {a b A B : Int} (h0 : 0 ≤ a) (h1 : 0 ≤ b) (h2 : a ≤ A) (h3 : b ≤ B) : 0 ≤ a * b ∧ a * b ≤ A * B :=
 ⟨Int.mul_nonneg h0 h1,Int.mul_le_mul h2 h3 h1 (by omega)⟩


theorem lt_dec {i n : Nat} (h : i < n) : decide ((i : Int) < (n : Int)) = true := by simp; omega
theorem ge_dec {n : Nat} : decide ((n : Int) < (n : Int)) = false := by simp

def firstG {ρ : Type} (g : Nat → Option ρ) : Nat → Nat → Option ρ
 | _,0 => none
 | i,m + 1 => match g i with
  | some r => some r
  | none => firstG g (i + 1) m
theorem scanS {σ ρ : Type} (st : Nat → σ) (g : Nat → Option ρ) (n : Nat) (b : σ → Option (Step σ ρ))
  (hb : ∀ (i : Nat),i < n → b (st i) = some (match g i with | some r => .ret r | none => .cont (st (i + 1)))) (hend : b (st n) = some (.brk (st n))) :
  ∀ (m i N : Nat),i + m = n → m < N → loopO b N (st i) = some (match firstG g i m with | some r => .out r | none => .go (st n))
 | m,i,0,_,h => by omega
 | 0,i,N + 1,hi,_ => by
  obtain rfl : i = n := by omega
  unfold loopO
  rw [hend]
  rfl
 | m + 1,i,N + 1,hi,hN => by
  unfold loopO firstG
  rw [hb i (by omega)]
  cases hf : g i with
  | some r => rfl
  | none => exact scanS st g n b hb hend m (i + 1) N (by omega) (by omega)
theorem runS {σ ρ : Type} (st : Nat → σ) (n : Nat) (b : σ → Option (Step σ ρ)) (hb : ∀ (i : Nat),i < n → b (st i) = some (.cont (st (i + 1)))) (hend : b (st n) = some (.brk (st n))) {N : Nat} (hN : n < N) : loopO b N (st 0) = some (.go (st n)) := by
 have hno : ∀ (m i : Nat),firstG (fun _ => (none : Option ρ)) i m = none := by
  intro m
  induction m with
  | zero => intro i; rfl
  | succ m ih => intro i; exact ih (i + 1)
 have := scanS st (fun _ => (none : Option ρ)) n b (fun i h => hb i h) hend n 0 N (by omega) hN
 rw [this,hno]


theorem every_gen {N : Nat} {α : Type} {l : List α} {f ok : α → Bool} (hf : ∀ x,f x = !ok x) (hl : l.length < N) (hl' : l.length ≤ 1000000) (b : Int → Option (Step Int Int))
  (hb : ∀ x,b x = cond (decide (x < ((l.length : Nat) : Int))) (Option.bind (getI l x) fun e => cond (f e) (some (.ret x)) (some (.cont (W (x + 1))))) (some (.brk x))) :
  (Option.bind (Option.bind (Option.bind (loopO b N 0) fun x4 => exK x4 (fun _ => some (-1)) some) fun r => some (decide (0 ≤ r))) fun r => some (!r)) = some (l.all ok) := by
 have hany : l.any f = !l.all ok := by
  rw [List.all_eq_not_any_not,Bool.not_not]
  congr 1
  exact funext hf
 rcases indexLoop f l (by omega) b hb l.length 0 N (by omega) (by omega) with ⟨k,a1,a2,a3⟩ | ⟨a1,a2⟩
 ·rw [List.drop_zero,hany] at a3
  rw [show ((0 : Nat) : Int) = 0 from rfl] at a1
  rw [a1]
  have : l.all ok = false := by simpa using a3
  rw [this]
  simp [exK,a2]
 ·rw [List.drop_zero,hany] at a2
  rw [show ((0 : Nat) : Int) = 0 from rfl] at a1
  rw [a1]
  have : l.all ok = true := by simpa using a2
  rw [this]
  simp [exK]
end Go.Nilo
