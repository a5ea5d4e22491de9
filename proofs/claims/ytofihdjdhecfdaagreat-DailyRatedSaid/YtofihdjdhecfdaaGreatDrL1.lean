/-
  What the plain functions compute, in plain arithmetic, part 1. Conditions: what each theorem names.
-/
import Derived.Test.YtofihdjdhecfdaaGreatDr4
set_option linter.unusedSimpArgs false
set_option linter.unusedVariables false
namespace Go.Nilo

theorem oT {n:Int} (h1 : -9223372036854775808≤n) (h2:n≤9223372036854775807):W n=n:=by
  unfold W
  rw [IntKind.wrap_i64]
  omega

/-! ### Loops that dG for the first element -/
theorem aCc {α:Type} (f:α→Bool) (l:List α) (hl:l.length≤4611686018427387904) (b:Int→Option (cY Int Int))
    (hb:∀ x, b x=cond (decide (x < ((l.length:Nat):Int))) (Option.bind (bG l x) fun e=>cond (f e) (some (.ret x)) (some (.cont (W (x + 1))))) (some (.brk x))) :
    ∀ (m i N:Nat), i + m=l.length→m < N→(∃ k:Int, bE b N (i:Int)=some (.out k)∧0≤k∧(l.drop i).any f=true) ∨ (bE b N (i:Int)=some (.go ((l.length:Nat):Int))∧(l.drop i).any f=false)
  | m, i, 0, _, h=>by omega
  | 0, i, N + 1, hi, _=>by
    right
    have hd:l.drop i=[]:=List.drop_eq_nil_of_le (by omega)
    have:(decide ((i:Int) < ((l.length:Nat):Int)))=false:=by simp; omega
    unfold bE
    rw [hb, this, hd]
    simp; omega
  | m + 1, i, N + 1, hi, hN=>by
    have hil:i < l.length:=by omega
    have h1:(decide ((i:Int) < ((l.length:Nat):Int)))=true:=by simp; omega
    have hg:bG l (i:Int)=some l[i]:=by unfold bG; simp [hil]
    have hdr:l.drop i=l[i] :: l.drop (i + 1):=List.drop_eq_getElem_cons hil
    unfold bE
    rw [hb, h1, hg, hdr]
    cases hf:f l[i] with
    | true=>left; exact ⟨i, by simp only [cond_true, Option.bind_some, hf], by omega, by rw [List.any_cons, hf]; rfl⟩
    | false=>
      have hw:W ((i:Int) + 1)=((i + 1:Nat):Int):=by rw [oT (by omega) (by omega)]; push_cast; rfl
      rcases aCc f l hl b hb m (i + 1) N (by omega) (by omega) with ⟨k, h2, h3, h4⟩ | ⟨h2, h3⟩
      · left; exact ⟨k, by simp only [cond_true, cond_false, Option.bind_some, hf, hw]; exact h2, h3, by rw [List.any_cons, hf, h4]; rfl⟩
      · right; exact ⟨by simp only [cond_true, cond_false, Option.bind_some, hf, hw]; exact h2, by rw [List.any_cons, hf, h3]; rfl⟩

theorem uQ {a b:Int} (h:0≤a):a.tmod b=a % b:=Int.tmod_eq_emod_of_nonneg h
theorem oS {a b:Int} (h:0≤a):a.tdiv b=a / b:=Int.tdiv_eq_ediv_of_nonneg h

theorem aAh {σ ρ:Type} (b:σ→Option (cY σ ρ)) (Inv:Nat→σ→Prop) (n:Nat) (hstep:∀ i s, i < n→Inv i s→∃ s', b s=some (.cont s')∧Inv (i + 1) s') (hend:∀ s, Inv n s→b s=some (.brk s)) :
    ∀ (m i:Nat) (s:σ) (N:Nat), i + m=n→m < N→Inv i s→∃ s', bE b N s=some (.go s')∧Inv n s'
  | m, i, s, 0, _, h, _=>by omega
  | 0, i, s, N + 1, hi, _, hs=>by
    obtain rfl:i=n:=by omega
    exact ⟨s, by unfold bE; rw [hend s hs], hs⟩
  | m + 1, i, s, N + 1, hi, hN, hs=>by
    obtain ⟨s', h1, h2⟩:=hstep i s (by omega) hs
    obtain ⟨s'', h3, h4⟩:=aAh b Inv n hstep hend m (i + 1) s' N (by omega) (by omega) h2
    exact ⟨s'', by unfold bE; rw [h1]; exact h3, h4⟩

theorem qP {α:Type} {l:List α} {i:Nat} (h:i < l.length):bG l (i:Int)=some l[i]:=by unfold bG; simp [h]
theorem fP {i:Nat} (h:i < 9223372036854775807):W ((i:Int) + 1)=((i + 1:Nat):Int):=by rw [oT (by omega) (by omega)]; push_cast; rfl

theorem lB {n:Nat} (h:n≤1000000):pG n=some ():=by unfold pG; rw [if_pos h]
theorem xP {α:Type} {l:List α} {x d:α} {j:Nat} (h:j < l.length):(l++[x]).getD j d=l.getD j d:=by simp [List.getD, List.getElem?_append_left h]
theorem xJ {α:Type} {l:List α} {x d:α}:(l++[x]).getD l.length d=x:=by simp [List.getD]
theorem cF {α:Type} {l:List α} {d:α} {j:Nat} (h:j < l.length):l[j]=l.getD j d:=by simp [List.getD, h]

theorem yM {a b A B:Int} (h0:0≤a) (h1:0≤b) (h2:a≤A) (h3:b≤B):0≤a * b∧a * b≤A * B :=
  ⟨Int.mul_nonneg h0 h1, Int.mul_le_mul h2 h3 h1 (by omega)⟩


theorem aCb {α:Type} (f:α→Bool) (l:List α) (hl:l.length≤1000000) (b:Int→Option (cY Int Int))
    (hb:∀ x, b x=cond (decide (x < ((l.length:Nat):Int))) (Option.bind (bG l x) fun e=>cond (f e) (some (.ret x)) (some (.cont (W (x + 1))))) (some (.brk x))) :
    ∀ (m i N:Nat), i + m=l.length→m < N→(∀ j (h:j < l.length), j < i→f l[j]=false) →
      (l.findIdx f < l.length∧bE b N (i:Int)=some (.out ((l.findIdx f:Nat):Int))) ∨ (l.findIdx f=l.length∧bE b N (i:Int)=some (.go ((l.length:Nat):Int)))
  | m, i, 0, _, h, _=>by omega
  | 0, i, N + 1, hi, _, hf=>by
    right
    have hall:l.findIdx f=l.length:=by
      rw [List.findIdx_eq_length]
      intro x hx
      obtain ⟨j, hj, rfl⟩:=List.getElem_of_mem hx
      exact hf j hj (by omega)
    have hd:(decide ((i:Int) < ((l.length:Nat):Int)))=false:=by simp; omega
    refine ⟨hall, ?_⟩
    unfold bE
    rw [hb, hd]
    simp; omega
  | m + 1, i, N + 1, hi, hN, hf=>by
    have hil:i < l.length:=by omega
    have h1:(decide ((i:Int) < ((l.length:Nat):Int)))=true:=by simp; omega
    unfold bE
    rw [hb, h1, qP hil]
    cases hfi:f l[i] with
    | true=>
      left
      have he:l.findIdx f=i:=(List.findIdx_eq hil).2 ⟨hfi, fun j hj=>hf j (by omega) hj⟩
      exact ⟨by omega, by simp only [cond_true, Option.bind_some, hfi, he]⟩
    | false=>
      have ih:=aCb f l hl b hb m (i + 1) N (by omega) (by omega) (fun j h hj=>by
        by_cases hji:j=i
        · subst hji; exact hfi
        · exact hf j h (by omega))
      simp only [cond_true, cond_false, Option.bind_some, hfi, fP (i:=i) (by omega)]
      exact ih

/-! ### Loops over all indices, from closed forms -/
theorem lR {i n:Nat} (h:i < n):decide ((i:Int) < (n:Int))=true:=by simp; omega
theorem mJ {n:Nat}:decide ((n:Int) < (n:Int))=false:=by simp

/-! ### Loops whose states are known -/
def oJ {ρ:Type} (g:Nat→Option ρ):Nat→Nat→Option ρ
  | _, 0=>none
  | i, m + 1=>match g i with
    | some r=>some r
    | none=>oJ g (i + 1) m
theorem aCg {σ ρ:Type} (st:Nat→σ) (g:Nat→Option ρ) (n:Nat) (b:σ→Option (cY σ ρ))
    (hb:∀ (i:Nat), i < n→b (st i)=some (match g i with | some r=>.ret r | none=>.cont (st (i + 1)))) (hend:b (st n)=some (.brk (st n))) :
    ∀ (m i N:Nat), i + m=n→m < N→bE b N (st i)=some (match oJ g i m with | some r=>.out r | none=>.go (st n))
  | m, i, 0, _, h=>by omega
  | 0, i, N + 1, hi, _=>by
    obtain rfl:i=n:=by omega
    unfold bE
    rw [hend]
    rfl
  | m + 1, i, N + 1, hi, hN=>by
    unfold bE oJ
    rw [hb i (by omega)]
    cases hf:g i with
    | some r=>rfl
    | none=>exact aCg st g n b hb hend m (i + 1) N (by omega) (by omega)
theorem uM {σ ρ:Type} (st:Nat→σ) (n:Nat) (b:σ→Option (cY σ ρ)) (hb:∀ (i:Nat), i < n→b (st i)=some (.cont (st (i + 1)))) (hend:b (st n)=some (.brk (st n))) {N:Nat} (hN:n < N):bE b N (st 0)=some (.go (st n)):=by
  have hno:∀ (m i:Nat), oJ (fun _=>(none:Option ρ)) i m=none:=by
    intro m
    induction m with
    | zero=>intro i; rfl
    | succ m ih=>intro i; exact ih (i + 1)
  have:=aCg st (fun _=>(none:Option ρ)) n b (fun i h=>hb i h) hend n 0 N (by omega) hN
  rw [this, hno]


theorem aAg {n d n' d':Nat} (hd:0 < d) (hd':0 < d') (h:n * d'=n' * d):n / Nat.gcd n d ∣ n' / Nat.gcd n' d':=by
  have g0:0 < Nat.gcd n d:=Nat.gcd_pos_of_pos_right _ hd
  have g0':0 < Nat.gcd n' d':=Nat.gcd_pos_of_pos_right _ hd'
  have e1:n / Nat.gcd n d * Nat.gcd n d=n:=Nat.div_mul_cancel (Nat.gcd_dvd_left _ _)
  have e2:d / Nat.gcd n d * Nat.gcd n d=d:=Nat.div_mul_cancel (Nat.gcd_dvd_right _ _)
  have e3:n' / Nat.gcd n' d' * Nat.gcd n' d'=n':=Nat.div_mul_cancel (Nat.gcd_dvd_left _ _)
  have e4:d' / Nat.gcd n' d' * Nat.gcd n' d'=d':=Nat.div_mul_cancel (Nat.gcd_dvd_right _ _)
  have hc:Nat.Coprime (n / Nat.gcd n d) (d / Nat.gcd n d):=Nat.coprime_div_gcd_div_gcd g0
  generalize Nat.gcd n d=g at *
  generalize Nat.gcd n' d'=g' at *
  generalize n / g=a at *
  generalize d / g=b at *
  generalize n' / g'=a' at *
  generalize d' / g'=b' at *
  subst e1 e2 e3 e4
  have h1:(a * b') * (g * g')=(a' * b) * (g * g'):=by
    have:a * g * (b' * g')=a' * g' * (b * g):=h
    calc (a * b') * (g * g')=a * g * (b' * g'):=by ac_rfl
      _=a' * g' * (b * g):=this
      _=(a' * b) * (g * g'):=by ac_rfl
  have h2:a * b'=a' * b:=Nat.eq_of_mul_eq_mul_right (Nat.mul_pos g0 g0') h1
  have h3:a ∣ a' * b:=⟨b', h2.symm⟩
  exact hc.dvd_of_dvd_mul_right h3
theorem aJi {n d n' d':Nat} (hd:0 < d) (hd':0 < d') (hn:0 < n) (hn':0 < n') (h:n * d'=n' * d):n / Nat.gcd n d=n' / Nat.gcd n' d'∧d / Nat.gcd n d=d' / Nat.gcd n' d':=by
  refine ⟨Nat.dvd_antisymm (aAg hd hd' h) (aAg hd' hd h.symm), ?_⟩
  have a:=aAg (n:=d) (d:=n) (n':=d') (d':=n') hn hn' (by rw [Nat.mul_comm d n', Nat.mul_comm d' n]; exact h.symm)
  have b:=aAg (n:=d') (d:=n') (n':=d) (d':=n) hn' hn (by rw [Nat.mul_comm d n', Nat.mul_comm d' n]; exact h)
  rw [Nat.gcd_comm n d, Nat.gcd_comm n' d']
  exact Nat.dvd_antisymm a b

/-- The common divisor, by remainders: a loop of few rounds. -/
theorem aDy {σ ρ:Type} (f:σ→Option (cY σ ρ)) (mk:Nat→Nat→σ) (h0:∀ a, f (mk a 0)=some (.brk (mk a 0))) (h1:∀ a b:Nat, 0 < b→a < 1000000000000→b < 1000000000000→f (mk a b)=some (.cont (mk b (a % b)))) :
    ∀ (k a b N:Nat), a < 1000000000000→b < 1000000000000→b < 2 ^ k→2 * k < N→bE f N (mk a b)=some (.go (mk (Nat.gcd a b) 0))
  | 0, a, b, 0, _, _, _, hN=>by omega
  | k + 1, a, b, 0, _, _, _, hN=>by omega
  | 0, a, b, N + 1, ha, hb, hk, hN=>by
    obtain rfl:b=0:=by simpa using hk
    unfold bE
    rw [h0, Nat.gcd_zero_right]
  | k + 1, a, b, N + 1, ha, hb, hk, hN=>by
    by_cases hb0:b=0
    · subst hb0
      unfold bE
      rw [h0, Nat.gcd_zero_right]
    · unfold bE
      rw [h1 a b (by omega) ha hb]
      simp only []
      have hr:=Nat.mod_lt a (show b > 0 by omega)
      by_cases hr0:a % b=0
      · rw [hr0]
        obtain ⟨M, rfl⟩:∃ M, N=M + 1:=⟨N - 1, by omega⟩
        unfold bE
        rw [h0, Nat.gcd_comm, Nat.gcd_rec, hr0, Nat.gcd_zero_left]
      · obtain ⟨M, rfl⟩:∃ M, N=M + 1:=⟨N - 1, by omega⟩
        unfold bE
        rw [h1 b (a % b) (by omega) hb (by omega)]
        simp only []
        have hr2:=Nat.mod_lt b (show a % b > 0 by omega)
        have hhalf:b % (a % b) < 2 ^ k:=by
          have hp:2 ^ (k + 1)=2 * 2 ^ k:=by rw [Nat.pow_succ, Nat.mul_comm]
          rcases Nat.lt_or_ge (a % b) (2 ^ k) with h | h
          · omega
          · have:b % (a % b)=b - a % b:=by
              rw [Nat.mod_eq_sub_mod (by omega), Nat.mod_eq_of_lt (by omega)]
            omega
        rw [aDy f mk h0 h1 k (a % b) (b % (a % b)) M (by omega) (by omega) hhalf (by omega)]
        have e:Nat.gcd (a % b) (b % (a % b))=Nat.gcd a b:=by
          rw [Nat.gcd_comm (a % b), ← Nat.gcd_rec (a % b) b, ← Nat.gcd_rec b a, Nat.gcd_comm]
        rw [e]
theorem sS {N:Nat} {α:Type} {l:List α} {f ok:α→Bool} (hf:∀ x, f x = !ok x) (hl:l.length < N) (hl':l.length≤1000000) (b:Int→Option (cY Int Int))
    (hb:∀ x, b x=cond (decide (x < ((l.length:Nat):Int))) (Option.bind (bG l x) fun e=>cond (f e) (some (.ret x)) (some (.cont (W (x + 1))))) (some (.brk x))) :
    (Option.bind (Option.bind (Option.bind (bE b N 0) fun x4=>exK x4 (fun _=>some (-1)) some) fun r=>some (decide (0≤r))) fun r=>some (!r))=some (l.all ok):=by
  have hany:l.any f = !l.all ok:=by
    rw [List.all_eq_not_any_not, Bool.not_not]
    congr 1
    exact funext hf
  rcases aCc f l (by omega) b hb l.length 0 N (by omega) (by omega) with ⟨k, a1, a2, a3⟩ | ⟨a1, a2⟩
  · rw [List.drop_zero, hany] at a3
    rw [show ((0:Nat):Int)=0 from rfl] at a1
    rw [a1]
    have:l.all ok=false:=by simpa using a3
    rw [this]
    simp [exK, a2]
  · rw [List.drop_zero, hany] at a2
    rw [show ((0:Nat):Int)=0 from rfl] at a1
    rw [a1]
    have:l.all ok=true:=by simpa using a2
    rw [this]
    simp [exK]
end Go.Nilo
