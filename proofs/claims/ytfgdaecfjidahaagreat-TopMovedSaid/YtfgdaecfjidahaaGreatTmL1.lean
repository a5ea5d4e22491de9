/-
  What the plain functions compute, in plain arithmetic, part 1. Conditions: what each theorem names.
-/
import Derived.Test.YtfgdaecfjidahaaGreatTm4
set_option linter.unusedSimpArgs false
set_option linter.unusedVariables false
namespace Go.Nilo

theorem pN {n:Int} (h1 : -9223372036854775808≤n) (h2:n≤9223372036854775807):W n=n:=by
  unfold W
  rw [IntKind.wrap_i64]
  omega

/-! ### Loops that eZ for the first element -/
theorem zV {α:Type} (f:α→Bool) (l:List α) (hl:l.length≤4611686018427387904) (b:Int→Option (cP Int Int))
    (hb:∀ x, b x=cond (decide (x < ((l.length:Nat):Int))) (Option.bind (bQ l x) fun e=>cond (f e) (some (.ret x)) (some (.cont (W (x + 1))))) (some (.brk x))) :
    ∀ (m i N:Nat), i + m=l.length→m < N→(∃ k:Int, bC b N (i:Int)=some (.out k)∧0≤k∧(l.drop i).any f=true) ∨ (bC b N (i:Int)=some (.go ((l.length:Nat):Int))∧(l.drop i).any f=false)
  | m, i, 0, _, h=>by omega
  | 0, i, N + 1, hi, _=>by
    right
    have hd:l.drop i=[]:=List.drop_eq_nil_of_le (by omega)
    have:(decide ((i:Int) < ((l.length:Nat):Int)))=false:=by simp; omega
    unfold bC
    rw [hb, this, hd]
    simp; omega
  | m + 1, i, N + 1, hi, hN=>by
    have hil:i < l.length:=by omega
    have h1:(decide ((i:Int) < ((l.length:Nat):Int)))=true:=by simp; omega
    have hg:bQ l (i:Int)=some l[i]:=by unfold bQ; simp [hil]
    have hdr:l.drop i=l[i] :: l.drop (i + 1):=List.drop_eq_getElem_cons hil
    unfold bC
    rw [hb, h1, hg, hdr]
    cases hf:f l[i] with
    | true=>left; exact ⟨i, by simp only [cond_true, Option.bind_some, hf], by omega, by rw [List.any_cons, hf]; rfl⟩
    | false=>
      have hw:W ((i:Int) + 1)=((i + 1:Nat):Int):=by rw [pN (by omega) (by omega)]; push_cast; rfl
      rcases zV f l hl b hb m (i + 1) N (by omega) (by omega) with ⟨k, h2, h3, h4⟩ | ⟨h2, h3⟩
      · left; exact ⟨k, by simp only [cond_true, cond_false, Option.bind_some, hf, hw]; exact h2, h3, by rw [List.any_cons, hf, h4]; rfl⟩
      · right; exact ⟨by simp only [cond_true, cond_false, Option.bind_some, hf, hw]; exact h2, by rw [List.any_cons, hf, h3]; rfl⟩

theorem oZ {a b:Int} (h:0≤a):a.tmod b=a % b:=Int.tmod_eq_emod_of_nonneg h
theorem uV {a b:Int} (h:0≤a):a.tdiv b=a / b:=Int.tdiv_eq_ediv_of_nonneg h

theorem jK {σ ρ:Type} (b:σ→Option (cP σ ρ)) (Inv:Nat→σ→Prop) (n:Nat) (hstep:∀ i s, i < n→Inv i s→∃ s', b s=some (.cont s')∧Inv (i + 1) s') (hend:∀ s, Inv n s→b s=some (.brk s)) :
    ∀ (m i:Nat) (s:σ) (N:Nat), i + m=n→m < N→Inv i s→∃ s', bC b N s=some (.go s')∧Inv n s'
  | m, i, s, 0, _, h, _=>by omega
  | 0, i, s, N + 1, hi, _, hs=>by
    obtain rfl:i=n:=by omega
    exact ⟨s, by unfold bC; rw [hend s hs], hs⟩
  | m + 1, i, s, N + 1, hi, hN, hs=>by
    obtain ⟨s', h1, h2⟩:=hstep i s (by omega) hs
    obtain ⟨s'', h3, h4⟩:=jK b Inv n hstep hend m (i + 1) s' N (by omega) (by omega) h2
    exact ⟨s'', by unfold bC; rw [h1]; exact h3, h4⟩

theorem tI {α:Type} {l:List α} {i:Nat} (h:i < l.length):bQ l (i:Int)=some l[i]:=by unfold bQ; simp [h]
theorem dQ {i:Nat} (h:i < 9223372036854775807):W ((i:Int) + 1)=((i + 1:Nat):Int):=by rw [pN (by omega) (by omega)]; push_cast; rfl

theorem mX {n:Nat} (h:n≤1000000):rR n=some ():=by unfold rR; rw [if_pos h]
theorem lN {α:Type} {l:List α} {x d:α} {j:Nat} (h:j < l.length):(l++[x]).getD j d=l.getD j d:=by simp [List.getD, List.getElem?_append_left h]
theorem lO {α:Type} {l:List α} {x d:α}:(l++[x]).getD l.length d=x:=by simp [List.getD]
theorem eF {α:Type} {l:List α} {d:α} {j:Nat} (h:j < l.length):l[j]=l.getD j d:=by simp [List.getD, h]

theorem aEk {a b A B:Int} (h0:0≤a) (h1:0≤b) (h2:a≤A) (h3:b≤B):0≤a * b∧a * b≤A * B :=
  ⟨Int.mul_nonneg h0 h1, Int.mul_le_mul h2 h3 h1 (by omega)⟩


theorem aDa {α:Type} (f:α→Bool) (l:List α) (hl:l.length≤1000000) (b:Int→Option (cP Int Int))
    (hb:∀ x, b x=cond (decide (x < ((l.length:Nat):Int))) (Option.bind (bQ l x) fun e=>cond (f e) (some (.ret x)) (some (.cont (W (x + 1))))) (some (.brk x))) :
    ∀ (m i N:Nat), i + m=l.length→m < N→(∀ j (h:j < l.length), j < i→f l[j]=false) →
      (l.findIdx f < l.length∧bC b N (i:Int)=some (.out ((l.findIdx f:Nat):Int))) ∨ (l.findIdx f=l.length∧bC b N (i:Int)=some (.go ((l.length:Nat):Int)))
  | m, i, 0, _, h, _=>by omega
  | 0, i, N + 1, hi, _, hf=>by
    right
    have hall:l.findIdx f=l.length:=by
      rw [List.findIdx_eq_length]
      intro x hx
      obtain ⟨j, hj, rfl⟩:=List.getElem_of_mem hx
      exact hf j hj (by omega)
    have hd:(decide ((i:Int) < ((l.length:Nat):Int)))=false:=by simp; omega
    refine ⟨hall, ?_⟩
    unfold bC
    rw [hb, hd]
    simp; omega
  | m + 1, i, N + 1, hi, hN, hf=>by
    have hil:i < l.length:=by omega
    have h1:(decide ((i:Int) < ((l.length:Nat):Int)))=true:=by simp; omega
    unfold bC
    rw [hb, h1, tI hil]
    cases hfi:f l[i] with
    | true=>
      left
      have he:l.findIdx f=i:=(List.findIdx_eq hil).2 ⟨hfi, fun j hj=>hf j (by omega) hj⟩
      exact ⟨by omega, by simp only [cond_true, Option.bind_some, hfi, he]⟩
    | false=>
      have ih:=aDa f l hl b hb m (i + 1) N (by omega) (by omega) (fun j h hj=>by
        by_cases hji:j=i
        · subst hji; exact hfi
        · exact hf j h (by omega))
      simp only [cond_true, cond_false, Option.bind_some, hfi, dQ (i:=i) (by omega)]
      exact ih

/-! ### Loops over all indices, from closed forms -/
theorem sO {i n:Nat} (h:i < n):decide ((i:Int) < (n:Int))=true:=by simp; omega
theorem pZ {n:Nat}:decide ((n:Int) < (n:Int))=false:=by simp

/-! ### Loops whose states are known -/
def yP {ρ:Type} (g:Nat→Option ρ):Nat→Nat→Option ρ
  | _, 0=>none
  | i, m + 1=>match g i with
    | some r=>some r
    | none=>yP g (i + 1) m
theorem aH8 {σ ρ:Type} (st:Nat→σ) (g:Nat→Option ρ) (n:Nat) (b:σ→Option (cP σ ρ))
    (hb:∀ (i:Nat), i < n→b (st i)=some (match g i with | some r=>.ret r | none=>.cont (st (i + 1)))) (hend:b (st n)=some (.brk (st n))) :
    ∀ (m i N:Nat), i + m=n→m < N→bC b N (st i)=some (match yP g i m with | some r=>.out r | none=>.go (st n))
  | m, i, 0, _, h=>by omega
  | 0, i, N + 1, hi, _=>by
    obtain rfl:i=n:=by omega
    unfold bC
    rw [hend]
    rfl
  | m + 1, i, N + 1, hi, hN=>by
    unfold bC yP
    rw [hb i (by omega)]
    cases hf:g i with
    | some r=>rfl
    | none=>exact aH8 st g n b hb hend m (i + 1) N (by omega) (by omega)
theorem aEb {σ ρ:Type} (st:Nat→σ) (n:Nat) (b:σ→Option (cP σ ρ)) (hb:∀ (i:Nat), i < n→b (st i)=some (.cont (st (i + 1)))) (hend:b (st n)=some (.brk (st n))) {N:Nat} (hN:n < N):bC b N (st 0)=some (.go (st n)):=by
  have hno:∀ (m i:Nat), yP (fun _=>(none:Option ρ)) i m=none:=by
    intro m
    induction m with
    | zero=>intro i; rfl
    | succ m ih=>intro i; exact ih (i + 1)
  have:=aH8 st (fun _=>(none:Option ρ)) n b (fun i h=>hb i h) hend n 0 N (by omega) hN
  rw [this, hno]


theorem aAy {n d n' d':Nat} (hd:0 < d) (hd':0 < d') (h:n * d'=n' * d):n / Nat.gcd n d ∣ n' / Nat.gcd n' d':=by
  have g0:0 < Nat.gcd n d:=Nat.gcd_pos_of_pos_right _ hd
  have g0':0 < Nat.gcd n' d':=Nat.gcd_pos_of_pos_right _ hd'
  have e1:n / Nat.gcd n d * Nat.gcd n d=n:=Nat.div_mul_cancel (Nat.gcd_dvd_left _ _)
  have e2:d / Nat.gcd n d * Nat.gcd n d=d:=Nat.div_mul_cancel (Nat.gcd_dvd_right _ _)
  have e3:n' / Nat.gcd n' d' * Nat.gcd n' d'=n':=Nat.div_mul_cancel (Nat.gcd_dvd_left _ _)
  have e4:d' / Nat.gcd n' d' * Nat.gcd n' d'=d':=Nat.div_mul_cancel (Nat.gcd_dvd_right _ _)
  have hc:Nat.Coprime (n / Nat.gcd n d) (d / Nat.gcd n d):=Nat.coprime_div_gcd_div_gcd g0
  generalize Nat.gcd n d=g at *
  generalize Nat.gcd n' d'=g' at *
  generalize n / g=a at *
  generalize d / g=b at *
  generalize n' / g'=a' at *
  generalize d' / g'=b' at *
  subst e1 e2 e3 e4
  have h1:(a * b') * (g * g')=(a' * b) * (g * g'):=by
    have:a * g * (b' * g')=a' * g' * (b * g):=h
    calc (a * b') * (g * g')=a * g * (b' * g'):=by ac_rfl
      _=a' * g' * (b * g):=this
      _=(a' * b) * (g * g'):=by ac_rfl
  have h2:a * b'=a' * b:=Nat.eq_of_mul_eq_mul_right (Nat.mul_pos g0 g0') h1
  have h3:a ∣ a' * b:=⟨b', h2.symm⟩
  exact hc.dvd_of_dvd_mul_right h3
theorem aKj {n d n' d':Nat} (hd:0 < d) (hd':0 < d') (hn:0 < n) (hn':0 < n') (h:n * d'=n' * d):n / Nat.gcd n d=n' / Nat.gcd n' d'∧d / Nat.gcd n d=d' / Nat.gcd n' d':=by
  refine ⟨Nat.dvd_antisymm (aAy hd hd' h) (aAy hd' hd h.symm), ?_⟩
  have a:=aAy (n:=d) (d:=n) (n':=d') (d':=n') hn hn' (by rw [Nat.mul_comm d n', Nat.mul_comm d' n]; exact h.symm)
  have b:=aAy (n:=d') (d:=n') (n':=d) (d':=n) hn' hn (by rw [Nat.mul_comm d n', Nat.mul_comm d' n]; exact h)
  rw [Nat.gcd_comm n d, Nat.gcd_comm n' d']
  exact Nat.dvd_antisymm a b

/-- The common divisor, by remainders: a loop of few rounds. -/
theorem aGb {σ ρ:Type} (f:σ→Option (cP σ ρ)) (mk:Nat→Nat→σ) (h0:∀ a, f (mk a 0)=some (.brk (mk a 0))) (h1:∀ a b:Nat, 0 < b→a < 1000000000000→b < 1000000000000→f (mk a b)=some (.cont (mk b (a % b)))) :
    ∀ (k a b N:Nat), a < 1000000000000→b < 1000000000000→b < 2 ^ k→2 * k < N→bC f N (mk a b)=some (.go (mk (Nat.gcd a b) 0))
  | 0, a, b, 0, _, _, _, hN=>by omega
  | k + 1, a, b, 0, _, _, _, hN=>by omega
  | 0, a, b, N + 1, ha, hb, hk, hN=>by
    obtain rfl:b=0:=by simpa using hk
    unfold bC
    rw [h0, Nat.gcd_zero_right]
  | k + 1, a, b, N + 1, ha, hb, hk, hN=>by
    by_cases hb0:b=0
    · subst hb0
      unfold bC
      rw [h0, Nat.gcd_zero_right]
    · unfold bC
      rw [h1 a b (by omega) ha hb]
      simp only []
      have hr:=Nat.mod_lt a (show b > 0 by omega)
      by_cases hr0:a % b=0
      · rw [hr0]
        obtain ⟨M, rfl⟩:∃ M, N=M + 1:=⟨N - 1, by omega⟩
        unfold bC
        rw [h0, Nat.gcd_comm, Nat.gcd_rec, hr0, Nat.gcd_zero_left]
      · obtain ⟨M, rfl⟩:∃ M, N=M + 1:=⟨N - 1, by omega⟩
        unfold bC
        rw [h1 b (a % b) (by omega) hb (by omega)]
        simp only []
        have hr2:=Nat.mod_lt b (show a % b > 0 by omega)
        have hhalf:b % (a % b) < 2 ^ k:=by
          have hp:2 ^ (k + 1)=2 * 2 ^ k:=by rw [Nat.pow_succ, Nat.mul_comm]
          rcases Nat.lt_or_ge (a % b) (2 ^ k) with h | h
          · omega
          · have:b % (a % b)=b - a % b:=by
              rw [Nat.mod_eq_sub_mod (by omega), Nat.mod_eq_of_lt (by omega)]
            omega
        rw [aGb f mk h0 h1 k (a % b) (b % (a % b)) M (by omega) (by omega) hhalf (by omega)]
        have e:Nat.gcd (a % b) (b % (a % b))=Nat.gcd a b:=by
          rw [Nat.gcd_comm (a % b), ← Nat.gcd_rec (a % b) b, ← Nat.gcd_rec b a, Nat.gcd_comm]
        rw [e]
theorem yV {N:Nat} {α:Type} {l:List α} {f ok:α→Bool} (hf:∀ x, f x = !ok x) (hl:l.length < N) (hl':l.length≤1000000) (b:Int→Option (cP Int Int))
    (hb:∀ x, b x=cond (decide (x < ((l.length:Nat):Int))) (Option.bind (bQ l x) fun e=>cond (f e) (some (.ret x)) (some (.cont (W (x + 1))))) (some (.brk x))) :
    (Option.bind (Option.bind (Option.bind (bC b N 0) fun x4=>exK x4 (fun _=>some (-1)) some) fun r=>some (decide (0≤r))) fun r=>some (!r))=some (l.all ok):=by
  have hany:l.any f = !l.all ok:=by
    rw [List.all_eq_not_any_not, Bool.not_not]
    congr 1
    exact funext hf
  rcases zV f l (by omega) b hb l.length 0 N (by omega) (by omega) with ⟨k, a1, a2, a3⟩ | ⟨a1, a2⟩
  · rw [List.drop_zero, hany] at a3
    rw [show ((0:Nat):Int)=0 from rfl] at a1
    rw [a1]
    have:l.all ok=false:=by simpa using a3
    rw [this]
    simp [exK, a2]
  · rw [List.drop_zero, hany] at a2
    rw [show ((0:Nat):Int)=0 from rfl] at a1
    rw [a1]
    have:l.all ok=true:=by simpa using a2
    rw [this]
    simp [exK]
end Go.Nilo
namespace Go.Nilo
/-! ### Fractions in lowest terms -/
def red (n d:Int):fE:=⟨n / (Int.gcd n d:Int), d / (Int.gcd n d:Int)⟩
theorem aGa {n d:Int} (hd:0 < d) (hn:0≤n):1≤(red n d).D∧(red n d).D≤d∧0≤(red n d).N∧(red n d).N≤n∧(red n d).N * d=n * (red n d).D:=by
  have g0:0 < Int.gcd n d:=Int.gcd_pos_of_ne_zero_right _ (by omega)
  have g1:(0:Int) < (Int.gcd n d:Int):=by omega
  have e1:n / (Int.gcd n d:Int) * (Int.gcd n d:Int)=n:=Int.ediv_mul_cancel (Int.gcd_dvd_left ..)
  have e2:d / (Int.gcd n d:Int) * (Int.gcd n d:Int)=d:=Int.ediv_mul_cancel (Int.gcd_dvd_right ..)
  have e3:0≤n / (Int.gcd n d:Int):=Int.ediv_nonneg hn (by omega)
  have e4:0 < d / (Int.gcd n d:Int):=by
    rcases Int.lt_or_le 0 (d / (Int.gcd n d:Int)) with h | h
    · exact h
    · have:=Int.mul_le_mul_of_nonneg_right h (Int.le_of_lt g1)
      omega
  refine ⟨e4, ?_, e3, ?_, ?_⟩
  · exact Int.ediv_le_self _ (by omega)
  · exact Int.ediv_le_self _ hn
  · show n / (Int.gcd n d:Int) * d=n * (d / (Int.gcd n d:Int))
    generalize n / (Int.gcd n d:Int)=p at *
    generalize d / (Int.gcd n d:Int)=q at *
    generalize (Int.gcd n d:Int)=g at *
    subst e1
    rw [← e2]
    grind
theorem aDw {n d:Nat}:red n d=⟨((n / Nat.gcd n d:Nat):Int), ((d / Nat.gcd n d:Nat):Int)⟩:=by
  unfold red
  rw [Int.gcd_natCast_natCast]
  push_cast
  rfl
theorem aO9 {n d n' d':Int} (hd:0 < d) (hd':0 < d') (hn:0≤n) (hn':0≤n') (h:n * d'=n' * d):red n d=red n' d':=by
  obtain ⟨a, rfl⟩:=Int.eq_ofNat_of_zero_le hn
  obtain ⟨a', rfl⟩:=Int.eq_ofNat_of_zero_le hn'
  obtain ⟨b, rfl⟩:=Int.eq_ofNat_of_zero_le (Int.le_of_lt hd)
  obtain ⟨b', rfl⟩:=Int.eq_ofNat_of_zero_le (Int.le_of_lt hd')
  have h':a * b'=a' * b:=by exact_mod_cast h
  rw [aDw, aDw]
  rcases Nat.eq_zero_or_pos a with ha | ha
  · subst ha
    have ha':a'=0:=by
      rcases Nat.eq_zero_or_pos a' with h | h
      · exact h
      · have:=Nat.mul_pos h (show 0 < b by omega)
        omega
    subst ha'
    simp only [Nat.gcd_zero_left, Nat.zero_div]
    rw [Nat.div_self (by omega), Nat.div_self (by omega)]
  · have ha':0 < a':=by
      rcases Nat.eq_zero_or_pos a' with h | h
      · subst h
        have:=Nat.mul_pos ha (show 0 < b' by omega)
        omega
      · exact h
    obtain ⟨k1, k2⟩:=aKj (show 0 < b by omega) (show 0 < b' by omega) ha ha' h'
    rw [k1, k2]
theorem aHb {n:Int} (hn:0≤n):red n 1=⟨n, 1⟩:=by
  unfold red
  simp
theorem aKf {n d:Int} (hd:0 < d) (hn:0≤n):red (red n d).N (red n d).D=red n d:=by
  obtain ⟨h1, -, h3, -, h5⟩:=aGa hd hn
  exact aO9 (by omega) hd h3 hn h5
/-- The program's fraction. -/
theorem aGq {N:Nat} (hN:700≤N) {n d:Int} (hd:0 < d) (hd':d < 1000000000000) (hn:0≤n) (hn':n≤9223372036854775807):nU N n d=some (red n d):=by
  obtain ⟨a, rfl⟩:=Int.eq_ofNat_of_zero_le hn
  obtain ⟨b, rfl⟩:=Int.eq_ofNat_of_zero_le (Int.le_of_lt hd)
  unfold nU
  have hm:max ((a:Nat):Int) (W (0 - ((a:Nat):Int)))=(a:Int):=by
    rw [pN (by omega) (by omega)]
    omega
  rw [hm]
  -- the first round brings both below a bound
  have hstep:∀ a b:Nat, 0 < b→iA N (a:Int) (b:Int)=some (.cont ((b:Int), ((a % b:Nat):Int))):=by
    intro a b hb
    unfold iA
    have h1:(((b:Nat):Int) != 0)=true:=by simp; omega
    have h2:nz ((b:Nat):Int)=some ():=by unfold nz; rw [if_neg (by omega)]
    rw [h1, cond_true, h2, Option.bind_some, oZ (by omega)]
    push_cast
    rfl
  have hend:∀ a:Nat, iA N (a:Int) 0=some (.brk ((a:Int), 0)):=fun a=>rfl
  obtain ⟨M, rfl⟩:∃ M, N=M + 1:=⟨N - 1, by omega⟩
  have hb:0 < b:=by omega
  have hloop:bC (fun s4:Int × Int=>iA (M + 1) s4.1 s4.2) (M + 1) ((a:Int), (b:Int))=some (.go (((Nat.gcd a b:Nat):Int), 0)):=by
    unfold bC
    rw [show iA (M + 1) ((a:Int), (b:Int)).1 ((a:Int), (b:Int)).2=_ from hstep a b hb]
    have hlt:a % b < b:=Nat.mod_lt _ hb
    have:=aGb (fun s4:Int × Int=>iA (M + 1) s4.1 s4.2) (fun a b=>((a:Int), (b:Int))) (fun a=>hend a) (fun a b hb _ _=>hstep a b hb) 41 b (a % b) M (by omega) (by omega) (by have:(2:Nat) ^ 41=2199023255552:=(by decide); omega) (by omega)
    show bC _ M ((b:Int), ((a % b:Nat):Int))=_
    rw [this]
    have:Nat.gcd b (a % b)=Nat.gcd a b:=by rw [Nat.gcd_comm a b, Nat.gcd_rec b a, Nat.gcd_comm]
    rw [this]
    rfl
  rw [hloop, Option.bind_some]
  have g0:0 < Nat.gcd a b:=Nat.gcd_pos_of_pos_right _ hb
  have hz:nz ((Nat.gcd a b:Nat):Int)=some ():=by unfold nz; rw [if_neg (by omega)]
  show Option.bind (nz ((Nat.gcd a b:Nat):Int)) (fun _=>Option.bind (nz ((Nat.gcd a b:Nat):Int)) fun _=>some _)=_
  rw [hz, Option.bind_some, Option.bind_some, aDw, uV (by omega), uV (by omega)]
  have e1:((a:Nat):Int) / ((Nat.gcd a b:Nat):Int)=((a / Nat.gcd a b:Nat):Int):=by push_cast; rfl
  have e2:((b:Nat):Int) / ((Nat.gcd a b:Nat):Int)=((b / Nat.gcd a b:Nat):Int):=by push_cast; rfl
  have l1:a / Nat.gcd a b≤a:=Nat.div_le_self _ _
  have l2:b / Nat.gcd a b≤b:=Nat.div_le_self _ _
  rw [e1, e2]
  generalize a / Nat.gcd a b=p at *
  generalize b / Nat.gcd a b=q at *
  rw [pN (by omega) (by omega), pN (by omega) (by omega)]
end Go.Nilo
namespace Go.Nilo
theorem dT {p:Prop} [Decidable p] (h:p):decide p=true:=decide_eq_true h
theorem dF {p:Prop} [Decidable p] (h:¬p):decide p=false:=decide_eq_false h
def mk0:aG:=⟨0, 0⟩
theorem tW {ρ:Type} {p:Nat→Bool} {v:ρ}:∀ n i, yP (fun j=>cond (p j) none (some v)) i n=cond ((List.range' i n).all p) none (some v)
  | 0, i=>rfl
  | n + 1, i=>by
    unfold yP
    rw [List.range'_succ, List.all_cons]
    cases p i with
    | false=>rfl
    | true=>exact tW n (i + 1)
theorem zM {p:Nat→Bool} {n:Nat}:(List.range' 0 n).all p=true ↔ ∀ j, j < n→p j=true:=by
  rw [List.all_eq_true]
  constructor
  · intro h j hj
    exact h j (List.mem_range'_1.2 ⟨Nat.zero_le _, by omega⟩)
  · intro h j hj
    have:=List.mem_range'_1.1 hj
    exact h j (by omega)
theorem getI_d {α:Type} {l:List α} {i:Nat} (d:α) (h:i < l.length):bQ l (i:Int)=some (l.getD i d):=by rw [tI h, eF (d:=d) h]
theorem W_sm {n:Int} (h1 : -4000000000000000000≤n) (h2:n≤4000000000000000000):W n=n:=pN (by omega) (by omega)
/-! ### Which are right -/
def kG (l:List aG):Int:=if 2≤l.length∧l.length≤12 then (if l.all eG then 0 else 60) else 3
def aG4 (l:List aG) (i:Nat):Bool:=decide ((l.getD i mk0).Stage < (l.getD (i + 1) mk0).Stage) && decide ((l.getD i mk0).Flow < (l.getD (i + 1) mk0).Flow)
def upF (l:List aG):Bool:=(List.range' 0 (l.length - 1)).all (aG4 l)
theorem aGw {N:Nat} {l:List aG} (hl:l.length < N) (hl':l.length≤1000000):gA N l=some (l.all eG):=by
  unfold gA cM cX
  exact yV (f:=fK) (ok:=eG) (fun x=>rfl) hl hl' _ (fun x=>rfl)
theorem aLi {n:Nat} {a b:Int}:bD (n:Int) a b=(decide (a≤(n:Int)) && decide ((n:Int)≤b)):=rfl
theorem aA3 {N:Nat} (hN:700≤N) {l:List aG} (hl:l.length≤50):nR N l=some (kG l):=by
  unfold nR kG
  rw [aGw (by omega) (by omega), aLi]
  by_cases h:2≤l.length∧l.length≤12
  · have h1:decide ((2:Int)≤(l.length:Int))=true:=dT (by omega)
    have h2:decide ((l.length:Int)≤(12:Int))=true:=dT (by omega)
    rw [if_pos h, h1, h2]
    cases l.all eG <;> rfl
  · have h1:(decide ((2:Int)≤(l.length:Int)) && decide ((l.length:Int)≤(12:Int)))=false:=by
      rw [Bool.eq_false_iff]
      intro hc
      simp at hc
      omega
    rw [if_neg h, h1]
    rfl
theorem aCb {N:Nat} (hN:700≤N) {l:List aG} (h0:1≤l.length) (hl:l.length≤50):nO N l=some (upF l):=by
  unfold nO upF
  have hsub:rO l 1 ((l.length:Nat):Int)=some ((l.drop 1).take (l.length - 1)):=by
    unfold rO
    rw [if_pos (by omega)]
    congr 1
  rw [hsub, Option.bind_some]
  have hlen:((l.drop 1).take (l.length - 1)).length=l.length - 1:=by simp
  have hs:=aH8 (ρ:=Bool) (fun i:Nat=>(i:Int)) (fun j=>cond (aG4 l j) none (some false)) (l.length - 1) (fun s4=>jI N l ((l.drop 1).take (l.length - 1)) s4) (fun i hi=>by
    show jI N l _ (i:Int)=_
    unfold jI
    rw [hlen, sO hi, cond_true, dQ (by omega), getI_d mk0 (by omega), getI_d mk0 (by omega)]
    simp only [Option.bind_some]
    unfold aG4
    rcases Int.lt_or_le (l.getD i mk0).Stage (l.getD (i + 1) mk0).Stage with h1 | h1
    · have e1:decide ((l.getD (i + 1) mk0).Stage≤(l.getD i mk0).Stage)=false:=dF (by omega)
      have e2:decide ((l.getD i mk0).Stage < (l.getD (i + 1) mk0).Stage)=true:=dT (by omega)
      rw [e1, e2]
      rcases Int.lt_or_le (l.getD i mk0).Flow (l.getD (i + 1) mk0).Flow with h2 | h2
      · have e3:decide ((l.getD (i + 1) mk0).Flow≤(l.getD i mk0).Flow)=false:=dF (by omega)
        have e4:decide ((l.getD i mk0).Flow < (l.getD (i + 1) mk0).Flow)=true:=dT (by omega)
        rw [e3, e4]
        rfl
      · have e3:decide ((l.getD (i + 1) mk0).Flow≤(l.getD i mk0).Flow)=true:=dT (by omega)
        have e4:decide ((l.getD i mk0).Flow < (l.getD (i + 1) mk0).Flow)=false:=dF (by omega)
        rw [e3, e4]
        rfl
    · have e1:decide ((l.getD (i + 1) mk0).Stage≤(l.getD i mk0).Stage)=true:=dT (by omega)
      have e2:decide ((l.getD i mk0).Stage < (l.getD (i + 1) mk0).Stage)=false:=dF (by omega)
      rw [e1, e2]
      rfl) (by
    show jI N l _ ((l.length - 1:Nat):Int)=_
    unfold jI
    rw [hlen, pZ, cond_false]) (l.length - 1) 0 N (by omega) (by omega)
  rw [show (0:Int)=((0:Nat):Int) from rfl, hs, tW]
  cases (List.range' 0 (l.length - 1)).all (aG4 l) <;> rfl
def aFm (l:List aG) (at_ sh:Int):Int:=if kG l ≠ 0 then kG l else if upF l=false then 9 else if (bK at_ && bD sh (-300) 300)=true then 0 else 4
theorem wT {l:List aG} (h:kG l=0):2≤l.length∧l.length≤12∧l.all eG=true:=by
  unfold kG at h
  split at h
  · split at h
    · exact ⟨by omega, by omega, by assumption⟩
    · omega
  · omega
theorem aGy {N:Nat} (hN:700≤N) {l:List aG} (hl:l.length≤50) {at_ sh:Int}:pC N l at_ sh=some (aFm l at_ sh):=by
  unfold pC aFm
  rw [aA3 hN hl, Option.bind_some]
  by_cases h:kG l=0
  · have h1:(kG l != 0)=false:=by simp [h]
    rw [h1, cond_false, if_neg (by simp [h]), aCb hN (by have:=wT h; omega) hl, Option.bind_some]
    cases upF l with
    | false=>rfl
    | true=>
      cases bK at_ <;> cases bD sh (-300) 300 <;> rfl
  · have h1:(kG l != 0)=true:=by simp [h]
    rw [h1, cond_true, if_pos h]
structure ROk (l:List aG):Prop where
  l2:2≤l.length
  l12:l.length≤12
  st:∀ i, i < l.length→-2000≤(l.getD i mk0).Stage∧(l.getD i mk0).Stage≤2000
  fl:∀ i, i < l.length→0≤(l.getD i mk0).Flow∧(l.getD i mk0).Flow≤1000000000
  su:∀ i, i + 1 < l.length→(l.getD i mk0).Stage < (l.getD (i + 1) mk0).Stage
  fu:∀ i, i + 1 < l.length→(l.getD i mk0).Flow < (l.getD (i + 1) mk0).Flow
theorem aDt {l:List aG}:(kG l=0∧upF l=true) ↔ ROk l:=by
  constructor
  · rintro ⟨h1, h2⟩
    obtain ⟨a, b, c⟩:=wT h1
    have hall:∀ i, i < l.length→eG (l.getD i mk0)=true:=fun i hi=>by
      rw [← eF hi]
      exact List.all_eq_true.1 c _ (List.getElem_mem hi)
    have hup:=zM.1 h2
    refine ⟨a, b, fun i hi=>?_, fun i hi=>?_, fun i hi=>?_, fun i hi=>?_⟩
    · have:=hall i hi
      simp only [eG, bK, bD, Bool.and_eq_true, decide_eq_true_eq] at this
      omega
    · have:=hall i hi
      simp only [eG, jB, bD, Bool.and_eq_true, decide_eq_true_eq] at this
      omega
    · have:=hup i (by omega)
      simp only [aG4, Bool.and_eq_true, decide_eq_true_eq] at this
      exact this.1
    · have:=hup i (by omega)
      simp only [aG4, Bool.and_eq_true, decide_eq_true_eq] at this
      exact this.2
  · intro h
    refine ⟨?_, ?_⟩
    · unfold kG
      rw [if_pos ⟨h.l2, h.l12⟩, if_pos]
      rw [List.all_eq_true]
      intro x hx
      obtain ⟨i, hi, rfl⟩:=List.getElem_of_mem hx
      rw [eF (d:=mk0) hi]
      have h1:=h.st i hi
      have h2:=h.fl i hi
      simp only [eG, bK, jB, bD, Bool.and_eq_true, decide_eq_true_eq]
      omega
    · refine zM.2 fun j hj=>?_
      have h1:=h.su j (by omega)
      have h2:=h.fu j (by omega)
      simp only [aG4, Bool.and_eq_true, decide_eq_true_eq]
      exact ⟨h1, h2⟩
theorem aDr {l:List aG} {at_ sh:Int}:aFm l at_ sh=0 ↔ ROk l∧(-2000≤at_∧at_≤2000)∧(-300≤sh∧sh≤300):=by
  unfold aFm
  rw [← aDt]
  by_cases h:kG l=0
  · rw [if_neg (by simp [h])]
    cases hu:upF l with
    | false=>simp
    | true=>
      simp only [h, bK, bD, Bool.true_eq_false, if_false]
      simp
      omega
  · rw [if_pos h]
    simp [h]
end Go.Nilo
namespace Go.Nilo
def mS (l:List aG) (i:Nat):Int:=(l.getD i mk0).Stage
def mF (l:List aG) (i:Nat):Int:=(l.getD i mk0).Flow
theorem ROk.lt {l:List aG} (h:ROk l) {i:Nat}:∀ k, i + k + 1 < l.length→mS l i < mS l (i + k + 1)∧mF l i < mF l (i + k + 1)
  | 0, hj=>⟨h.su i hj, h.fu i hj⟩
  | k + 1, hj=>by
    have h1:=h.lt (i:=i) k (by omega)
    have h2:=h.su (i + k + 1) (by omega)
    have h3:=h.fu (i + k + 1) (by omega)
    have e:i + (k + 1) + 1=i + k + 1 + 1:=by omega
    rw [e]
    simp only [mS, mF] at *
    omega
theorem ROk.slt {l:List aG} (h:ROk l) {i j:Nat} (hij:i < j) (hj:j < l.length):mS l i < mS l j∧mF l i < mF l j:=by
  have:=h.lt (i:=i) (j - i - 1) (by omega)
  rwa [show i + (j - i - 1) + 1=j by omega] at this
theorem ROk.mon {l:List aG} (h:ROk l) {i j:Nat} (hij:i≤j) (hj:j < l.length):mS l i≤mS l j∧mF l i≤mF l j:=by
  rcases Nat.lt_or_eq_of_le hij with h1 | h1
  · have:=h.slt h1 hj
    omega
  · subst h1
    omega
def Val (l:List aG) (at_ n d:Int):Prop :=
  (at_≤mS l 0∧n=mF l 0 * d) ∨ (mS l (l.length - 1)≤at_∧n=mF l (l.length - 1) * d) ∨
    ∃ i, i + 1 < l.length∧mS l i≤at_∧at_≤mS l (i + 1)∧n * (mS l (i + 1) - mS l i)=(mF l i * (mS l (i + 1) - mS l i) + (mF l (i + 1) - mF l i) * (at_ - mS l i)) * d
theorem lW {a b c:Int} (h:a≤b) (hc:0≤c):a * c≤b * c:=Int.mul_le_mul_of_nonneg_right h hc
theorem aA1 {a b c:Int} (h:a * c≤b * c) (hc:0 < c):a≤b:=Int.le_of_mul_le_mul_right h hc
theorem aNc {n d w F G x:Int} (hw:0 < w) (hd:0 < d) (hFG:F≤G) (hx:x≤w) (h:n * w=(F * w + (G - F) * x) * d):n≤G * d:=by
  have h1:(G - F) * x≤(G - F) * w:=Int.mul_le_mul_of_nonneg_left hx (by omega)
  have h2:(F * w + (G - F) * x) * d≤(F * w + (G - F) * w) * d:=lW (by omega) (by omega)
  refine aA1 (c:=w) ?_ hw
  rw [h]
  have e:(F * w + (G - F) * w) * d=G * d * w:=by grind
  omega
theorem aO2 {n d w F G x:Int} (hw:0 < w) (hd:0 < d) (hFG:F≤G) (hx:0≤x) (h:n * w=(F * w + (G - F) * x) * d):F * d≤n:=by
  have h1:0≤(G - F) * x:=Int.mul_nonneg (by omega) hx
  have h2:(F * w) * d≤(F * w + (G - F) * x) * d:=lW (by omega) (by omega)
  refine aA1 (c:=w) ?_ hw
  rw [h]
  have e:F * w * d=F * d * w:=by grind
  omega
theorem aLo {n d w F G x:Int} (hw:0 < w) (hx:x=0) (h:n * w=(F * w + (G - F) * x) * d):n=F * d:=by
  subst hx
  refine Int.eq_of_mul_eq_mul_right (by omega:w ≠ 0) ?_
  rw [h]
  grind
theorem Val.hi {l:List aG} (hl:ROk l) {at_ n d:Int} (hd:0 < d) (h:Val l at_ n d) {j:Nat} (hj:j < l.length) (ha:at_≤mS l j):n≤mF l j * d:=by
  have hlen:=hl.l2
  rcases h with ⟨h1, h2⟩ | ⟨h1, h2⟩ | ⟨i, hi, h1, h2, h3⟩
  · have:=hl.mon (Nat.zero_le j) hj
    rw [h2]
    exact lW this.2 (by omega)
  · have hjl:j=l.length - 1:=by
      rcases Nat.lt_or_ge j (l.length - 1) with h | h
      · have:=hl.slt h (by omega)
        omega
      · omega
    subst hjl
    omega
  · have hw:=hl.slt (Nat.lt_add_one i) hi
    have:=aNc (by omega) hd (by omega) (by omega) h3
    rcases Nat.lt_or_ge i j with hij | hij
    · have hm:=hl.mon (show i + 1≤j from hij) hj
      have:=lW hm.2 (c:=d) (by omega)
      omega
    · have hm:=hl.mon hij (by omega)
      have hje:j=i:=by
        rcases Nat.lt_or_eq_of_le hij with h | h
        · have:=hl.slt h (by omega)
          omega
        · exact h
      subst hje
      have:=aLo (by omega) (by omega) h3
      omega
theorem Val.lo {l:List aG} (hl:ROk l) {at_ n d:Int} (hd:0 < d) (h:Val l at_ n d) {j:Nat} (hj:j < l.length) (ha:mS l j≤at_):mF l j * d≤n:=by
  have hlen:=hl.l2
  rcases h with ⟨h1, h2⟩ | ⟨h1, h2⟩ | ⟨i, hi, h1, h2, h3⟩
  · have hj0:j=0:=by
      rcases Nat.eq_zero_or_pos j with h | h
      · exact h
      · have:=hl.slt h hj
        omega
    subst hj0
    omega
  · have:=hl.mon (show j≤l.length - 1 by omega) (by omega)
    rw [h2]
    exact lW this.2 (by omega)
  · have hw:=hl.slt (Nat.lt_add_one i) hi
    have h0:=aO2 (by omega) hd (by omega) (by omega) h3
    rcases Nat.lt_or_ge i j with hij | hij
    · have hm:=hl.mon (show i + 1≤j from hij) hj
      have hje:j=i + 1:=by
        rcases Nat.lt_or_eq_of_le (show i + 1≤j from hij) with h | h
        · have:=hl.slt h hj
          omega
        · exact h.symm
      subst hje
      have e:(mF l i * (mS l (i + 1) - mS l i) + (mF l (i + 1) - mF l i) * (at_ - mS l i)) * d=mF l (i + 1) * d * (mS l (i + 1) - mS l i):=by
        rw [show at_=mS l (i + 1) by omega]
        grind
      rw [e] at h3
      have:=Int.eq_of_mul_eq_mul_right (by omega) h3
      omega
    · have hm:=hl.mon hij (by omega)
      have:=lW hm.2 (c:=d) (by omega)
      omega
theorem cross {n d n' d' F:Int} (hd:0 < d) (hd':0 < d') (h1:n≤F * d) (h2:F * d'≤n'):n * d'≤n' * d:=by
  have a:=lW h1 (c:=d') (by omega)
  have b:=lW h2 (c:=d) (by omega)
  have e:F * d * d'=F * d' * d:=by grind
  omega
theorem Val.mono {l:List aG} (hl:ROk l) {at_ n d at' n' d':Int} (hd:0 < d) (hd':0 < d') (h:Val l at_ n d) (h':Val l at' n' d') (hle:at_≤at'):n * d'≤n' * d:=by
  have hlen:=hl.l2
  have key:∀ j, j < l.length→at_≤mS l j→mS l j≤at'→n * d'≤n' * d:=fun j hj h1 h2=>cross hd hd' (h.hi hl hd hj h1) (h'.lo hl hd' hj h2)
  by_cases hk:∃ j, j < l.length∧at_≤mS l j∧mS l j≤at'
  · obtain ⟨j, a, b, c⟩:=hk
    exact key j a b c
  have hno:∀ j, j < l.length→mS l j < at_ ∨ at' < mS l j:=fun j hj=>by
    rcases Int.lt_or_le (mS l j) at_ with a | a
    · exact .inl a
    · rcases Int.lt_or_le at' (mS l j) with b | b
      · exact .inr b
      · exact absurd ⟨j, hj, a, b⟩ hk
  have h0:=hno 0 (by omega)
  have hn:=hno (l.length - 1) (by omega)
  rcases h with ⟨h1, h2⟩ | ⟨h1, h2⟩ | ⟨i, hi, h1, h2, h3⟩
  · rcases h' with ⟨k1, k2⟩ | ⟨k1, k2⟩ | ⟨i', hi', k1, k2, k3⟩
    · rw [h2, k2]
      have:mF l 0 * d * d'=mF l 0 * d' * d:=by grind
      omega
    · have:=hl.mon (show 0≤l.length - 1 by omega) (by omega)
      omega
    · have:=hl.mon (Nat.zero_le i') (by omega)
      omega
  · rcases h' with ⟨k1, k2⟩ | ⟨k1, k2⟩ | ⟨i', hi', k1, k2, k3⟩
    · have:=hl.mon (show 0≤l.length - 1 by omega) (by omega)
      omega
    · rw [h2, k2]
      have:mF l (l.length - 1) * d * d'=mF l (l.length - 1) * d' * d:=by grind
      omega
    · have:=hl.mon (show i' + 1≤l.length - 1 by omega) (by omega)
      omega
  · have hi1:=hno i (by omega)
    have hi2:=hno (i + 1) hi
    have hw:=hl.slt (Nat.lt_add_one i) hi
    rcases h' with ⟨k1, k2⟩ | ⟨k1, k2⟩ | ⟨i', hi', k1, k2, k3⟩
    · have:=hl.mon (Nat.zero_le i) (by omega)
      omega
    · have:=hl.mon (show i + 1≤l.length - 1 by omega) (by omega)
      omega
    · have hii:i'=i:=by
        rcases Nat.lt_trichotomy i' i with c | c | c
        · have:=hl.mon (show i' + 1≤i from c) (by omega)
          omega
        · exact c
        · have:=hl.mon (show i + 1≤i' from c) (by omega)
          omega
      subst hii
      have hx:(mF l (i' + 1) - mF l i') * (at_ - mS l i')≤(mF l (i' + 1) - mF l i') * (at' - mS l i'):=Int.mul_le_mul_of_nonneg_left (by omega) (by omega)
      refine aA1 (c:=mS l (i' + 1) - mS l i') ?_ (by omega)
      have e1:n * d' * (mS l (i' + 1) - mS l i')=n * (mS l (i' + 1) - mS l i') * d':=by grind
      have e2:n' * d * (mS l (i' + 1) - mS l i')=n' * (mS l (i' + 1) - mS l i') * d:=by grind
      rw [e1, e2, h3, k3]
      have e3:=lW (lW (show mF l i' * (mS l (i' + 1) - mS l i') + (mF l (i' + 1) - mF l i') * (at_ - mS l i')≤mF l i' * (mS l (i' + 1) - mS l i') + (mF l (i' + 1) - mF l i') * (at' - mS l i') by omega) (c:=d) (by omega)) (c:=d') (by omega)
      generalize (mF l i' * (mS l (i' + 1) - mS l i') + (mF l (i' + 1) - mF l i') * (at_ - mS l i'))=A at *
      generalize (mF l i' * (mS l (i' + 1) - mS l i') + (mF l (i' + 1) - mF l i') * (at' - mS l i'))=B at *
      have e4:B * d * d'=B * d' * d:=by grind
      omega
end Go.Nilo
namespace Go.Nilo
def pI (l:List aG) (at_:Int):Nat:=l.findIdx fun m=>gV m at_
def fO (l:List aG) (at_:Int):fE :=
  if at_≤mS l 0 then ⟨mF l 0, 1⟩ else if mS l (l.length - 1)≤at_ then ⟨mF l (l.length - 1), 1⟩
  else red (mF l (pI l at_ - 1) * (mS l (pI l at_) - mS l (pI l at_ - 1)) + (mF l (pI l at_) - mF l (pI l at_ - 1)) * (at_ - mS l (pI l at_ - 1))) (mS l (pI l at_) - mS l (pI l at_ - 1))
theorem aDi {l:List aG} (hl:ROk l) {at_:Int} (h0:mS l 0 < at_) (h1:at_ < mS l (l.length - 1)):1≤pI l at_∧pI l at_ < l.length∧mS l (pI l at_ - 1)≤at_∧at_ < mS l (pI l at_):=by
  have hlen:=hl.l2
  have hlt:pI l at_ < l.length:=by
    refine List.findIdx_lt_length.2 ⟨l.getD (l.length - 1) mk0, ?_, ?_⟩
    · rw [← eF (by omega)]
      exact List.getElem_mem _
    · exact dT h1
  have hg:at_ < mS l (pI l at_):=by
    have:gV (l[pI l at_]'hlt) at_=true:=List.findIdx_getElem (w:=hlt)
    rw [eF (d:=mk0) hlt] at this
    exact of_decide_eq_true this
  have hpos:1≤pI l at_:=by
    rcases Nat.eq_zero_or_pos (pI l at_) with h | h
    · rw [h] at hg
      omega
    · exact h
  refine ⟨hpos, hlt, ?_, hg⟩
  have:=List.not_of_lt_findIdx (p:=fun m=>gV m at_) (xs:=l) (i:=pI l at_ - 1) (show pI l at_ - 1 < pI l at_ by omega)
  rw [eF (d:=mk0) (by omega)] at this
  have h2:¬ at_ < mS l (pI l at_ - 1):=fun hc=>by
    rw [show gV (l.getD (pI l at_ - 1) mk0) at_=true from dT hc] at this
    simp at this
  omega
theorem aIc {l:List aG} (hl:ROk l) {i:Nat} (h1:1≤i) (hi:i < l.length):0 < mS l i - mS l (i - 1)∧mS l i - mS l (i - 1)≤4000∧0≤mF l (i - 1)∧mF l (i - 1) < mF l i∧mF l i≤1000000000∧-2000≤mS l (i - 1)∧mS l i≤2000:=by
  have a:=hl.slt (show i - 1 < i by omega) hi
  have b:=hl.st (i - 1) (by omega)
  have c:=hl.st i hi
  have d:=hl.fl (i - 1) (by omega)
  have e:=hl.fl i hi
  simp only [mS, mF] at *
  omega
theorem aHs {w F G x:Int} (hw:0 < w∧w≤4000) (hF:0≤F∧F≤G∧G≤1000000000) (hx:0≤x∧x≤w):0≤F * w∧F * w≤4000000000000∧0≤(G - F) * x∧(G - F) * x≤4000000000000:=by
  have h1:=aEk hF.1 (by omega:0≤w) (show F≤1000000000 by omega) hw.2
  have h2:=aEk (show 0≤G - F by omega) hx.1 (show G - F≤1000000000 by omega) (show x≤4000 by omega)
  omega
theorem vP {l:List aG} (hl:ROk l) (at_:Int):1≤(fO l at_).D∧(fO l at_).D≤4000∧0≤(fO l at_).N∧Val l at_ (fO l at_).N (fO l at_).D∧red (fO l at_).N (fO l at_).D=fO l at_:=by
  have hlen:=hl.l2
  have f0:=hl.fl 0 (by omega)
  have f1:=hl.fl (l.length - 1) (by omega)
  unfold fO
  split
  · exact ⟨by simp, by simp, f0.1, .inl ⟨by assumption, by simp⟩, aHb f0.1⟩
  · split
    · exact ⟨by simp, by simp, f1.1, .inr (.inl ⟨by assumption, by simp⟩), aHb f1.1⟩
    · obtain ⟨s1, s2, s3, s4⟩:=aDi hl (at_:=at_) (by omega) (by omega)
      generalize pI l at_=i at *
      have hb:=aIc hl s1 s2
      have hlb:=aHs (w:=mS l i - mS l (i - 1)) (F:=mF l (i - 1)) (G:=mF l i) (x:=at_ - mS l (i - 1)) (by omega) (by omega) (by omega)
      obtain ⟨r1, r2, r3, r4, r5⟩:=aGa (n:=mF l (i - 1) * (mS l i - mS l (i - 1)) + (mF l i - mF l (i - 1)) * (at_ - mS l (i - 1))) (d:=mS l i - mS l (i - 1)) (by omega) (by omega)
      refine ⟨r1, by omega, r3, .inr (.inr ⟨i - 1, by omega, s3, ?_, ?_⟩), aKf (by omega) (by omega)⟩
      · rw [Nat.sub_add_cancel s1]
        omega
      · rw [Nat.sub_add_cancel s1]
        exact r5
theorem aHa {l:List aG} (hl:ROk l) (a:Int):(fO l a).N≤1000000000 * (fO l a).D:=by
  have hlen:=hl.l2
  obtain ⟨a1, -, -, a2, -⟩:=vP hl a
  have f1:=hl.fl (l.length - 1) (by omega)
  have hm:(fO l a).N≤mF l (l.length - 1) * (fO l a).D:=by
    rcases Int.lt_or_le (mS l (l.length - 1)) a with h | h
    · rcases a2 with ⟨h1, h2⟩ | ⟨h1, h2⟩ | ⟨i, hi, h1, h2, h3⟩
      · have:=hl.mon (Nat.zero_le (l.length - 1)) (by omega)
        omega
      · omega
      · have:=hl.mon (show i + 1≤l.length - 1 by omega) (by omega)
        omega
    · exact a2.hi hl (by omega) (by omega) h
  have:mF l (l.length - 1) * (fO l a).D≤1000000000 * (fO l a).D:=lW f1.2 (by omega)
  omega
theorem aBd {N:Nat} (hN:700≤N) {l:List aG} (hl:ROk l) {at_:Int} (hb : -1000000≤at_∧at_≤1000000):lV N l at_=some (fO l at_):=by
  have hlen:=hl.l2
  have hlen':=hl.l12
  unfold lV fO
  rw [W_sm (n:=(l.length:Int) - 1) (by omega) (by omega), show ((l.length:Nat):Int) - 1=((l.length - 1:Nat):Int) by omega, getI_d mk0 (by omega), Option.bind_some, show (0:Int)=((0:Nat):Int) from rfl, getI_d mk0 (by omega), Option.bind_some, Option.bind_some]
  show cond (decide (at_≤mS l 0)) (some (⟨mF l 0, 1⟩:fE)) (cond (decide (mS l (l.length - 1)≤at_)) (some (⟨mF l (l.length - 1), 1⟩:fE)) _)=_
  by_cases h0:at_≤mS l 0
  · rw [dT h0, cond_true, if_pos h0]
  rw [dF h0, cond_false, if_neg h0]
  by_cases h1:mS l (l.length - 1)≤at_
  · rw [dT h1, cond_true, if_pos h1]
  rw [dF h1, cond_false, if_neg h1]
  obtain ⟨s1, s2, s3, s4⟩:=aDi hl (at_:=at_) (by omega) (by omega)
  have hidx:bX N l at_=some ((pI l at_:Nat):Int):=by
    unfold bX
    rcases aDa (fun m=>gV m at_) l (by omega) (fun s4=>dJ N l at_ s4) (fun x=>rfl) l.length 0 N (by omega) (by omega) (fun j _ hj=>absurd hj (by omega)) with ⟨-, k⟩ | ⟨k, -⟩
    · rw [show (0:Int)=((0:Nat):Int) from rfl, k]
      rfl
    · unfold pI at s2
      omega
  rw [hidx, Option.bind_some]
  generalize pI l at_=i at *
  have hb':=aIc hl s1 s2
  have hlb:=aHs (w:=mS l i - mS l (i - 1)) (F:=mF l (i - 1)) (G:=mF l i) (x:=at_ - mS l (i - 1)) (by omega) (by omega) (by omega)
  rw [W_sm (n:=(i:Int) - 1) (by omega) (by omega), show ((i:Nat):Int) - 1=((i - 1:Nat):Int) by omega, getI_d mk0 (by omega), Option.bind_some, getI_d mk0 (by omega), Option.bind_some]
  unfold oW
  show Option.bind (Option.bind (nU N (W ((W (mF l (i - 1) * (W (mS l i - mS l (i - 1))))) + (W ((W (mF l i - mF l (i - 1))) * (W (at_ - mS l (i - 1))))))) (W (mS l i - mS l (i - 1)))) some) some=_
  rw [W_sm (n:=mS l i - mS l (i - 1)) (by omega) (by omega), W_sm (n:=mF l i - mF l (i - 1)) (by omega) (by omega), W_sm (n:=at_ - mS l (i - 1)) (by omega) (by omega), W_sm (n:=mF l (i - 1) * (mS l i - mS l (i - 1))) (by omega) (by omega), W_sm (n:=(mF l i - mF l (i - 1)) * (at_ - mS l (i - 1))) (by omega) (by omega), W_sm (by omega) (by omega), aGq hN (by omega) (by omega) (by omega) (by omega)]
  rfl
theorem aGv {N:Nat} (hN:700≤N) {l:List aG} (hl:l.length≤50) {at_ sh:Int}:nM N l at_ sh=some (if aFm l at_ sh=0 then (fO l (at_ - sh), 0) else (⟨0, 0⟩, aFm l at_ sh)):=by
  unfold nM
  rw [aGy hN hl, Option.bind_some]
  by_cases h:aFm l at_ sh=0
  · obtain ⟨h1, h2, h3⟩:=aDr.1 h
    rw [if_pos h, h, W_sm (by omega) (by omega), aBd hN h1 (by omega)]
    rfl
  · have:(aFm l at_ sh != 0)=true:=by simp [h]
    rw [if_neg h, this]
    rfl
theorem aJ2 {N:Nat} (hN:700≤N) {l:List aG} (hl:ROk l) {at_ sh:Int} (h1 : -2000≤at_∧at_≤2000) (h2 : -300≤sh∧sh≤300):nM N l at_ sh=some (fO l (at_ - sh), 0):=by
  rw [aGv hN (by have:=hl.l12; omega), if_pos (aDr.2 ⟨hl, h1, h2⟩)]
end Go.Nilo
namespace Go.Nilo
def g0:aJ:=⟨0, 0, ⟨0, 0⟩⟩
def aHm (l:List aJ):Bool:=(List.range' 0 l.length).all fun i=>decide (i=0) || decide ((l.getD (i - 1) g0).Day < (l.getD i g0).Day)
def aEr (r:aR):Int :=
  if kG r.Rating=3 ∨ ¬(1≤r.Gaugings.length∧r.Gaugings.length≤30) then 3 else if kG r.Rating ≠ 0 then kG r.Rating else if r.Gaugings.all eW=false then 60 else if upF r.Rating=false then 9 else if aHm r.Gaugings then 0 else 9
theorem aCx {N:Nat} {l:List aJ} (hl:l.length < N) (hl':l.length≤1000000):fA N l=some (l.all eW):=by
  unfold fA cC cF
  exact yV (f:=eN) (ok:=eW) (fun x=>rfl) hl hl' _ (fun x=>rfl)
theorem aGf {N:Nat} (hN:700≤N) {r:aR} (h1:r.Rating.length≤50) (h2:r.Gaugings.length≤50):pF N r=some (aEr r):=by
  unfold pF aEr
  rw [aA3 hN h1, Option.bind_some, aLi]
  by_cases h3:kG r.Rating=3
  · rw [if_pos (.inl h3), h3]
    rfl
  have e3:(kG r.Rating == 3)=false:=by simp [h3]
  rw [e3, Bool.false_or]
  by_cases h4:1≤r.Gaugings.length∧r.Gaugings.length≤30
  · rw [if_neg (by rintro (h | h); exact h3 h; exact h h4)]
    have e4:(!(decide ((1:Int)≤(r.Gaugings.length:Int)) && decide ((r.Gaugings.length:Int)≤(30:Int))))=false:=by
      rw [dT (by omega), dT (by omega)]
      rfl
    rw [e4, cond_false]
    by_cases h5:kG r.Rating=0
    · have e5:(kG r.Rating != 0)=false:=by simp [h5]
      rw [e5, cond_false, if_neg (by simp [h5]), aCx (by omega) (by omega), Option.bind_some]
      cases r.Gaugings.all eW with
      | false=>rfl
      | true=>
        rw [if_neg (by simp), Bool.not_true, cond_false, aCb hN (by have:=wT h5; omega) h1, Option.bind_some]
        cases upF r.Rating with
        | false=>rfl
        | true=>
          rw [if_neg (by simp), Bool.not_true, cond_false]
          have hs:=aH8 (ρ:=Int) (fun i:Nat=>(i:Int)) (fun j=>cond (decide (j=0) || decide ((r.Gaugings.getD (j - 1) g0).Day < (r.Gaugings.getD j g0).Day)) none (some 9)) r.Gaugings.length (fun s14=>iJ N r s14) (fun i hi=>by
            show iJ N r (i:Int)=_
            unfold iJ
            rw [sO hi, cond_true, getI_d g0 hi, Option.bind_some, dQ (by omega)]
            rcases Nat.eq_zero_or_pos i with h | h
            · subst h
              rfl
            · rw [dT (show (0:Int) < (i:Int) by omega), cond_true, W_sm (n:=(i:Int) - 1) (by omega) (by omega), show ((i:Nat):Int) - 1=((i - 1:Nat):Int) by omega, getI_d g0 (by omega), Option.bind_some, Option.bind_some, dF (show ¬ i=0 by omega), Bool.false_or]
              rcases Int.lt_or_le (r.Gaugings.getD (i - 1) g0).Day (r.Gaugings.getD i g0).Day with h | h
              · rw [dT h, dF (by omega)]
                rfl
              · rw [dT h, dF (by omega)]
                rfl) (by
            show iJ N r (r.Gaugings.length:Int)=_
            unfold iJ
            rw [pZ, cond_false]) r.Gaugings.length 0 N (by omega) (by omega)
          rw [show (0:Int)=((0:Nat):Int) from rfl, hs, tW]
          unfold aHm
          cases (List.range' 0 r.Gaugings.length).all _ <;> rfl
    · have e5:(kG r.Rating != 0)=true:=by simp [h5]
      rw [e5, cond_true, if_pos (by simp [h5])]
  · rw [if_pos (.inr h4)]
    have e4:(!(decide ((1:Int)≤(r.Gaugings.length:Int)) && decide ((r.Gaugings.length:Int)≤(30:Int))))=true:=by
      rw [Bool.not_eq_true', Bool.eq_false_iff]
      intro hc
      simp only [Bool.and_eq_true, decide_eq_true_eq] at hc
      omega
    rw [e4]
    rfl
structure aEi (g:aJ):Prop where
  d:0≤g.Day∧g.Day≤40000
  s : -2000≤g.Stage∧g.Stage≤2000
  f:0≤g.Flow.Lo∧g.Flow.Lo≤g.Flow.Hi∧g.Flow.Hi≤1000000000
theorem aHj {g:aJ}:eW g=true ↔ aEi g:=by
  simp only [eW, bK, jB, bD, Bool.and_eq_true, decide_eq_true_eq]
  constructor
  · intro h
    exact ⟨by omega, by omega, by omega⟩
  · rintro ⟨a, b, c⟩
    omega
structure wE (r:aR):Prop where
  rt:ROk r.Rating
  g1:1≤r.Gaugings.length
  g30:r.Gaugings.length≤30
  g:∀ g ∈ r.Gaugings, aEi g
  d:∀ i, i + 1 < r.Gaugings.length→(r.Gaugings.getD i g0).Day < (r.Gaugings.getD (i + 1) g0).Day
theorem aF6 {l:List aJ}:aHm l=true ↔ ∀ i, i + 1 < l.length→(l.getD i g0).Day < (l.getD (i + 1) g0).Day:=by
  unfold aHm
  rw [zM]
  constructor
  · intro h i hi
    have:=h (i + 1) hi
    rw [dF (show ¬ i + 1=0 by omega), Bool.false_or, Nat.add_sub_cancel] at this
    exact of_decide_eq_true this
  · intro h j hj
    rcases Nat.eq_zero_or_pos j with h0 | h0
    · rw [dT h0]
      rfl
    · rw [dF (show ¬ j=0 by omega), Bool.false_or]
      have:=h (j - 1) (by omega)
      rw [Nat.sub_add_cancel h0] at this
      exact dT this
theorem aI8 {r:aR}:aEr r=0 ↔ wE r:=by
  unfold aEr
  constructor
  · intro h
    split at h
    · omega
    · rename_i h1
      split at h
      · omega
      · rename_i h2
        split at h
        · omega
        · rename_i h3
          split at h
          · omega
          · rename_i h4
            split at h
            · rename_i h5
              have h6:1≤r.Gaugings.length∧r.Gaugings.length≤30:=by
                rcases Classical.em (1≤r.Gaugings.length∧r.Gaugings.length≤30) with c | c
                · exact c
                · exact absurd (.inr c) h1
              have h7:kG r.Rating=0:=by omega
              have h8:upF r.Rating=true:=by simpa using h4
              have h9:r.Gaugings.all eW=true:=by simpa using h3
              exact ⟨aDt.1 ⟨h7, h8⟩, h6.1, h6.2, fun g hg=>aHj.1 (List.all_eq_true.1 h9 g hg), aF6.1 h5⟩
            · omega
  · intro h
    obtain ⟨h1, h2⟩:=aDt.2 h.rt
    have h3:r.Gaugings.all eW=true:=List.all_eq_true.2 fun g hg=>aHj.2 (h.g g hg)
    rw [if_neg (by rintro (c | c); omega; exact c ⟨h.g1, h.g30⟩), if_neg (by simp [h1]), if_neg (by simp [h3]), if_neg (by simp [h2]), if_pos (aF6.2 h.d)]
/-! ### All shifts -/
theorem wP {N:Nat} (hN:700≤N) {σ:Type} (y:σ→Int × Int→Option (σ × Bool)) (st:Nat→σ) (h:∀ i:Nat, i < 601→y (st i) ((i:Int), (i:Int) - 300)=some (st (i + 1), true)):eA N y (st 0)=some (st 601):=by
  unfold eA
  have:=aEb (ρ:=σ) (fun i:Nat=>((i:Int), st i)) 601 (fun s3=>dN N y s3.1 s3.2) (fun i hi=>by
    show dN N y (i:Int) (st i)=_
    unfold dN
    rw [dT (by omega), cond_true, W_sm (by omega) (by omega), h i hi, Option.bind_some, dQ (by omega)]
    rfl) rfl (N:=N) (by omega)
  rw [show ((0:Int), st 0)=(((0:Nat):Int), st 0) from rfl, this]
  rfl
theorem aGm {N:Nat} (hN:700≤N) {σ:Type} (y:σ→Int × Int→Option (σ × Bool)) (st:Nat→σ) (z:σ) (k:Nat) (hk:k < 601) (h:∀ i:Nat, i < k→y (st i) ((i:Int), (i:Int) - 300)=some (st (i + 1), true)) (hz:y (st k) ((k:Int), (k:Int) - 300)=some (z, false)):eA N y (st 0)=some z:=by
  unfold eA
  have key:∀ m i M, i + m=k→m + 1 < M→bC (fun s3:Int × σ=>dN N y s3.1 s3.2) M ((i:Int), st i)=some (.out z):=by
    intro m
    induction m with
    | zero=>
      intro i M hi hM
      obtain ⟨M, rfl⟩:∃ M', M=M' + 1:=⟨M - 1, by omega⟩
      obtain rfl:i=k:=by omega
      unfold bC
      have:dN N y (i:Int) (st i)=some (.ret z):=by
        unfold dN
        rw [dT (by omega), cond_true, W_sm (by omega) (by omega), hz, Option.bind_some]
        rfl
      simp only [this]
    | succ m ih=>
      intro i M hi hM
      obtain ⟨M, rfl⟩:∃ M', M=M' + 1:=⟨M - 1, by omega⟩
      unfold bC
      have:dN N y (i:Int) (st i)=some (.cont (((i + 1:Nat):Int), st (i + 1))):=by
        unfold dN
        rw [dT (by omega), cond_true, W_sm (by omega) (by omega), h i (by omega), Option.bind_some, dQ (by omega)]
        rfl
      simp only [this]
      exact ih (i + 1) M (by omega) (by omega)
  have:=key k 0 N (by omega) (by omega)
  rw [show ((0:Int), st 0)=(((0:Nat):Int), st 0) from rfl, this]
  rfl
/-! ### The first and the last of some shifts -/
def iT (P:Int→Bool):Nat→Int × Int
  | 0=>(1, 0)
  | n + 1=>if P ((n:Int) - 300)=true then (if (iT P n).2 < (iT P n).1 then (n:Int) - 300 else (iT P n).1, (n:Int) - 300) else iT P n
theorem wZ (P:Int→Bool):∀ n:Nat, ((iT P n).1≤(iT P n).2∧P (iT P n).1=true∧P (iT P n).2=true∧-300≤(iT P n).1∧(iT P n).2 < (n:Int) - 300∧∀ x, -300≤x→x < (n:Int) - 300→P x=true→(iT P n).1≤x∧x≤(iT P n).2) ∨
    ((iT P n).1=1∧(iT P n).2=0∧∀ x, -300≤x→x < (n:Int) - 300→P x=false)
  | 0=>.inr ⟨rfl, rfl, fun x h1 h2=>by omega⟩
  | n + 1=>by
    have ih:=wZ P n
    unfold iT
    by_cases hp:P ((n:Int) - 300)=true
    · rw [if_pos hp]
      rcases ih with ⟨a, b, c, d, e, f⟩ | ⟨a, b, c⟩
      · left
        rw [if_neg (by omega)]
        refine ⟨by omega, b, hp, d, by push_cast; omega, fun x h1 h2 hx=>?_⟩
        rcases Int.lt_or_le x ((n:Int) - 300) with h | h
        · have:=f x h1 h hx
          omega
        · show (iT P n).1≤x∧x≤(n:Int) - 300
          push_cast at h2
          omega
      · left
        rw [if_pos (by omega)]
        refine ⟨Int.le_refl _, hp, hp, by omega, by push_cast; omega, fun x h1 h2 hx=>?_⟩
        rcases Int.lt_or_le x ((n:Int) - 300) with h | h
        · rw [c x h1 h] at hx
          cases hx
        · show (n:Int) - 300≤x∧x≤(n:Int) - 300
          push_cast at h2
          omega
    · rw [if_neg hp]
      have hx:∀ x, -300≤x→x < ((n + 1:Nat):Int) - 300→P x=true→x < (n:Int) - 300:=fun x h1 h2 hx=>by
        rcases Int.lt_or_le x ((n:Int) - 300) with h | h
        · exact h
        · have:x=(n:Int) - 300:=by push_cast at h2; omega
          subst this
          exact absurd hx hp
      rcases ih with ⟨a, b, c, d, e, f⟩ | ⟨a, b, c⟩
      · exact .inl ⟨a, b, c, d, by push_cast; omega, fun x h1 h2 hp=>f x h1 (hx x h1 h2 hp) hp⟩
      · refine .inr ⟨a, b, fun x h1 h2=>?_⟩
        cases hpx:P x with
        | false=>rfl
        | true=>
          have:=c x h1 (hx x h1 h2 hpx)
          rw [hpx] at this
          cases this
/-! ### Which pass -/
def jN (l:List aG) (g:aJ) (sh:Int):Bool:=decide (g.Flow.Lo * (fO l (g.Stage - sh)).D≤(fO l (g.Stage - sh)).N) && decide ((fO l (g.Stage - sh)).N≤g.Flow.Hi * (fO l (g.Stage - sh)).D)
def oK (l:List aG) (g:aJ):aC:=⟨(iT (jN l g) 601).1, (iT (jN l g) 601).2⟩
theorem aFj {N:Nat} (hN:700≤N) {r:aR} (hr:ROk r.Rating) {o:List aC} {g:aJ} (hg:aEi g) {sh:Int} (hs : -300≤sh∧sh≤300):kA N ⟨r, o⟩ g sh=some (jN r.Rating g sh):=by
  unfold kA
  have h1:=hg.s
  have h2:=hg.f
  show Option.bind (lV N r.Rating (W (g.Stage - sh))) _=_
  rw [W_sm (by omega) (by omega), aBd hN hr (by omega), Option.bind_some]
  obtain ⟨a, b, -, -, -⟩:=vP hr (g.Stage - sh)
  have m1:=aEk h2.1 (show 0≤(fO r.Rating (g.Stage - sh)).D by omega) (show g.Flow.Lo≤1000000000 by omega) b
  have m2:=aEk (show 0≤g.Flow.Hi by omega) (show 0≤(fO r.Rating (g.Stage - sh)).D by omega) h2.2.2 b
  rw [W_sm (by omega) (by omega), W_sm (by omega) (by omega)]
  rfl
theorem aIy {N:Nat} (hN:700≤N) {r:aR} (hr:ROk r.Rating) {o:List aC} {g:aJ} (hg:aEi g) :
    eA N (rY (fun (zz:Int × Int) (ix_:(Int × Int))=>fX N r o g zz.1 zz.2 ix_.1 ix_.2)) (.go (1, 0))=some (.go ((oK r.Rating g).Lo, (oK r.Rating g).Hi)):=by
  have:=wP hN (rY (fun (zz:Int × Int) (ix_:(Int × Int))=>fX N r o g zz.1 zz.2 ix_.1 ix_.2)) (fun i=>.go (iT (jN r.Rating g) i)) (fun i hi=>by
    show Option.map _ (fX N r o g (iT (jN r.Rating g) i).1 (iT (jN r.Rating g) i).2 (i:Int) ((i:Int) - 300))=_
    unfold fX
    rw [aFj hN hr hg (by omega), Option.bind_some]
    rw [show iT (jN r.Rating g) (i + 1)=if jN r.Rating g ((i:Int) - 300)=true then (if (iT (jN r.Rating g) i).2 < (iT (jN r.Rating g) i).1 then (i:Int) - 300 else (iT (jN r.Rating g) i).1, (i:Int) - 300) else iT (jN r.Rating g) i from rfl]
    cases jN r.Rating g ((i:Int) - 300) with
    | false=>rfl
    | true=>
      rw [if_pos rfl, cond_true]
      by_cases h:(iT (jN r.Rating g) i).2 < (iT (jN r.Rating g) i).1
      · rw [dT h, if_pos h]
        rfl
      · rw [dF h, if_neg h]
        rfl)
  exact this
def lK (s:aC):Bool:=decide (s.Lo≤s.Hi)
theorem aFh {N:Nat} (hN:700≤N) {r:aR} (hr:wE r):∀ (m i M:Nat) (o:List aC), i + m=r.Gaugings.length→m < M→o.length=i →
    ∃ x o', bC (fun s12:Int × Int × List aC=>gS N r s12.1 s12.2.1 s12.2.2) M (0, (i:Int), o)=some (.go (if ((r.Gaugings.drop i).map (oK r.Rating)).all lK then 0 else 6, x, o')) ∧
      (((r.Gaugings.drop i).map (oK r.Rating)).all lK=true→o'=o++(r.Gaugings.drop i).map (oK r.Rating)):=by
  intro m
  induction m with
  | zero=>
    intro i M o hi hM ho
    obtain ⟨M, rfl⟩:∃ M', M=M' + 1:=⟨M - 1, by omega⟩
    obtain rfl:i=r.Gaugings.length:=by omega
    have hd:r.Gaugings.drop r.Gaugings.length=[]:=List.drop_eq_nil_of_le (Nat.le_refl _)
    rw [hd]
    refine ⟨(r.Gaugings.length:Int), o, ?_, fun _=>by simp⟩
    unfold bC
    have:gS N r 0 (r.Gaugings.length:Int) o=some (.brk (0, (r.Gaugings.length:Int), o)):=by
      unfold gS
      rw [pZ, cond_false]
    simp only [this]
    rfl
  | succ m ih=>
    intro i M o hi hM ho
    have h30:=hr.g30
    obtain ⟨M, rfl⟩:∃ M', M=M' + 1:=⟨M - 1, by omega⟩
    have hil:i < r.Gaugings.length:=by omega
    have hgm:r.Gaugings.getD i g0 ∈ r.Gaugings:=by
      rw [← eF hil]
      exact List.getElem_mem _
    have hd:r.Gaugings.drop i=r.Gaugings.getD i g0 :: r.Gaugings.drop (i + 1):=by rw [List.drop_eq_getElem_cons hil, eF (d:=g0) hil]
    rw [hd, List.map_cons, List.all_cons]
    unfold bC
    have hb:gS N r 0 (i:Int) o=(if lK (oK r.Rating (r.Gaugings.getD i g0))=true then some (.cont (0, ((i + 1:Nat):Int), o++[oK r.Rating (r.Gaugings.getD i g0)])) else some (.brk (6, (i:Int), o))):=by
      unfold gS
      rw [sO hil, cond_true, getI_d g0 hil, Option.bind_some, aIy hN hr.rt (hr.g _ hgm), Option.bind_some]
      show cond (decide ((oK r.Rating (r.Gaugings.getD i g0)).Hi < (oK r.Rating (r.Gaugings.getD i g0)).Lo)) _ _=_
      unfold lK
      by_cases h:(oK r.Rating (r.Gaugings.getD i g0)).Lo≤(oK r.Rating (r.Gaugings.getD i g0)).Hi
      · rw [dF (by omega), dT h, cond_false, if_pos rfl, mX (by simp; omega), Option.bind_some, dQ (by omega)]
      · rw [dT (by omega), dF h, cond_true, if_neg (by simp)]
    cases hs:lK (oK r.Rating (r.Gaugings.getD i g0)) with
    | false=>
      rw [hs, if_neg (by simp)] at hb
      refine ⟨(i:Int), o, ?_, fun h=>by simp at h⟩
      simp only [hb]
      rfl
    | true=>
      rw [hs, if_pos rfl] at hb
      obtain ⟨x, o', k1, k2⟩:=ih (i + 1) M (o++[oK r.Rating (r.Gaugings.getD i g0)]) (by omega) (by omega) (by simp [ho])
      refine ⟨x, o', ?_, fun h=>?_⟩
      · simp only [hb, Bool.true_and]
        exact k1
      · have:=k2 (by simpa using h)
        rw [this]
        simp
def passes (r:aR):List aC:=r.Gaugings.map (oK r.Rating)
theorem sR {N:Nat} (hN:700≤N) {r:aR} (hr:wE r):(∃ o, gY N r=some (.inr (o, 6))∧(passes r).all lK=false) ∨ (gY N r=some (.inr (passes r, 0))∧(passes r).all lK=true):=by
  have h12:=hr.rt.l12
  have h30:=hr.g30
  unfold gY
  rw [aGf hN (by omega) (by omega), Option.bind_some, aI8.2 hr]
  show (∃ o, Option.bind (bC _ N (0, ((0:Nat):Int), ([]:List aC))) _=_∧_) ∨ (Option.bind (bC _ N (0, ((0:Nat):Int), ([]:List aC))) _=_∧_)
  obtain ⟨x, o', k1, k2⟩:=aFh hN hr r.Gaugings.length 0 N [] (by omega) (by omega) rfl
  rw [k1, Option.bind_some]
  rw [List.drop_zero] at *
  cases hs:(passes r).all lK with
  | false=>
    left
    refine ⟨o', ?_, rfl⟩
    show some (Sum.inr (o', if (passes r).all lK=true then (0:Int) else 6))=_
    rw [hs]
    rfl
  | true=>
    right
    refine ⟨?_, rfl⟩
    show some (Sum.inr (o', if (passes r).all lK=true then (0:Int) else 6))=_
    rw [hs, k2 hs]
    rfl
end Go.Nilo
namespace Go.Nilo
def ap (x y:Int):Int:=max (x - y) (y - x)
def qK (f:Int→Int) (lo:Int):Nat→Int
  | 0=>f lo
  | n + 1=>min (qK f lo n) (f (lo + (n + 1:Nat)))
theorem vZ (f:Int→Int) (lo:Int):∀ (n:Nat) (y:Int), lo≤y→y≤lo + n→qK f lo n≤f y
  | 0, y, h1, h2=>by
    have:y=lo:=by omega
    subst this
    exact Int.le_refl _
  | n + 1, y, h1, h2=>by
    unfold qK
    rcases Int.lt_or_le (lo + n) y with h | h
    · have:y=lo + ((n + 1:Nat):Int):=by omega
      subst this
      exact Int.min_le_right _ _
    · exact Int.le_trans (Int.min_le_left _ _) (vZ f lo n y h1 h)
theorem sA (f:Int→Int) (lo:Int):∀ n:Nat, ∃ y, lo≤y∧y≤lo + n∧qK f lo n=f y
  | 0=>⟨lo, Int.le_refl _, by omega, rfl⟩
  | n + 1=>by
    obtain ⟨y, h1, h2, h3⟩:=sA f lo n
    unfold qK
    rcases Int.le_total (qK f lo n) (f (lo + ((n + 1:Nat):Int))) with h | h
    · exact ⟨y, h1, by omega, by rw [Int.min_eq_left h]; exact h3⟩
    · exact ⟨_, by omega, Int.le_refl _, Int.min_eq_right h⟩
def oE:Int:=1073741824
def cG (s:aC) (g:Int→Int):Nat→Int:=fun k=>if k < 601 then (if s.Lo≤(k:Int) - 300∧(k:Int) - 300≤s.Hi then g ((k:Int) - 300) else oE) else 0
def fI:List aC→Int→Int
  | _ :: t :: l, x=>qK (fun y=>ap x y + fI (t :: l) y) t.Lo (t.Hi - t.Lo).toNat
  | [_], _=>0
  | [], _=>0
def tN (s:aC):Prop:=-300≤s.Lo∧s.Lo≤s.Hi∧s.Hi≤300
theorem aA9:∀ (l:List aC) (x:Int), (∀ s ∈ l, tN s)→-300≤x∧x≤300→0≤fI l x∧fI l x≤600 * ((l.length:Int) - 1) ∨ l=[]
  | [], _, _, _=>.inr rfl
  | [_], _, _, _=>.inl ⟨Int.le_refl _, by simp [fI]⟩
  | s :: t :: l, x, h, hx=>by
    left
    have ht:=h t (by simp)
    unfold fI
    obtain ⟨y, h1, h2, h3⟩:=sA (fun y=>ap x y + fI (t :: l) y) t.Lo (t.Hi - t.Lo).toNat
    obtain ⟨a, b, c⟩:=ht
    have hy : -300≤y∧y≤300:=by omega
    rcases aA9 (t :: l) y (fun s hs=>h s (List.mem_cons_of_mem _ hs)) hy with ⟨k1, k2⟩ | k
    · rw [h3]
      simp only [List.length_cons, ap] at *
      omega
    · cases k
theorem inR_ok {i n:Nat} (h:i < n):inR (i:Int) n=some ():=by unfold inR; rw [if_pos ⟨by omega, by omega⟩]
theorem aD8 (x a b:Int):bD x a b=decide (a≤x∧x≤b):=by
  unfold bD
  by_cases h1:a≤x <;> by_cases h2:x≤b <;> simp [h1, h2]
theorem aGn {N:Nat} (hN:700≤N) (s:aC):pD N s=some (cG s fun _=>0):=by
  unfold pD
  have:=wP hN (rY (fun (zz:(Nat→Int)) (ix_:(Int × Int))=>jF N s zz ix_.1 ix_.2)) (fun i=>.go (fun k=>if k < i then (if s.Lo≤(k:Int) - 300∧(k:Int) - 300≤s.Hi then 0 else oE) else 0)) (fun i hi=>by
    show Option.map _ (jF N s _ (i:Int) ((i:Int) - 300))=_
    unfold jF
    rw [aD8]
    by_cases h:s.Lo≤(i:Int) - 300∧(i:Int) - 300≤s.Hi
    · rw [dT h, Bool.not_true, cond_false, Option.map_some]
      show some (Rs.go _, true)=some (Rs.go _, true)
      congr 2
      congr 1
      funext k
      by_cases hk:k=i
      · subst hk
        rw [if_neg (by omega), if_pos (by omega), if_pos h]
      · by_cases hk2:k < i
        · rw [if_pos hk2, if_pos (show k < i + 1 by omega)]
        · rw [if_neg hk2, if_neg (show ¬ k < i + 1 by omega)]
    · rw [dF h, Bool.not_false, cond_true, inR_ok hi, Option.bind_some, Option.map_some]
      show some (Rs.go _, true)=some (Rs.go _, true)
      congr 2
      congr 1
      funext k
      rw [Int.toNat_natCast]
      by_cases hk:k=i
      · subst hk
        rw [qV, if_pos (by omega), if_neg h]
        rfl
      · rw [rS hk]
        by_cases hk2:k < i
        · rw [if_pos hk2, if_pos (show k < i + 1 by omega)]
        · rw [if_neg hk2, if_neg (show ¬ k < i + 1 by omega)])
  have e:(fun k:Nat=>if k < 0 then (if s.Lo≤(k:Int) - 300∧(k:Int) - 300≤s.Hi then (0:Int) else oE) else 0)=fun _=>0:=by
    funext k
    rw [if_neg (by omega)]
  rw [← e, this]
  rfl
/-! ### The next table -/
def bst (f:Nat→Int):Nat→Int
  | 0=>oE
  | n + 1=>min (bst f n + 1) (f n)
theorem aGt {f:Nat→Int}:∀ n, (∀ j, j < n→0≤f j)→0≤bst f n∧bst f n≤oE + n
  | 0, _=>by simp [bst, oE]
  | n + 1, h=>by
    have ih:=aGt n fun j hj=>h j (by omega)
    have:=h n (by omega)
    unfold bst
    push_cast
    omega
theorem aGx {f:Nat→Int}:∀ n j, j < n→bst f n≤f j + ((n:Int) - 1 - j)
  | 0, j, h=>by omega
  | n + 1, j, h=>by
    unfold bst
    rcases Nat.lt_or_eq_of_le (show j≤n by omega) with h1 | h1
    · have:=aGx (f:=f) n j h1
      push_cast
      omega
    · subst h1
      push_cast
      omega
theorem aGr {f:Nat→Int}:∀ n:Nat, bst f n=oE + n ∨ ∃ j, j < n∧bst f n=f j + ((n:Int) - 1 - j)
  | 0=>.inl (by simp [bst])
  | n + 1=>by
    unfold bst
    rcases Int.le_total (bst f n + 1) (f n) with h | h
    · rw [Int.min_eq_left h]
      rcases aGr (f:=f) n with h1 | ⟨j, h1, h2⟩
      · left
        rw [h1]
        push_cast
        omega
      · right
        exact ⟨j, by omega, by rw [h2]; push_cast; omega⟩
    · rw [Int.min_eq_right h]
      right
      exact ⟨n, by omega, by push_cast; omega⟩
theorem aIt {t:aC} {g:Int→Int} (ht:tN t) (hg:∀ y, t.Lo≤y→y≤t.Hi→0≤g y∧g y≤20000) {k:Nat} (hk:k < 601) :
    min (bst (cG t g) (k + 1)) (bst (fun j=>cG t g (600 - j)) (601 - k))=qK (fun y=>ap ((k:Int) - 300) y + g y) t.Lo (t.Hi - t.Lo).toNat:=by
  obtain ⟨t1, t2, t3⟩:=ht
  have hn:(((t.Hi - t.Lo).toNat:Nat):Int)=t.Hi - t.Lo:=by omega
  have hin:∀ y, t.Lo≤y→y≤t.Hi→cG t g (y + 300).toNat=g y:=fun y h1 h2=>by
    unfold cG
    rw [if_pos (by omega), show (((y + 300).toNat:Nat):Int) - 300=y by omega, if_pos ⟨h1, h2⟩]
  have hle:∀ p, p < 601→min (bst (cG t g) (k + 1)) (bst (fun j=>cG t g (600 - j)) (601 - k))≤cG t g p + ap ((k:Int) - 300) ((p:Int) - 300):=fun p hp=>by
    rcases Nat.lt_or_ge k p with h | h
    · have:=aGx (f:=fun j=>cG t g (600 - j)) (601 - k) (600 - p) (by omega)
      simp only [show 600 - (600 - p)=p by omega] at this
      unfold ap
      omega
    · have:=aGx (f:=cG t g) (k + 1) p (by omega)
      unfold ap
      push_cast at this
      omega
  refine Int.le_antisymm ?_ ?_
  · obtain ⟨y, h1, h2, h3⟩:=sA (fun y=>ap ((k:Int) - 300) y + g y) t.Lo (t.Hi - t.Lo).toNat
    rw [h3]
    have:=hle (y + 300).toNat (by omega)
    rw [hin y h1 (by omega), show (((y + 300).toNat:Nat):Int) - 300=y by omega] at this
    omega
  · have hsm:min (bst (cG t g) (k + 1)) (bst (fun j=>cG t g (600 - j)) (601 - k)) < oE:=by
      have:=hle (t.Lo + 300).toNat (by omega)
      rw [hin t.Lo (Int.le_refl _) t2, show (((t.Lo + 300).toNat:Nat):Int) - 300=t.Lo by omega] at this
      have:=hg t.Lo (Int.le_refl _) t2
      unfold ap oE at *
      omega
    have hat:∃ p, p < 601∧min (bst (cG t g) (k + 1)) (bst (fun j=>cG t g (600 - j)) (601 - k))=cG t g p + ap ((k:Int) - 300) ((p:Int) - 300):=by
      rcases Int.le_total (bst (cG t g) (k + 1)) (bst (fun j=>cG t g (600 - j)) (601 - k)) with h | h
      · rw [Int.min_eq_left h] at hsm ⊢
        rcases aGr (f:=cG t g) (k + 1) with h1 | ⟨j, h1, h2⟩
        · omega
        · refine ⟨j, by omega, ?_⟩
          rw [h2]
          unfold ap
          push_cast
          omega
      · rw [Int.min_eq_right h] at hsm ⊢
        rcases aGr (f:=fun j=>cG t g (600 - j)) (601 - k) with h1 | ⟨j, h1, h2⟩
        · omega
        · refine ⟨600 - j, by omega, ?_⟩
          rw [h2]
          unfold ap
          omega
    obtain ⟨p, hp, he⟩:=hat
    have hpt:t.Lo≤(p:Int) - 300∧(p:Int) - 300≤t.Hi:=by
      rcases Classical.em (t.Lo≤(p:Int) - 300∧(p:Int) - 300≤t.Hi) with h | h
      · exact h
      · have:cG t g p=oE:=by
          unfold cG
          rw [if_pos hp, if_neg h]
        rw [this] at he
        unfold ap at he
        omega
    have hpv:cG t g p=g ((p:Int) - 300):=by
      unfold cG
      rw [if_pos hp, if_pos hpt]
    rw [he, hpv]
    have:=vZ (fun y=>ap ((k:Int) - 300) y + g y) t.Lo (t.Hi - t.Lo).toNat ((p:Int) - 300) hpt.1 (by omega)
    omega
theorem aN7 {t:aC} {g:Int→Int} (hg:∀ y, t.Lo≤y→y≤t.Hi→0≤g y∧g y≤20000) (k:Nat):0≤cG t g k∧cG t g k≤oE:=by
  unfold cG
  split
  · split
    · rename_i h
      have:=hg _ h.1 h.2
      unfold oE
      omega
    · unfold oE
      omega
  · unfold oE
    omega
theorem aLu {N:Nat} (hN:700≤N) {t s:aC} {g:Int→Int} (ht:tN t) (hg:∀ y, t.Lo≤y→y≤t.Hi→0≤g y∧g y≤20000) :
    lT N (cG t g) s=some (cG s fun x=>qK (fun y=>ap x y + g y) t.Lo (t.Hi - t.Lo).toNat):=by
  unfold lT
  have htb:=aN7 hg
  have hsub:∃ v, rO (aL 601 (cG t g)) 0 ((601:Nat):Int)=some v:=by
    unfold rO
    rw [if_pos ⟨by omega, by omega, by rw [vO]; omega⟩]
    exact ⟨_, rfl⟩
  obtain ⟨v, hv⟩:=hsub
  rw [hv, Option.bind_some]
  have b1:=fun n=>aGt (f:=cG t g) n fun j _=>(htb j).1
  have b2:=fun n=>aGt (f:=fun j=>cG t g (600 - j)) n fun j _=>(htb _).1
  have l1:=aEb (ρ:=Nat→Int) (fun i:Nat=>((bst (cG t g) i, (i:Int), fun k=>if k < i then bst (cG t g) (k + 1) else 0):Int × Int × (Nat→Int))) 601 (fun s7=>kF N (cG t g) s7.1 s7.2.1 s7.2.2) (fun i hi=>by
    show kF N (cG t g) (bst (cG t g) i) (i:Int) _=_
    unfold kF
    have:=b1 i
    unfold oE at this
    rw [dT (by omega), cond_true, inR_ok hi, Option.bind_some, Option.bind_some, W_sm (n:=bst (cG t g) i + 1) (by omega) (by omega), dQ (by omega), Int.toNat_natCast]
    show some (cP.cont (bst (cG t g) (i + 1), ((i + 1:Nat):Int), kU _ i (bst (cG t g) (i + 1))))=_
    refine congrArg (fun M=>some (cP.cont (bst (cG t g) (i + 1), ((i + 1:Nat):Int), M))) (funext fun k=>?_)
    by_cases hk:k=i
    · subst hk
      rw [qV, if_pos (by omega)]
    · rw [rS hk]
      show (if k < i then bst (cG t g) (k + 1) else 0)=if k < i + 1 then bst (cG t g) (k + 1) else 0
      by_cases hk2:k < i
      · rw [if_pos hk2, if_pos (show k < i + 1 by omega)]
      · rw [if_neg hk2, if_neg (show ¬ k < i + 1 by omega)]) rfl (N:=N) (by omega)
  have e1:(fun k:Nat=>if k < 0 then bst (cG t g) (k + 1) else 0)=fun _=>0:=by
    funext k
    rw [if_neg (by omega)]
  rw [e1] at l1
  rw [show ((1073741824:Int), (0:Int), (fun _=>0:Nat→Int))=(bst (cG t g) 0, ((0:Nat):Int), fun _=>0) from rfl, l1, Option.bind_some]
  have l2:=aEb (ρ:=Nat→Int) (fun j:Nat=>((bst (fun j=>cG t g (600 - j)) j, 600 - (j:Int), fun k=>if k < 601 then (if 600 < k + j then min (bst (cG t g) (k + 1)) (bst (fun j=>cG t g (600 - j)) (601 - k)) else bst (cG t g) (k + 1)) else 0):Int × Int × (Nat→Int))) 601 (fun s11=>jD N (cG t g) s11.1 s11.2.1 s11.2.2) (fun j hj=>by
    show jD N (cG t g) (bst (fun j=>cG t g (600 - j)) j) (600 - (j:Int)) _=_
    unfold jD
    have:=b2 j
    unfold oE at this
    rw [dT (by omega), cond_true, show (600:Int) - (j:Int)=((600 - j:Nat):Int) by omega, inR_ok (by omega), Option.bind_some, Option.bind_some, Option.bind_some, W_sm (n:=bst (fun j=>cG t g (600 - j)) j + 1) (by omega) (by omega), W_sm (n:=((600 - j:Nat):Int) - 1) (by omega) (by omega), Int.toNat_natCast]
    show some (cP.cont (bst (fun j=>cG t g (600 - j)) (j + 1), ((600 - j:Nat):Int) - 1, kU _ (600 - j) (min _ (bst (fun j=>cG t g (600 - j)) (j + 1)))))=_
    rw [show ((600 - j:Nat):Int) - 1=600 - ((j + 1:Nat):Int) by omega]
    refine congrArg (fun M=>some (cP.cont (bst (fun j=>cG t g (600 - j)) (j + 1), 600 - ((j + 1:Nat):Int), M))) (funext fun k=>?_)
    by_cases hk:k=600 - j
    · subst hk
      rw [qV]
      show min (if 600 - j < 601 then (if 600 < 600 - j + j then min (bst (cG t g) (600 - j + 1)) (bst (fun j=>cG t g (600 - j)) (601 - (600 - j))) else bst (cG t g) (600 - j + 1)) else 0) (bst (fun j=>cG t g (600 - j)) (j + 1))=if 600 - j < 601 then (if 600 < 600 - j + (j + 1) then min (bst (cG t g) (600 - j + 1)) (bst (fun j=>cG t g (600 - j)) (601 - (600 - j))) else bst (cG t g) (600 - j + 1)) else 0
      rw [if_pos (show 600 - j < 601 by omega), if_neg (show ¬ 600 < 600 - j + j by omega), if_pos (show 600 - j < 601 by omega), if_pos (show 600 < 600 - j + (j + 1) by omega), show 601 - (600 - j)=j + 1 by omega]
    · rw [rS hk]
      show (if k < 601 then (if 600 < k + j then min (bst (cG t g) (k + 1)) (bst (fun j=>cG t g (600 - j)) (601 - k)) else bst (cG t g) (k + 1)) else 0)=if k < 601 then (if 600 < k + (j + 1) then min (bst (cG t g) (k + 1)) (bst (fun j=>cG t g (600 - j)) (601 - k)) else bst (cG t g) (k + 1)) else 0
      by_cases hk2:k < 601
      · rw [if_pos hk2, if_pos hk2]
        by_cases hk3:600 < k + j
        · rw [if_pos hk3, if_pos (show 600 < k + (j + 1) by omega)]
        · rw [if_neg hk3, if_neg (show ¬ 600 < k + (j + 1) by omega)]
      · rw [if_neg hk2, if_neg hk2]) rfl (N:=N) (by omega)
  have e2:(fun k:Nat=>if k < 601 then (if 600 < k + 0 then min (bst (cG t g) (k + 1)) (bst (fun j=>cG t g (600 - j)) (601 - k)) else bst (cG t g) (k + 1)) else 0)=fun k=>if k < 601 then bst (cG t g) (k + 1) else 0:=by
    funext k
    by_cases hk2:k < 601
    · rw [if_pos hk2, if_pos hk2, if_neg (by omega)]
    · rw [if_neg hk2, if_neg hk2]
  rw [e2] at l2
  show Option.bind (bC _ N (bst (fun j=>cG t g (600 - j)) 0, 600 - ((0:Nat):Int), fun k=>if k < 601 then bst (cG t g) (k + 1) else 0)) _=_
  rw [l2, Option.bind_some]
  have e3:(fun k:Nat=>if k < 601 then (if 600 < k + 601 then min (bst (cG t g) (k + 1)) (bst (fun j=>cG t g (600 - j)) (601 - k)) else bst (cG t g) (k + 1)) else 0)=fun k:Nat=>if k < 601 then qK (fun y=>ap ((k:Int) - 300) y + g y) t.Lo (t.Hi - t.Lo).toNat else 0:=by
    funext k
    by_cases hk2:k < 601
    · rw [if_pos hk2, if_pos hk2, if_pos (by omega), aIt ht hg hk2]
    · rw [if_neg hk2, if_neg hk2]
  simp only [exK]
  rw [e3]
  have l3:=wP hN (rY (fun (zz:(Nat→Int)) (ix_:(Int × Int))=>fP N s zz ix_.1 ix_.2)) (fun i=>.go (fun k=>if k < 601 then (if k < i∧¬(s.Lo≤(k:Int) - 300∧(k:Int) - 300≤s.Hi) then oE else qK (fun y=>ap ((k:Int) - 300) y + g y) t.Lo (t.Hi - t.Lo).toNat) else 0)) (fun i hi=>by
    show Option.map _ (fP N s _ (i:Int) ((i:Int) - 300))=_
    unfold fP
    rw [aD8]
    by_cases h:s.Lo≤(i:Int) - 300∧(i:Int) - 300≤s.Hi
    · rw [dT h, Bool.not_true, cond_false, Option.map_some]
      show some (Rs.go _, true)=some (Rs.go _, true)
      refine congrArg (fun M=>some (Rs.go M, true)) (funext fun k=>?_)
      by_cases hk6:k < 601
      · rw [if_pos hk6, if_pos hk6]
        by_cases hk:k=i
        · subst hk
          rw [if_neg (by omega), if_neg (by omega)]
        · by_cases hk2:k < i∧¬(s.Lo≤(k:Int) - 300∧(k:Int) - 300≤s.Hi)
          · rw [if_pos hk2, if_pos (by omega)]
          · rw [if_neg hk2, if_neg (by omega)]
      · rw [if_neg hk6, if_neg hk6]
    · rw [dF h, Bool.not_false, cond_true, inR_ok hi, Option.bind_some, Option.map_some]
      show some (Rs.go _, true)=some (Rs.go _, true)
      refine congrArg (fun M=>some (Rs.go M, true)) (funext fun k=>?_)
      rw [Int.toNat_natCast]
      by_cases hk:k=i
      · subst hk
        rw [qV, if_pos hi, if_pos (by omega)]
        rfl
      · rw [rS hk]
        by_cases hk6:k < 601
        · rw [if_pos hk6, if_pos hk6]
          by_cases hk2:k < i∧¬(s.Lo≤(k:Int) - 300∧(k:Int) - 300≤s.Hi)
          · rw [if_pos hk2, if_pos (by omega)]
          · rw [if_neg hk2, if_neg (by omega)]
        · rw [if_neg hk6, if_neg hk6])
  have e4:(fun k:Nat=>if k < 601 then (if k < 0∧¬(s.Lo≤(k:Int) - 300∧(k:Int) - 300≤s.Hi) then oE else qK (fun y=>ap ((k:Int) - 300) y + g y) t.Lo (t.Hi - t.Lo).toNat) else 0)=fun k:Nat=>if k < 601 then qK (fun y=>ap ((k:Int) - 300) y + g y) t.Lo (t.Hi - t.Lo).toNat else 0:=by
    funext k
    by_cases hk2:k < 601
    · rw [if_pos hk2, if_pos hk2, if_neg (by omega)]
    · rw [if_neg hk2, if_neg hk2]
  rw [← e4, l3, Option.bind_some]
  refine congrArg some (funext fun k=>?_)
  unfold cG
  by_cases hk6:k < 601
  · rw [if_pos hk6, if_pos hk6]
    by_cases h:s.Lo≤(k:Int) - 300∧(k:Int) - 300≤s.Hi
    · rw [if_neg (by omega), if_pos h]
    · rw [if_pos (by omega), if_neg h]
  · rw [if_neg hk6, if_neg hk6]
end Go.Nilo
namespace Go.Nilo
def aBm {α:Type} (d:α) (xs:List α) (k:Nat):List α:=(List.range xs.length).map fun m=>if m < k ∨ xs.length≤m + k then xs.getD (xs.length - 1 - m) d else xs.getD m d
theorem tD {α:Type} {d:α} {xs:List α} {k:Nat}:(aBm d xs k).length=xs.length:=by simp [aBm]
theorem vC {α:Type} {d:α} {xs:List α} {k m:Nat} (h:m < (aBm d xs k).length):(aBm d xs k)[m]=if m < k ∨ xs.length≤m + k then xs.getD (xs.length - 1 - m) d else xs.getD m d:=by
  simp [aBm]
theorem aIq {α:Type} {d:α} {xs:List α} {k:Nat} (h:k + k + 1 < xs.length):((aBm d xs k).set k (xs.getD (xs.length - 1 - k) d)).set (xs.length - 1 - k) (xs.getD k d)=aBm d xs (k + 1):=by
  refine List.ext_getElem (by simp [tD]) fun m h1 h2=>?_
  rw [List.getElem_set, List.getElem_set, vC, vC]
  have hm:m < xs.length:=by rwa [tD] at h2
  by_cases e1:xs.length - 1 - k=m
  · rw [if_pos e1, if_pos (by omega), show xs.length - 1 - m=k by omega]
  · rw [if_neg e1]
    by_cases e2:k=m
    · rw [if_pos e2, if_pos (by omega), e2]
    · rw [if_neg e2]
      by_cases e3:m < k ∨ xs.length≤m + k
      · rw [if_pos e3, if_pos (by omega)]
      · rw [if_neg e3, if_neg (by omega)]
theorem aJr {α:Type} {d:α} {xs:List α}:aBm d xs (xs.length / 2)=xs.reverse:=by
  refine List.ext_getElem (by simp [tD]) fun m h1 h2=>?_
  have hm:m < xs.length:=by rwa [tD] at h1
  rw [vC, List.getElem_reverse, eF (d:=d)]
  by_cases e3:m < xs.length / 2 ∨ xs.length≤m + xs.length / 2
  · rw [if_pos e3]
  · rw [if_neg e3, show xs.length - 1 - m=m by omega]
theorem aIz {α:Type} {d:α} {xs:List α}:aBm d xs 0=xs:=by
  refine List.ext_getElem (by simp [tD]) fun m h1 h2=>?_
  rw [vC, if_neg (by omega), eF (d:=d)]
theorem aF9 {α ρ:Type} (d:α) (b:List α × Int × Int→Option (cP (List α × Int × Int) ρ)) (hb:∀ s i j, b (s, i, j)=cond (decide (i < j)) (Option.bind (bQ s j) fun e1=>Option.bind (bQ s i) fun e2=>Option.bind (bQ s i) fun _=>Option.bind (bQ s j) fun _=>some (.cont ((s.set i.toNat e1).set j.toNat e2, W (i + 1), W (j - 1)))) (some (.brk (s, i, j))))
    {N:Nat} {xs:List α} (hl:xs.length≤1000) (hN:xs.length < N):∃ i j, bC b N (xs, 0, W (((xs.length:Nat):Int) - 1))=some (.go (xs.reverse, i, j)):=by
  have:=aEb (fun k:Nat=>(aBm d xs k, (k:Int), (xs.length:Int) - 1 - k)) (xs.length / 2) b (fun k hk=>by
    have hg:∀ m, m < xs.length→bQ (aBm d xs k) (m:Int)=some (if m < k ∨ xs.length≤m + k then xs.getD (xs.length - 1 - m) d else xs.getD m d):=fun m hm=>by
      rw [tI (by rw [tD]; exact hm), vC]
    rw [hb, decide_eq_true (by omega), cond_true, show (xs.length:Int) - 1 - (k:Int)=((xs.length - 1 - k:Nat):Int) by omega, hg _ (by omega), hg _ (by omega), if_neg (by omega), if_neg (by omega)]
    simp only [Option.bind_some, Int.toNat_natCast]
    rw [aIq (by omega), dQ (by omega), pN (by omega) (by omega), show ((xs.length - 1 - k:Nat):Int) - 1=(xs.length:Int) - 1 - ((k + 1:Nat):Int) by omega]) (by
    rw [hb, decide_eq_false (by omega), cond_false]) (N:=N) (by omega)
  rw [aIz, aJr] at this
  rw [pN (by omega) (by omega)]
  refine ⟨_, _, Eq.trans ?_ this⟩
  congr 1
  simp

end Go.Nilo
