/-
  What the plain functions compute, in plain arithmetic, part 2. Conditions: what each theorem names.
-/
import Derived.Test.YtofihdjdhecfdaaGreatDrL1
set_option linter.unusedSimpArgs false
set_option linter.unusedVariables false
namespace Go.Nilo
def red (n d:Int):eE:=⟨n / (Int.gcd n d:Int),d / (Int.gcd n d:Int)⟩
theorem aEh {n d:Int} (hd:0 < d) (hn:0≤n):1≤(red n d).D∧(red n d).D≤d∧0≤(red n d).N∧(red n d).N≤n∧(red n d).N * d=n * (red n d).D:=by
 have g0:0 < Int.gcd n d:=Int.gcd_pos_of_ne_zero_right _ (by omega)
 have g1:(0:Int) < (Int.gcd n d:Int):=by omega
 have e1:n / (Int.gcd n d:Int) * (Int.gcd n d:Int)=n:=Int.ediv_mul_cancel (Int.gcd_dvd_left ..)
 have e2:d / (Int.gcd n d:Int) * (Int.gcd n d:Int)=d:=Int.ediv_mul_cancel (Int.gcd_dvd_right ..)
 have e3:0≤n / (Int.gcd n d:Int):=Int.ediv_nonneg hn (by omega)
 have e4:0 < d / (Int.gcd n d:Int):=by
  rcases Int.lt_or_le 0 (d / (Int.gcd n d:Int)) with h | h
  ·exact h
  ·have:=Int.mul_le_mul_of_nonneg_right h (Int.le_of_lt g1)
   omega
 refine ⟨e4,?_,e3,?_,?_⟩
 ·exact Int.ediv_le_self _ (by omega)
 ·exact Int.ediv_le_self _ hn
 ·show n / (Int.gcd n d:Int) * d=n * (d / (Int.gcd n d:Int))
  generalize n / (Int.gcd n d:Int)=p at *
  generalize d / (Int.gcd n d:Int)=q at *
  generalize (Int.gcd n d:Int)=g at *
  subst e1
  rw [← e2]
  grind
theorem aCu {n d:Nat}:red n d=⟨((n / Nat.gcd n d:Nat):Int),((d / Nat.gcd n d:Nat):Int)⟩:=by
 unfold red
 rw [Int.gcd_natCast_natCast]
 push_cast
 rfl
theorem aLv {n d n' d':Int} (hd:0 < d) (hd':0 < d') (hn:0≤n) (hn':0≤n') (h:n * d'=n' * d):red n d=red n' d':=by
 obtain ⟨a,rfl⟩:=Int.eq_ofNat_of_zero_le hn
 obtain ⟨a',rfl⟩:=Int.eq_ofNat_of_zero_le hn'
 obtain ⟨b,rfl⟩:=Int.eq_ofNat_of_zero_le (Int.le_of_lt hd)
 obtain ⟨b',rfl⟩:=Int.eq_ofNat_of_zero_le (Int.le_of_lt hd')
 have h':a * b'=a' * b:=by exact_mod_cast h
 rw [aCu,aCu]
 rcases Nat.eq_zero_or_pos a with ha | ha
 ·subst ha
  have ha':a'=0:=by
   rcases Nat.eq_zero_or_pos a' with h | h
   ·exact h
   ·have:=Nat.mul_pos h (show 0 < b by omega)
    omega
  subst ha'
  simp only [Nat.gcd_zero_left,Nat.zero_div]
  rw [Nat.div_self (by omega),Nat.div_self (by omega)]
 ·have ha':0 < a':=by
   rcases Nat.eq_zero_or_pos a' with h | h
   ·subst h
    have:=Nat.mul_pos ha (show 0 < b' by omega)
    omega
   ·exact h
  obtain ⟨k1,k2⟩:=aJi (show 0 < b by omega) (show 0 < b' by omega) ha ha' h'
  rw [k1,k2]
theorem aGl {n:Int} (hn:0≤n):red n 1=⟨n,1⟩:=by
 unfold red
 simp
theorem aIh {n d:Int} (hd:0 < d) (hn:0≤n):red (red n d).N (red n d).D=red n d:=by
 obtain ⟨h1,-,h3,-,h5⟩:=aEh hd hn
 exact aLv (by omega) hd h3 hn h5
theorem aEu {N:Nat} (hN:700≤N) {n d:Int} (hd:0 < d) (hd':d < 1000000000000) (hn:0≤n) (hn':n≤9223372036854775807):mU N n d=some (red n d):=by
 obtain ⟨a,rfl⟩:=Int.eq_ofNat_of_zero_le hn
 obtain ⟨b,rfl⟩:=Int.eq_ofNat_of_zero_le (Int.le_of_lt hd)
 unfold mU
 have hm:max ((a:Nat):Int) (W (0 - ((a:Nat):Int)))=(a:Int):=by
  rw [oT (by omega) (by omega)]
  omega
 rw [hm]
 -- the first round brings both below a bound
 have hstep:∀ a b:Nat,0 < b→gM N (a:Int) (b:Int)=some (.cont ((b:Int),((a % b:Nat):Int))):=by
  intro a b hb
  unfold gM
  have h1:(((b:Nat):Int) != 0)=true:=by simp; omega
  have h2:nz ((b:Nat):Int)=some ():=by unfold nz; rw [if_neg (by omega)]
  rw [h1,cond_true,h2,Option.bind_some,uQ (by omega)]
  push_cast
  rfl
 have hend:∀ a:Nat,gM N (a:Int) 0=some (.brk ((a:Int),0)):=fun a=>rfl
 obtain ⟨M,rfl⟩:∃ M,N=M + 1:=⟨N - 1,by omega⟩
 have hb:0 < b:=by omega
 have hloop:bE (fun s4:Int × Int=>gM (M + 1) s4.1 s4.2) (M + 1) ((a:Int),(b:Int))=some (.go (((Nat.gcd a b:Nat):Int),0)):=by
  unfold bE
  rw [show gM (M + 1) ((a:Int),(b:Int)).1 ((a:Int),(b:Int)).2=_ from hstep a b hb]
  have hlt:a % b < b:=Nat.mod_lt _ hb
  have:=aDy (fun s4:Int × Int=>gM (M + 1) s4.1 s4.2) (fun a b=>((a:Int),(b:Int))) (fun a=>hend a) (fun a b hb _ _=>hstep a b hb) 41 b (a % b) M (by omega) (by omega) (by have:(2:Nat) ^ 41=2199023255552:=(by decide); omega) (by omega)
  show bE _ M ((b:Int),((a % b:Nat):Int))=_
  rw [this]
  have:Nat.gcd b (a % b)=Nat.gcd a b:=by rw [Nat.gcd_comm a b,Nat.gcd_rec b a,Nat.gcd_comm]
  rw [this]
  rfl
 rw [hloop,Option.bind_some]
 have g0:0 < Nat.gcd a b:=Nat.gcd_pos_of_pos_right _ hb
 have hz:nz ((Nat.gcd a b:Nat):Int)=some ():=by unfold nz; rw [if_neg (by omega)]
 show Option.bind (nz ((Nat.gcd a b:Nat):Int)) (fun _=>Option.bind (nz ((Nat.gcd a b:Nat):Int)) fun _=>some _)=_
 rw [hz,Option.bind_some,Option.bind_some,aCu,oS (by omega),oS (by omega)]
 have e1:((a:Nat):Int) / ((Nat.gcd a b:Nat):Int)=((a / Nat.gcd a b:Nat):Int):=by push_cast; rfl
 have e2:((b:Nat):Int) / ((Nat.gcd a b:Nat):Int)=((b / Nat.gcd a b:Nat):Int):=by push_cast; rfl
 have l1:a / Nat.gcd a b≤a:=Nat.div_le_self _ _
 have l2:b / Nat.gcd a b≤b:=Nat.div_le_self _ _
 rw [e1,e2]
 generalize a / Nat.gcd a b=p at *
 generalize b / Nat.gcd a b=q at *
 rw [oT (by omega) (by omega),oT (by omega) (by omega)]
end Go.Nilo
