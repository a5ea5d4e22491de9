/-
  What the plain functions compute, in plain arithmetic, part 8. Conditions: what each theorem names.
-/
import Derived.Test.YtfacdlbpakdcfaaDkL7
set_option linter.unusedSimpArgs false
set_option linter.unusedVariables false
namespace Go.Nilo
structure NJ (l : List daily_Reading) (i : Nat) (T : Int → Int) (C0 c p B : Int) (ks : List Kk) (d : Nat → Int) : Prop where
 ki : KI T (vl l i) (wt l i) c p B ks
 di : DI (vl l) i d (C0 + c)
 de : Desc ks
 kk : ∀ k ∈ ks,∃ a : Nat,k.reading = (a : Int) ∧ a ≤ i ∧ k.value = vl l a ∧ 1 ≤ k.weight ∧ k.weight ≤ 100
 ow : ∃ k ∈ ks,k.value = vl l i
 kq : ∀ j,j ≤ i → kw ks j + d j + (if j = i then p else 0) ≤ wt l j
 lo : ∀ j,j ≤ i → -(wt l j) ≤ d j
 dp : d i = -p
 dz : ∀ j,i < j → d j = 0
 ln : ks.length ≤ 2 * i + 1

theorem wt_bd {l : List daily_Reading} (h : RdOk l) {j : Nat} (hj : j < l.length) : 1 ≤ wt l j ∧ wt l j ≤ 100 := h.w j hj
theorem NJ.up {l : List daily_Reading} {i : Nat} {T : Int → Int} {C0 c p B : Int} {ks : List Kk} {d : Nat → Int} (h : NJ l i T C0 c p B ks d) {j : Nat} (hj : j ≤ i) : d j ≤ wt l j := by
 have h1 := h.kq j hj
 have h2 := kw_nonneg (fun k hk => by obtain ⟨a,_,_,_,h,_⟩ := h.kk k hk; omega) j
 have h3 := h.ki.p0
 split at h1 <;> omega

theorem dstep_at {d : Nat → Int} {a i : Nat} {n : Int} (hai : a ≠ i) (h1 : -1000 ≤ d a ∧ d a ≤ 1000) (h2 : -1000 ≤ d i ∧ d i ≤ 1000) (hn : 0 ≤ n ∧ n ≤ 1000) : setF (setF d a (W (d a + n))) i (W (setF d a (W (d a + n)) i - n)) = dstep d a i n := by
 funext j
 rw [setF_ne (show i ≠ a from fun e => hai e.symm),W_sm (by omega) (by omega),W_sm (by omega) (by omega)]
 unfold dstep
 by_cases h3 : j = i
 ·subst h3
  rw [setF_self,if_neg hai,if_pos rfl]
  omega
 ·rw [setF_ne h3]
  by_cases h4 : j = a
  ·subst h4
   rw [setF_self,if_pos (rfl : j = j),if_neg (fun e : i = j => h3 e.symm)]
   omega
  ·rw [setF_ne h4,if_neg (fun e : a = j => h4 e.symm),if_neg (fun e : i = j => h3 e.symm)]
   omega

theorem NJ.push {l : List daily_Reading} {i : Nat} {T : Int → Int} {C0 c p B : Int} {k : Kk} {ks : List Kk} {d : Nat → Int} (h : NJ l i T C0 c p B (k::ks) d) (hv : vl l i < k.value) {n : Int} (hn : 1 ≤ n) (hn1 : n ≤ wt l i - p) (hn2 : n ≤ k.weight) {a : Nat} (ha : k.reading = (a : Int)) :
  a < i ∧ ((k.weight - n = 0 → ∃ c B,NJ l i T C0 c (p + n) B ks (dstep d a i n)) ∧ (k.weight - n ≠ 0 → ∃ c B,NJ l i T C0 c (p + n) B (⟨k.value,k.reading,k.weight - n⟩::ks) (dstep d a i n))) := by
 obtain ⟨a',ha',ha2,ha3,ha4,ha5⟩ := h.kk k List.mem_cons_self
 have : a' = a := by rw [ha] at ha'; omega
 subst this
 have hai : a' < i := by
  rcases Nat.lt_or_ge a' i with h1 | h1
  ·exact h1
  ·have : a' = i := by omega
   subst this
   omega
 have hk := h.ki.step (n := n) (fun x hx => Desc.head h.de x (List.mem_cons_of_mem _ hx)) hv (by omega) hn1
 have hd := h.di.step hai (n := n) (by omega)
 have hc : C0 + c + n * (vl l a' - vl l i) = C0 + (c + n * (k.value - vl l i)) := by rw [ha3]; omega
 rw [hc] at hd
 have hdi : ∀ j,dstep d a' i n j = d j + (if a' = j then n else 0) + (if i = j then -n else 0) := fun _ => rfl
 have hkw : ∀ j,kw (⟨k.value,k.reading,k.weight - n⟩::ks) j = kw (k::ks) j - (if a' = j then n else 0) := by
  intro j
  show (if k.reading = (j : Int) then k.weight - n else 0) + kw ks j = (if k.reading = (j : Int) then k.weight else 0) + kw ks j - _
  rw [ha]
  by_cases hj : a' = j
  ·rw [if_pos (by omega),if_pos (by omega),if_pos hj]; omega
  ·rw [if_neg (by omega),if_neg (by omega),if_neg hj]; omega
 have hw1 : ∀ j,j ≤ i → kw (⟨k.value,k.reading,k.weight - n⟩::ks) j + dstep d a' i n j + (if j = i then p + n else 0) ≤ wt l j := by
  intro j hj
  have h1 := h.kq j hj
  rw [hkw,hdi]
  by_cases hji : j = i
  ·subst hji
   rw [if_pos rfl] at h1 ⊢
   rw [if_neg (by omega),if_pos rfl]
   omega
  ·rw [if_neg hji] at h1 ⊢
   rw [if_neg (fun e : i = j => hji e.symm)]
   by_cases haj : a' = j
   ·rw [if_pos haj]; omega
   ·rw [if_neg haj]; omega
 have hlo : ∀ j,j ≤ i → -(wt l j) ≤ dstep d a' i n j := by
  intro j hj
  have h1 := h.lo j hj
  rw [hdi]
  by_cases hji : j = i
  ·subst hji
   have := h.dp
   rw [if_neg (by omega),if_pos rfl]
   omega
  ·rw [if_neg (fun e : i = j => hji e.symm)]
   split <;> omega
 have hdp : dstep d a' i n i = -(p + n) := by
  rw [hdi,if_neg (by omega),if_pos rfl,h.dp]; omega
 have hdz : ∀ j,i < j → dstep d a' i n j = 0 := by
  intro j hj
  rw [hdi,if_neg (by omega),if_neg (by omega),h.dz j hj]
  rfl
 have hln := h.ln
 rw [List.length_cons] at hln
 obtain ⟨k1,m1,m2⟩ := h.ow
 have m1' : k1 ∈ ks := by
  rcases List.mem_cons.1 m1 with rfl | m
  ·omega
  ·exact m
 have hde := h.de
 obtain ⟨e1,e2⟩ := List.pairwise_cons.1 hde
 refine ⟨hai,fun h0 => ⟨c + n * (k.value - vl l i),k.value,?_⟩,fun h0 => ⟨c + n * (k.value - vl l i),k.value,?_⟩⟩
 ·refine ⟨hk.drop h0,hd,e2,fun z hz => h.kk z (List.mem_cons_of_mem _ hz),⟨k1,m1',m2⟩,?_,hlo,hdp,hdz,by omega⟩
  intro j hj
  have h1 := hw1 j hj
  have h2 : kw (⟨k.value,k.reading,k.weight - n⟩::ks) j = kw ks j := by
   show (if k.reading = (j : Int) then k.weight - n else 0) + kw ks j = kw ks j
   rw [h0]; split <;> omega
  rw [h2] at h1
  exact h1
 ·refine ⟨hk,hd,List.pairwise_cons.2 ⟨e1,e2⟩,?_,⟨k1,List.mem_cons_of_mem _ m1',m2⟩,hw1,hlo,hdp,hdz,by simp; omega⟩
  intro z hz
  rcases List.mem_cons.1 hz with rfl | hz
  ·exact ⟨a',ha,ha2,ha3,by dsimp only; omega,by dsimp only; omega⟩
  ·exact h.kk z (List.mem_cons_of_mem _ hz)

theorem subO_one {α : Type} {x : α} {xs : List α} : subO (x::xs) 1 (((x::xs).length : Nat) : Int) = some xs := by
 unfold subO
 rw [if_pos ⟨by omega,by simp <;> omega,by omega⟩]
 simp

theorem nets_inner {N : Nat} (hN : 500 ≤ N) {l : List daily_Reading} (hl : RdOk l) {i : Nat} (hi : i < l.length) {T : Int → Int} {C0 B : Int} {ks : List Kk} {d : Nat → Int} (h : NJ l i T C0 0 0 B ks d) :
  ∃ s : List Kk × Int × (Nat → Int),loopO (fun s16 => daily_nets_b16 N (i : Int) (l.getD i rd0) s16.1 s16.2.1 s16.2.2) N (ks,0,d) = some (.go s) ∧ ∃ c B,NJ l i T C0 c s.2.1 B s.1 s.2.2 ∧ (s.2.1 = wt l i ∨ ∀ k ∈ s.1,k.value ≤ vl l i) := by
 have hwi := wt_bd hl hi
 have hn30 : l.length ≤ 30 := hl.n1
 refine loop_to (fun s : List Kk × Int × (Nat → Int) => ∃ c B,NJ l i T C0 c s.2.1 B s.1 s.2.2) (fun s : List Kk × Int × (Nat → Int) => ∃ c B,NJ l i T C0 c s.2.1 B s.1 s.2.2 ∧ (s.2.1 = wt l i ∨ ∀ k ∈ s.1,k.value ≤ vl l i)) (fun s : List Kk × Int × (Nat → Int) => (wt l i).toNat - s.2.1.toNat) ?_ N _ ⟨0,B,h⟩ (by dsimp only; omega)
 rintro ⟨ks,p,d⟩ ⟨c,B,h⟩
 dsimp only at h ⊢
 have hp0 := h.ki.p0
 have hW : (l.getD i rd0).Weight = wt l i := rfl
 have hV : (l.getD i rd0).Value = vl l i := rfl
 unfold daily_nets_b16
 rw [hW,hV]
 by_cases hp : p < wt l i
 ·cases ks with
  | nil => obtain ⟨k1,m1,_⟩ := h.ow; cases m1
  | cons k ks =>
   have g0 : ∀ (z : Kk) (zs : List Kk),getI (z::zs) 0 = some z := fun z zs => by unfold getI; simp
   rw [dT hp,cond_true,g0,Option.bind_some,Option.bind_some]
   by_cases hv : vl l i < k.value
   ·obtain ⟨a,ha,ha2,ha3,ha4,ha5⟩ := h.kk k List.mem_cons_self
    obtain ⟨n,hn⟩ : ∃ n,n = min (wt l i - p) k.weight := ⟨_,rfl⟩
    have hpw : W (wt l i - p) = wt l i - p := W_sm (by omega) (by omega)
    obtain ⟨hai,hz,hnz⟩ := h.push hv (n := n) (by omega) (by omega) (by omega) ha
    have hda := h.up (show a ≤ i by omega)
    have hda2 := h.lo a (by omega)
    have hwa := wt_bd hl (show a < l.length by omega)
    have hdi := h.dp
    have hst := dstep_at (d := d) (a := a) (i := i) (n := n) (by omega) ⟨by omega,by omega⟩ ⟨by omega,by omega⟩ ⟨by omega,by omega⟩
    have hkn : W (k.weight - n) = k.weight - n := W_sm (by omega) (by omega)
    have hpn : W (p + n) = p + n := W_sm (by omega) (by omega)
    have s0 : ∀ z : Kk,(k::ks).set (0 : Int).toNat z = z::ks := fun z => rfl
    have la : ((l.length : Nat) : Int) ≤ 30 := by omega
    have i1 : inR (a : Int) 30 = some () := inRn9 (by omega) (by omega)
    have i2 : inR (i : Int) 30 = some () := inRn9 (by omega) (by omega)
    rw [dT hv,cond_true]
    simp only [Option.bind_some,s0,g0,ha,i1,i2,hpw,← hn,hkn,hpn,Int.toNat_natCast,hst]
    by_cases h0 : k.weight - n = 0
    ·obtain ⟨c',B',hz⟩ := hz h0
     rw [h0]
     refine .inr ⟨(ks,p + n,dstep d a i n),?_,⟨c',B',hz⟩,by dsimp only; omega⟩
     have e1 : ((k::ks).length : Int) = (((⟨k.value,(a : Int),0⟩ : Kk)::ks).length : Nat) := by simp
     show cond ((0 : Int) == 0) _ _ = _
     rw [show ((0 : Int) == 0) = true from rfl,cond_true,e1,subO_one,Option.bind_some]
    ·obtain ⟨c',B',hnz⟩ := hnz h0
     have e1 : (k.weight - n == 0) = false := by simpa using h0
     refine .inr ⟨(⟨k.value,k.reading,k.weight - n⟩::ks,p + n,dstep d a i n),?_,⟨c',B',hnz⟩,by dsimp only; omega⟩
     show cond (k.weight - n == 0) _ _ = _
     rw [e1,cond_false,ha]
   ·rw [dF hv,cond_false]
    exact .inl ⟨_,rfl,c,B,h,.inr fun z hz => Int.le_trans (Desc.head h.de z hz) (by omega)⟩
 ·rw [dF hp,cond_false,Option.bind_some,cond_false]
  exact .inl ⟨_,rfl,c,B,h,.inl (by dsimp only; omega)⟩
end Go.Nilo
namespace Go.Nilo
structure NO (l : List daily_Reading) (i : Nat) (C : Int) (ks : List Kk) (d : Nat → Int) : Prop where
 di : DI (vl l) i d C
 kk : ∀ k ∈ ks,∃ a : Nat,k.reading = (a : Int) ∧ a < i ∧ k.value = vl l a ∧ 1 ≤ k.weight ∧ k.weight ≤ 100
 kq : ∀ j,j < i → kw ks j + d j ≤ wt l j
 lo : ∀ j,j < i → -(wt l j) ≤ d j
 dz : ∀ j,i ≤ j → d j = 0
 ln : ks.length ≤ 2 * i
 pi : PI (vl l) (wt l) (l.map daily_Reading.Value) i ks C

theorem kw_zero {ks : List Kk} {j : Nat} (h : ∀ k ∈ ks,k.reading ≠ (j : Int)) : kw ks j = 0 := by
 induction ks with
 | nil => rfl
 | cons k ks ih =>
  show (if k.reading = (j : Int) then k.weight else 0) + kw ks j = 0
  rw [if_neg (h k List.mem_cons_self),ih fun z hz => h z (List.mem_cons_of_mem _ hz)]
  rfl
theorem kw_one {v p : Int} {i : Nat} (j : Nat) : kw [⟨v,(i : Int),p⟩] j = if j = i then p else 0 := by
 show (if (i : Int) = (j : Int) then p else 0) + 0 = _
 by_cases h : j = i
 ·rw [if_pos (by omega),if_pos h]; omega
 ·rw [if_neg (by omega),if_neg h]; rfl
theorem vl_mem {l : List daily_Reading} {a : Nat} (h : a < l.length) : vl l a ∈ l.map daily_Reading.Value := mem_val.2 ⟨a,h,rfl⟩

theorem NO.start {l : List daily_Reading} (h : RdOk l) {i : Nat} (hi : i < l.length) {C : Int} {ks r : List Kk} {d : Nat → Int} (hO : NO l i C ks d) (hp : r.Perm (ks ++ [⟨vl l i,(i : Int),wt l i⟩])) (hd : Desc r) :
  NJ l i (fun y => kA ks y + wt l i * max (vl l i - y) 0 + wt l i * max (y - vl l i) 0) C 0 0 1000000 r d := by
 have hw := wt_bd h hi
 have hvi := h.v i hi
 have hkk : ∀ k ∈ r,∃ a : Nat,k.reading = (a : Int) ∧ a ≤ i ∧ k.value = vl l a ∧ 1 ≤ k.weight ∧ k.weight ≤ 100 := by
  intro k hk
  rcases List.mem_append.1 (hp.mem_iff.1 hk) with hk | hk
  ·obtain ⟨a,h1,h2,h3⟩ := hO.kk k hk
   exact ⟨a,h1,by omega,h3⟩
  ·simp at hk
   subst hk
   exact ⟨i,rfl,Nat.le_refl _,rfl,hw.1,hw.2⟩
 refine ⟨KI.start hp (by omega) ?_,?_,hd,hkk,⟨_,hp.mem_iff.2 (List.mem_append_right _ List.mem_cons_self),rfl⟩,?_,?_,?_,?_,?_⟩
 ·intro k hk
  obtain ⟨a,_,h2,h3,_⟩ := hkk k hk
  have := (h.v a (by omega)).2
  rw [h3]
  exact this
 ·rw [Int.add_zero]; exact hO.di
 ·intro j hj
  rw [kw_perm hp,kw_app,kw_one]
  by_cases hji : j = i
  ·subst hji
   rw [if_pos rfl,if_pos rfl,hO.dz j (Nat.le_refl _),kw_zero fun k hk => by obtain ⟨a,h1,h2,_⟩ := hO.kk k hk; omega]
   omega
  ·rw [if_neg hji,if_neg hji]
   have := hO.kq j (by omega)
   omega
 ·intro j hj
  by_cases hji : j = i
  ·subst hji
   rw [hO.dz j (Nat.le_refl _)]
   omega
  ·exact hO.lo j (by omega)
 ·rw [hO.dz i (Nat.le_refl _)]; rfl
 ·intro j hj
  exact hO.dz j (by omega)
 ·rw [hp.length_eq,List.length_append]
  have := hO.ln
  simp
  omega

theorem NO.next {l : List daily_Reading} (h : RdOk l) {i : Nat} (hi : i < l.length) {C c p B : Int} {ks ks2 ks3 : List Kk} {d d2 : Nat → Int} (hO : NO l i C ks d)
  (hJ : NJ l i (fun y => kA ks y + wt l i * max (vl l i - y) 0 + wt l i * max (y - vl l i) 0) C c p B ks2 d2) (he : p = wt l i ∨ ∀ k ∈ ks2,k.value ≤ vl l i) (h3 : (p = 0 ∧ ks3 = ks2) ∨ (0 < p ∧ ks3 = ks2 ++ [⟨vl l i,(i : Int),p⟩])) : NO l (i + 1) (C + c) ks3 d2 := by
 have hw := wt_bd h hi
 have hp0 := hJ.ki.p0
 obtain ⟨hd,tl,hks2⟩ : ∃ hd tl,ks2 = hd::tl := by
  cases ks2 with
  | nil => obtain ⟨k1,m1,_⟩ := hJ.ow; cases m1
  | cons hd tl => exact ⟨hd,tl,rfl⟩
 have hhd : hd ∈ ks2 := by rw [hks2]; exact List.mem_cons_self
 have htop : ∀ k ∈ ks2,k.value ≤ hd.value := by
  have := hJ.de
  rw [hks2] at this ⊢
  exact Desc.head this
 obtain ⟨k1,m1,m2⟩ := hJ.ow
 have hvM : vl l i ≤ hd.value := by rw [← m2]; exact htop k1 m1
 obtain ⟨a,ha1,ha2,ha3,_⟩ := hJ.kk hd hhd
 have hstop := hJ.ki.stop he (i : Int) hvM htop (hJ.ki.kB hd hhd) (by
  intro hne
  rcases he with he | he
  ·exact absurd he hne
  ·have := he hd hhd
   omega)
 have hA : ∀ y,kA (ks2 ++ [⟨vl l i,(i : Int),p⟩]) y = kA ks3 y := by
  intro y
  rcases h3 with ⟨h4,rfl⟩ | ⟨h4,rfl⟩
  ·rw [kA_app,kA_cons,kA_nil,h4]
   dsimp only
   rw [Int.zero_mul]
   omega
  ·rfl
 have hW : ∀ j,kw ks3 j = kw ks2 j + (if j = i then p else 0) := by
  intro j
  rcases h3 with ⟨h4,rfl⟩ | ⟨h4,rfl⟩
  ·rw [h4]; split <;> omega
  ·rw [kw_app,kw_one]
 have hmem : ∀ k ∈ ks3,k ∈ ks2 ∨ (0 < p ∧ k = ⟨vl l i,(i : Int),p⟩) := by
  intro k hk
  rcases h3 with ⟨h4,rfl⟩ | ⟨h4,rfl⟩
  ·exact .inl hk
  ·rcases List.mem_append.1 hk with hk | hk
   ·exact .inl hk
   ·simp at hk; exact .inr ⟨h4,hk⟩
 refine ⟨hJ.di.next (hJ.dz _ (by omega)),?_,?_,?_,?_,?_,?_⟩
 ·intro k hk
  rcases hmem k hk with hk | ⟨h4,rfl⟩
  ·obtain ⟨a,b1,b2,b3⟩ := hJ.kk k hk
   exact ⟨a,b1,by omega,b3⟩
  ·exact ⟨i,rfl,by omega,rfl,by dsimp only; omega,by dsimp only; omega⟩
 ·intro j hj
  have := hJ.kq j (by omega)
  rw [hW]
  omega
 ·intro j hj
  exact hJ.lo j (by omega)
 ·intro j hj
  exact hJ.dz j (by omega)
 ·have := hJ.ln
  rcases h3 with ⟨h4,rfl⟩ | ⟨h4,rfl⟩
  ·omega
  ·rw [List.length_append]; simp; omega
 ·refine hO.pi.next (M := hd.value) ?_ ?_ ?_
  ·rw [ha3]; exact vl_mem (by omega)
  ·intro k hk
   rcases hmem k hk with hk | ⟨h4,rfl⟩
   ·exact htop k hk
   ·exact hvM
  ·intro y hy
   have := hstop y hy
   rw [hA] at this
   exact this

theorem NO.zero (l : List daily_Reading) : NO l 0 0 [] (fun _ => 0) := by
 refine ⟨⟨?_,?_,?_⟩,by simp,by omega,by omega,fun _ _ => rfl,by simp,PI.zero _ _ _⟩
 ·show (0 : Int) + 0 * _ = 0
  omega
 ·intro b hb
  rcases Nat.eq_zero_or_pos b with rfl | hb'
  ·exact Int.le_refl _
  ·have : b = 1 := by omega
   subst this
   show 0 ≤ (0 : Int) + 0 * 1
   omega
 ·show (0 : Int) + 0 * 1 = 0
  omega

theorem nets_ok {N : Nat} (hN : 500 ≤ N) {l : List daily_Reading} (h : RdOk l) (h20 : l.length ≤ 20) : ∃ d ks C,daily_nets N l = some d ∧ NO l l.length C ks d := by
 obtain ⟨s,q1,C,q2⟩ : ∃ s,loopO (fun s6 => daily_nets_b6 N l s6.1 s6.2.1 s6.2.2) N (([] : List daily_kink),0,(fun _ => 0)) = some (.go s) ∧ ∃ C,NO l l.length C s.1 s.2.2 := by
  obtain ⟨s,q1,q2⟩ := loopInv (ρ := Nat → Int) (fun s6 : List Kk × Int × (Nat → Int) => daily_nets_b6 N l s6.1 s6.2.1 s6.2.2) (fun i s => s.2.1 = (i : Int) ∧ ∃ C,NO l i C s.1 s.2.2) l.length (fun i s hi hI => by
   obtain ⟨ks,x,d⟩ := s
   obtain ⟨i1,C,i2⟩ := hI
   simp only at i1 i2
   subst i1
   have hln := i2.ln
   obtain ⟨r,r1,r2,r3⟩ := stable_ok hN (l := ks ++ [⟨vl l i,(i : Int),wt l i⟩]) (by rw [List.length_append]; simp; omega)
   obtain ⟨t,t1,c,B,t2,t3⟩ := nets_inner hN h hi (i2.start h hi r2 r3)
   have hp0 := t2.ki.p0
   have hln2 := t2.ln
   have hbody : ∃ ks3,daily_nets_b6 N l ks (i : Int) d = some (.cont (ks3,((i + 1 : Nat) : Int),t.2.2)) ∧ ((t.2.1 = 0 ∧ ks3 = t.1) ∨ (0 < t.2.1 ∧ ks3 = t.1 ++ [⟨vl l i,(i : Int),t.2.1⟩])) := by
    unfold daily_nets_b6
    have hW : (l.getD i rd0).Weight = wt l i := rfl
    have hV : (l.getD i rd0).Value = vl l i := rfl
    rw [dT (by omega),cond_true,getI_d rd0 hi,Option.bind_some,hW,hV,room_ok (by rw [List.length_append]; simp; omega),Option.bind_some,r1,Option.bind_some,t1,Option.bind_some,exK_at]
    by_cases hp : 0 < t.2.1
    ·rw [dT hp,cond_true,room_ok (by rw [List.length_append]; simp; omega),Option.bind_some]
     unfold daily_nets_j10
     rw [W_succ (by omega)]
     exact ⟨_,rfl,.inr ⟨hp,rfl⟩⟩
    ·rw [dF hp,cond_false]
     unfold daily_nets_j10
     rw [W_succ (by omega)]
     exact ⟨_,rfl,.inl ⟨by omega,rfl⟩⟩
   obtain ⟨ks3,b1,b2⟩ := hbody
   exact ⟨_,b1,rfl,_,i2.next h hi t2 t3 b2⟩) (fun s hI => by
   obtain ⟨ks,x,d⟩ := s
   obtain ⟨i1,C,i2⟩ := hI
   simp only at i1
   subst i1
   show daily_nets_b6 N l ks ((l.length : Nat) : Int) d = _
   unfold daily_nets_b6
   rw [ge_dec,cond_false]) l.length 0 (([] : List daily_kink),0,(fun _ => 0)) N (by omega) (by omega) ⟨rfl,0,NO.zero l⟩
  exact ⟨s,q1,q2.2⟩
 refine ⟨s.2.2,s.1,C,?_,q2⟩
 unfold daily_nets
 rw [q1,Option.bind_some,exK_at]
end Go.Nilo
namespace Go.Nilo
def fn1 (f : daily_Fall) (j : Nat) : Int := (if f.A.toNat = j then f.Weight else 0) + (if f.B.toNat = j then -f.Weight else 0)
theorem fN_snoc (f : daily_Fall) (j : Nat) : ∀ l,fN (l ++ [f]) j = fN l j + fn1 f j
 | [] => by
  show fn1 f j + 0 = 0 + fn1 f j
  omega
 | g::l => by
  have ih := fN_snoc f j l
  show fn1 g j + fN (l ++ [f]) j = fn1 g j + fN l j + fn1 f j
  rw [ih]
  omega
theorem dsum_congr {d e v : Nat → Int} : ∀ {n : Nat},(∀ j,j < n → d j = e j) → dsum d v n = dsum e v n
 | 0,_ => rfl
 | n + 1,h => by
  show dsum d v n + d n * v n = dsum e v n + e n * v n
  rw [dsum_congr fun j hj => h j (by omega),h n (by omega)]
theorem fP_one : ∀ l : List daily_Fall,fP (fun _ => 1) l = 0
 | [] => rfl
 | f::l => by
  show f.Weight * (1 - 1) + fP (fun _ => 1) l = 0
  rw [fP_one l,Int.sub_self,Int.mul_zero]
  rfl

structure FO (d : Nat → Int) (b : Nat) (out : List daily_Fall) (lf : Nat → Int) : Prop where
 fl : ∀ f ∈ out,Fl9 b f
 e1 : ∀ j,j < b → fN out j + lf j = d j ∧ 0 ≤ lf j ∧ (d j ≤ 0 → lf j = 0)
 e4 : ∀ j,b ≤ j → lf j = 0
 e8 : ∀ j,j < b → (0 ≤ d j → fU out j = fN out j) ∧ (d j < 0 → fU out j = -fN out j)
 e9 : ∀ j,b ≤ j → fU out j = 0 ∧ fN out j = 0
 ln : out.length ≤ 20 * b
structure FI (d : Nat → Int) (b a : Nat) (out : List daily_Fall) (m : Int) (lf : Nat → Int) : Prop where
 fl : ∀ f ∈ out,Fl9 (b + 1) f
 e1 : ∀ j,j < b → fN out j + lf j = d j ∧ 0 ≤ lf j ∧ (d j ≤ 0 → lf j = 0)
 e2 : fN out b + m = d b
 e5 : d b < 0 → m ≤ 0
 e6 : 0 ≤ d b → m = d b
 e4 : lf b = max (d b) 0
 e3 : ∀ j,b < j → lf j = 0
 e7 : ∀ j,j < a → m < 0 → lf j = 0
 e8 : ∀ j,j ≤ b → (0 ≤ d j → fU out j = fN out j) ∧ (d j < 0 → fU out j = -fN out j)
 e9 : ∀ j,b < j → fU out j = 0 ∧ fN out j = 0
 ln : out.length ≤ 20 * b + a

theorem Fl9.up {n m : Nat} {f : daily_Fall} (h : Fl9 n f) (hm : n ≤ m) : Fl9 m f := ⟨⟨h.o.a,h.o.ab,by have := h.o.b; omega,h.o.w⟩,h.w⟩
theorem FO.start {d : Nat → Int} {b : Nat} {out : List daily_Fall} {lf lf' : Nat → Int} (h : FO d b out lf) (hl : ∀ j,lf' j = if j = b then max (d b) 0 else lf j) : FI d b 0 out (d b) lf' := by
 refine ⟨fun f hf => (h.fl f hf).up (by omega),?_,?_,fun h => by omega,fun _ => rfl,by rw [hl,if_pos rfl],?_,by omega,?_,?_,by have := h.ln; omega⟩
 ·intro j hj
  rw [hl,if_neg (by omega)]
  exact h.e1 j hj
 ·rw [(h.e9 b (Nat.le_refl _)).2]; omega
 ·intro j hj
  rw [hl,if_neg (by omega)]
  exact h.e4 j (by omega)
 ·intro j hj
  by_cases hjb : j = b
  ·subst hjb
   have := h.e9 j (Nat.le_refl _)
   omega
  ·exact h.e8 j (by omega)
 ·intro j hj
  exact h.e9 j (by omega)

theorem FI.skip {d : Nat → Int} {b a : Nat} {out : List daily_Fall} {m : Int} {lf : Nat → Int} (h : FI d b a out m lf) (h0 : lf a = 0) : FI d b (a + 1) out m lf := by
 refine ⟨h.fl,h.e1,h.e2,h.e5,h.e6,h.e4,h.e3,?_,h.e8,h.e9,by have := h.ln; omega⟩
 intro j hj hm
 rcases Nat.lt_or_ge j a with h1 | h1
 ·exact h.e7 j h1 hm
 ·have : j = a := by omega
  rw [this]; exact h0

theorem FI.bd {d : Nat → Int} {b a : Nat} {out : List daily_Fall} {m : Int} {lf : Nat → Int} (h : FI d b a out m lf) : (d b < 0 → d b ≤ m) ∧ ∀ j,j < b → 0 ≤ d j → lf j ≤ d j := by
 refine ⟨fun hd => ?_,fun j hj hd => ?_⟩
 ·have h1 := (h.e8 b (Nat.le_refl _)).2 hd
  have h2 := fU_bd b h.fl
  have h3 := h.e2
  omega
 ·have h1 := (h.e8 j (by omega)).1 hd
  have h2 := fU_bd j h.fl
  have h3 := (h.e1 j hj).1
  omega

theorem FI.pair {d : Nat → Int} {b a : Nat} {out : List daily_Fall} {m : Int} {lf lf' : Nat → Int} (h : FI d b a out m lf) (ha : a < b) (hm : m < 0) (hd : -100 ≤ d b) {n : Int} (hn : n = min (lf a) (-m)) (hn1 : 1 ≤ n) (hl : ∀ j,lf' j = if j = a then lf a - n else lf j) :
  FI d b (a + 1) (out ++ [⟨(a : Int),(b : Int),n⟩]) (m + n) lf' := by
 obtain ⟨a1,a2,a3⟩ := h.e1 a ha
 have hdb : d b < 0 := by
  rcases Int.lt_or_le (d b) 0 with h1 | h1
  ·exact h1
  ·have := h.e6 h1; omega
 have hda : 0 < d a := by
  rcases Int.lt_or_le 0 (d a) with h1 | h1
  ·exact h1
  ·have := a3 h1; omega
 have hmb := h.bd.1 hdb
 have hN : ∀ j,fN (out ++ [⟨(a : Int),(b : Int),n⟩]) j = fN out j + ((if a = j then n else 0) + (if b = j then -n else 0)) := by
  intro j
  rw [fN_snoc]
  unfold fn1
  dsimp only
  rw [Int.toNat_natCast,Int.toNat_natCast]
 have hU : ∀ j,fU (out ++ [⟨(a : Int),(b : Int),n⟩]) j = fU out j + ((if a = j then n else 0) + (if b = j then n else 0)) := by
  intro j
  rw [fU_snoc]
  unfold fu1
  dsimp only
  rw [Int.toNat_natCast,Int.toNat_natCast]
 have hlen := h.ln
 refine ⟨?_,?_,?_,fun _ => by omega,fun _ => by omega,?_,?_,?_,?_,?_,by rw [List.length_append]; simp; omega⟩
 ·intro f hf
  rcases List.mem_append.1 hf with hf | hf
  ·exact h.fl f hf
  ·simp at hf
   subst hf
   exact ⟨⟨by dsimp only; omega,by dsimp only; omega,by dsimp only; omega,hn1⟩,by dsimp only; omega⟩
 ·intro j hj
  obtain ⟨b1,b2,b3⟩ := h.e1 j hj
  rw [hN,hl]
  by_cases hja : j = a
  ·subst hja
   rw [if_pos rfl,if_neg (by omega),if_pos rfl]
   exact ⟨by omega,by omega,by omega⟩
  ·rw [if_neg (fun e : a = j => hja e.symm),if_neg (by omega),if_neg hja]
   exact ⟨by omega,b2,b3⟩
 ·have := h.e2
  rw [hN,if_neg (by omega),if_pos rfl]
  omega
 ·rw [hl,if_neg (by omega)]
  exact h.e4
 ·intro j hj
  rw [hl,if_neg (by omega)]
  exact h.e3 j hj
 ·intro j hj hmn
  rw [hl]
  by_cases hja : j = a
  ·rw [if_pos hja]; omega
  ·rw [if_neg hja]; exact h.e7 j (by omega) hm
 ·intro j hj
  obtain ⟨b1,b2⟩ := h.e8 j hj
  rw [hN,hU]
  by_cases hja : j = a
  ·subst hja
   rw [if_pos rfl,if_neg (by omega),if_neg (by omega)]
   exact ⟨fun hh => by have := b1 hh; omega,fun hh => by omega⟩
  ·rw [if_neg (fun e : a = j => hja e.symm)]
   by_cases hjb : j = b
   ·subst hjb
    rw [if_pos rfl,if_pos rfl]
    exact ⟨fun hh => by omega,fun hh => by have := b2 hh; omega⟩
   ·rw [if_neg (fun e : b = j => hjb e.symm),if_neg (fun e : b = j => hjb e.symm)]
    exact ⟨fun hh => by have := b1 hh; omega,fun hh => by have := b2 hh; omega⟩
 ·intro j hj
  obtain ⟨b1,b2⟩ := h.e9 j hj
  rw [hN,hU,if_neg (by omega),if_neg (by omega),if_neg (by omega),b1,b2]
  exact ⟨rfl,rfl⟩

theorem FI.full {d : Nat → Int} {b : Nat} {out : List daily_Fall} {m : Int} {lf : Nat → Int} (h : FI d b b out m lf) (hp : 0 ≤ dsum d (fun _ => 1) (b + 1)) : 0 ≤ m := by
 rcases Int.lt_or_le m 0 with hm | hm
 ·exfalso
  have h1 : dsum (fN out) (fun _ => 1) (b + 1) = 0 := by rw [fN_sum _ fun f hf => (h.fl f hf).o,fP_one]
  have h2 : dsum d (fun _ => 1) b = dsum (fN out) (fun _ => 1) b := dsum_congr fun j hj => by
   have := h.e7 j hj hm
   have := (h.e1 j hj).1
   omega
  have h3 : dsum (fN out) (fun _ => 1) (b + 1) = dsum (fN out) (fun _ => 1) b + fN out b * 1 := rfl
  have h4 : dsum d (fun _ => 1) (b + 1) = dsum d (fun _ => 1) b + d b * 1 := rfl
  have h5 := h.e2
  omega
 ·exact hm

theorem FI.done {d : Nat → Int} {b a : Nat} {out : List daily_Fall} {m : Int} {lf : Nat → Int} (h : FI d b a out m lf) (hm : 0 ≤ m) (ha : a ≤ b) (hb : b ≤ 19) : FO d (b + 1) out lf := by
 refine ⟨h.fl,?_,fun j hj => h.e3 j (by omega),fun j hj => h.e8 j (by omega),fun j hj => h.e9 j (by omega),by have := h.ln; omega⟩
 intro j hj
 by_cases hjb : j = b
 ·subst hjb
  have h1 := h.e2
  have h2 := h.e4
  rcases Int.lt_or_le (d j) 0 with h3 | h3
  ·have := h.e5 h3
   omega
  ·have := h.e6 h3
   omega
 ·exact h.e1 j (by omega)
end Go.Nilo
namespace Go.Nilo
def lfm (mp : Int → Option Int) (j : Nat) : Int := (mp (j : Int)).getD 0
theorem lfm_set (mp : Int → Option Int) (a : Nat) (v : Int) (j : Nat) : lfm (setM mp (a : Int) v) j = if j = a then v else lfm mp j := by
 unfold lfm setM
 by_cases h : j = a
 ·rw [if_pos (by omega),if_pos h]; rfl
 ·rw [if_neg (by omega),if_neg h]
theorem lfm_del (mp : Int → Option Int) (a : Nat) (v : Int) (hv : v = 0) (j : Nat) : lfm (delM (setM mp (a : Int) v) (a : Int)) j = if j = a then v else lfm mp j := by
 unfold lfm delM setM
 by_cases h : j = a
 ·rw [if_pos (by omega),if_pos h,hv]; rfl
 ·rw [if_neg (by omega),if_neg (by omega),if_neg h]

abbrev Fst := List daily_Fall × Int × (Nat → Int) × (Int → Option Int)
def FJ (d : Nat → Int) (b : Nat) (s : Fst) (a : Nat) : Prop := s.2.1 = (a : Int) ∧ a ≤ b ∧ FI d b a s.1 (s.2.2.1 b) (lfm s.2.2.2) ∧ ∀ j,b < j → s.2.2.1 j = d j

theorem falls_inner {N : Nat} (hN : 100 ≤ N) {d : Nat → Int} {b : Nat} (hb : b ≤ 19) (hd : ∀ j,j ≤ b → -100 ≤ d j ∧ d j ≤ 100) (hp : 0 ≤ dsum d (fun _ => 1) (b + 1)) {s : Fst} (hs : FJ d b s 0) :
  ∃ s',loopO (fun s20 : Fst => daily_Falls_b20 N (b : Int) s20.1 s20.2.1 s20.2.2.1 s20.2.2.2) N s = some (.go s') ∧ ∃ a,FJ d b s' a ∧ 0 ≤ s'.2.2.1 b := by
 refine loop_to (fun s : Fst => ∃ a,FJ d b s a) (fun s : Fst => ∃ a,FJ d b s a ∧ 0 ≤ s.2.2.1 b) (fun s : Fst => b - s.2.1.toNat) ?_ N _ ⟨0,hs⟩ (by show b - s.2.1.toNat < N; omega)
 rintro ⟨out,x,x2,mp⟩ ⟨a,h1,h2,h3,h4⟩
 dsimp only at h1 h2 h3 h4 ⊢
 subst h1
 have i1 : inR (b : Int) 30 = some () := inRn9 (by omega) (by omega)
 unfold daily_Falls_b20
 by_cases hab : a < b
 ·rw [dT (show (a : Int) < (b : Int) by omega),cond_true,i1,Option.bind_some,Option.bind_some,Int.toNat_natCast]
  by_cases hm : x2 b < 0
  ·rw [dT hm,cond_true,Option.bind_some]
   obtain ⟨c1,c2,c3⟩ := h3.e1 a hab
   have hda := hd a (by omega)
   have hdb := hd b (Nat.le_refl _)
   have hdb0 : d b < 0 := by
    rcases Int.lt_or_le (d b) 0 with h | h
    ·exact h
    ·have := h3.e6 h; omega
   have hbd := h3.bd
   have hm2 := hbd.1 hdb0
   have hla : lfm mp a ≤ 100 := by
    rcases Int.lt_or_le 0 (d a) with h | h
    ·have := hbd.2 a hab (by omega); omega
    ·have := c3 h; omega
   have hw : W (0 - x2 b) = -(x2 b) := by rw [W_sm (by omega) (by omega)]; omega
   have hlf : (mp (a : Int)).getD 0 = lfm mp a := rfl
   obtain ⟨n,hn⟩ : ∃ n,n = min (lfm mp a) (-(x2 b)) := ⟨_,rfl⟩
   rw [hw,hlf,← hn]
   by_cases hn0 : n = 0
   ·have e1 : (n == 0) = true := by simpa using hn0
    have hl0 : lfm mp a = 0 := by omega
    rw [e1,cond_true]
    unfold daily_Falls_j23
    rw [W_succ (by omega)]
    exact .inr ⟨_,rfl,⟨a + 1,rfl,by omega,h3.skip hl0,h4⟩,by dsimp only; omega⟩
   ·have e1 : (n == 0) = false := by simpa using hn0
    have hn1 : 1 ≤ n := by omega
    have hln := h3.ln
    rw [e1,cond_false,room_ok (by rw [List.length_append]; simp; omega),Option.bind_some,Option.bind_some,Option.bind_some]
    have hw2 : W (lfm mp a - n) = lfm mp a - n := W_sm (by omega) (by omega)
    have hw3 : W (x2 b + n) = x2 b + n := W_sm (by omega) (by omega)
    have hg : ((setM mp (a : Int) (lfm mp a - n)) (a : Int)).getD 0 = lfm mp a - n := by
     have := lfm_set mp a (lfm mp a - n) a
     rw [if_pos rfl] at this
     exact this
    have hx : ∀ j,b < j → setF x2 b (x2 b + n) j = d j := by
     intro j hj
     rw [setF_ne (by omega)]
     exact h4 j hj
    rw [hw2,hw3,hg]
    unfold daily_Falls_j23
    rw [W_succ (by omega)]
    by_cases hz : lfm mp a - n = 0
    ·have e2 : (lfm mp a - n == 0) = true := by simpa using hz
     rw [e2,cond_true]
     refine .inr ⟨_,rfl,⟨a + 1,rfl,by omega,?_,hx⟩,by dsimp only; omega⟩
     dsimp only
     rw [setF_self]
     exact h3.pair hab hm hdb.1 hn hn1 (lfm_del mp a _ hz)
    ·have e2 : (lfm mp a - n == 0) = false := by simpa using hz
     rw [e2,cond_false]
     refine .inr ⟨_,rfl,⟨a + 1,rfl,by omega,?_,hx⟩,by dsimp only; omega⟩
     dsimp only
     rw [setF_self]
     exact h3.pair hab hm hdb.1 hn hn1 (lfm_set mp a _)
  ·rw [dF hm,cond_false]
   exact .inl ⟨_,rfl,a,⟨rfl,h2,h3,h4⟩,by dsimp only; omega⟩
 ·rw [dF (show ¬ (a : Int) < (b : Int) by omega),cond_false,Option.bind_some,cond_false]
  have : a = b := by omega
  subst this
  exact .inl ⟨_,rfl,a,⟨rfl,h2,h3,h4⟩,h3.full hp⟩

theorem dsum_nn {f : Nat → Int} : ∀ {n : Nat},(∀ j,j < n → 0 ≤ f j) → 0 ≤ dsum f (fun _ => 1) n ∧ (dsum f (fun _ => 1) n = 0 → ∀ j,j < n → f j = 0)
 | 0,_ => ⟨Int.le_refl _,fun _ j hj => by omega⟩
 | n + 1,h => by
  obtain ⟨h1,h2⟩ := dsum_nn (f := f) (n := n) fun j hj => h j (by omega)
  have h3 := h n (by omega)
  have h4 : dsum f (fun _ => 1) (n + 1) = dsum f (fun _ => 1) n + f n * 1 := rfl
  refine ⟨by omega,fun h0 j hj => ?_⟩
  rcases Nat.lt_or_ge j n with h5 | h5
  ·exact h2 (by omega) j h5
  ·have : j = n := by omega
   subst this
   omega

theorem falls_ok {N : Nat} (hN : 500 ≤ N) {l : List daily_Reading} (h : RdOk l) (h20 : l.length ≤ 20) :
  ∃ F d ks C,daily_Falls N l = some (F,0) ∧ NO l l.length C ks d ∧ (∀ f ∈ F,Fl9 l.length f) ∧ F.length ≤ 400 ∧ (∀ j,j < l.length → fU F j ≤ wt l j) ∧ fP (vl l) F = C := by
 obtain ⟨d,ks,C,q1,q2⟩ := nets_ok hN h h20
 have hwk : ∀ k ∈ ks,0 ≤ k.weight := fun k hk => by
  obtain ⟨a,_,_,_,h,_⟩ := q2.kk k hk
  omega
 have hdw : ∀ j,j < l.length → -(wt l j) ≤ d j ∧ d j ≤ wt l j := by
  intro j hj
  have h1 := q2.kq j hj
  have h2 := kw_nonneg hwk j
  exact ⟨q2.lo j hj,by omega⟩
 have hd : ∀ j,j < l.length → -100 ≤ d j ∧ d j ≤ 100 := by
  intro j hj
  have := wt_bd h hj
  have := hdw j hj
  omega
 obtain ⟨s,r1,r2,r3⟩ : ∃ s : Fst,loopO (fun s11 : Fst => daily_Falls_b11 N l s11.1 s11.2.1 s11.2.2.1 s11.2.2.2) N (([] : List daily_Fall),0,d,(fun _ => none : Int → Option Int)) = some (.go s) ∧ s.2.1 = (l.length : Int) ∧ FO d l.length s.1 (lfm s.2.2.2) := by
  have h0 : FO d 0 [] (lfm (fun _ => none)) := ⟨by simp,by omega,fun _ _ => rfl,by omega,fun _ _ => ⟨rfl,rfl⟩,by simp⟩
  obtain ⟨s,r1,r2⟩ := loopInv (ρ := List daily_Fall × Int) (fun s11 : Fst => daily_Falls_b11 N l s11.1 s11.2.1 s11.2.2.1 s11.2.2.2) (fun i s => s.2.1 = (i : Int) ∧ FO d i s.1 (lfm s.2.2.2) ∧ ∀ j,i ≤ j → s.2.2.1 j = d j) l.length (fun i s hi hI => by
   obtain ⟨out,x,x1,mp⟩ := s
   obtain ⟨i1,i2,i3⟩ := hI
   simp only at i1 i2 i3
   subst i1
   have hin : inR (i : Int) 30 = some () := inRn9 (by omega) (by omega)
   have hcase : ∃ mp',daily_Falls_b11 N l out (i : Int) x1 mp = daily_Falls_j17 N out (i : Int) x1 mp' ∧ ∀ j,lfm mp' j = if j = i then max (d i) 0 else lfm mp j := by
    unfold daily_Falls_b11
    rw [dT (by omega),cond_true,hin,Option.bind_some,Int.toNat_natCast,i3 i (Nat.le_refl _)]
    by_cases hpos : 0 < d i
    ·rw [dT hpos,cond_true,Option.bind_some]
     refine ⟨_,rfl,fun j => ?_⟩
     rw [lfm_set]
     split <;> omega
    ·rw [dF hpos,cond_false]
     refine ⟨_,rfl,fun j => ?_⟩
     by_cases hj : j = i
     ·subst hj
      rw [if_pos rfl,i2.e4 j (Nat.le_refl _)]
      omega
     ·rw [if_neg hj]
   obtain ⟨mp',m1,m2⟩ := hcase
   have hFJ : FJ d i (out,0,x1,mp') 0 := ⟨rfl,by omega,by
    dsimp only
    rw [i3 i (Nat.le_refl _)]
    exact i2.start m2,fun j hj => i3 j (by omega)⟩
   obtain ⟨t,t1,a,⟨t2,t3,t4,t5⟩,t6⟩ := falls_inner (N := N) (by omega) (by omega) (fun j hj => hd j (by omega)) (q2.di.p (i + 1) (by omega)) hFJ
   refine ⟨(t.1,((i + 1 : Nat) : Int),t.2.2.1,t.2.2.2),?_,rfl,t4.done t6 t3 (by omega),fun j hj => t5 j (by omega)⟩
   show daily_Falls_b11 N l out (i : Int) x1 mp = _
   rw [m1]
   unfold daily_Falls_j17
   rw [t1,Option.bind_some,exK_at,W_succ (by omega)]) (fun s hI => by
   obtain ⟨out,x,x1,mp⟩ := s
   obtain ⟨i1,i2,i3⟩ := hI
   simp only at i1
   subst i1
   show daily_Falls_b11 N l out ((l.length : Nat) : Int) x1 mp = _
   unfold daily_Falls_b11
   rw [ge_dec,cond_false]) l.length 0 (([] : List daily_Fall),0,d,(fun _ => none : Int → Option Int)) N (by omega) (by omega) ⟨rfl,h0,fun _ _ => rfl⟩
  exact ⟨s,r1,r2.1,r2.2.1⟩
 have hz : dsum d (fun _ => 1) l.length = 0 := by
  have h1 := q2.di.t
  have h2 : dsum d (fun _ => 1) (l.length + 1) = dsum d (fun _ => 1) l.length + d l.length * 1 := rfl
  have h3 := q2.dz l.length (Nat.le_refl _)
  omega
 have hN1 : dsum (fN s.1) (fun _ => 1) l.length = 0 := by rw [fN_sum _ fun f hf => (r3.fl f hf).o,fP_one]
 have hsum : dsum d (fun _ => 1) l.length = dsum (fN s.1) (fun _ => 1) l.length + dsum (lfm s.2.2.2) (fun _ => 1) l.length := by
  rw [← dsum_add]
  exact dsum_congr fun j hj => (r3.e1 j hj).1.symm
 have hl0 := (dsum_nn (f := lfm s.2.2.2) (n := l.length) fun j hj => (r3.e1 j hj).2.1).2 (by omega)
 have hfd : ∀ j,j < l.length → fN s.1 j = d j := fun j hj => by
  have h1 := (r3.e1 j hj).1
  have h2 := hl0 j hj
  omega
 refine ⟨s.1,d,ks,C,?_,q2,r3.fl,by have := r3.ln; omega,?_,?_⟩
 ·unfold daily_Falls
  rw [rcheck_ok (by omega) h,Option.bind_some]
  show cond ((0 : Int) != 0) _ _ = _
  rw [show ((0 : Int) != 0) = false from rfl,cond_false,q1,Option.bind_some,r1,Option.bind_some,exK_at]
 ·intro j hj
  obtain ⟨h1,h2⟩ := r3.e8 j hj
  have h3 := hfd j hj
  have h4 := hdw j hj
  rcases Int.lt_or_le (d j) 0 with h5 | h5
  ·have := h2 h5; omega
  ·have := h1 h5; omega
 ·rw [← fN_sum (vl l) fun f hf => (r3.fl f hf).o,dsum_congr hfd]
  have h1 := q2.di.s
  have h2 : dsum d (vl l) (l.length + 1) = dsum d (vl l) l.length + d l.length * vl l l.length := rfl
  have h3 := q2.dz l.length (Nat.le_refl _)
  rw [h3,Int.zero_mul] at h2
  omega
end Go.Nilo
