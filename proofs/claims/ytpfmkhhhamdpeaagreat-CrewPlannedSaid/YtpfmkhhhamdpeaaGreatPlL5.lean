/-
  What the plain functions compute, in plain arithmetic, part 5. Conditions: what each theorem names.
-/
import Derived.Test.YtpfmkhhhamdpeaaGreatPlL4
set_option linter.unusedSimpArgs false
set_option linter.unusedVariables false
namespace Go.Nilo
structure TOk (i : Nat) (k : Nat) (s : List crew_Visit × Int × Int × Int × Int) : Prop where
 len : s.1.length = i
 el : ∀ v ∈ s.1,VOk v
 a0 : 0 ≤ s.2.1
 a1 : s.2.1 ≤ 160 * (i : Int)
 x : s.2.2.1 = (i : Int)
 so : SOk s.2.2.2.1 s.2.2.2.2 (k + 6 * i)
theorem toured_spec {N : Nat} (hN : 30 ≤ N) {numbers : List Int} (hb : Bytes numbers) {u m : Int} {k : Nat} (hk : k ≤ 1000) (hs : SOk u m k) {most : Int} (h1 : 1 ≤ most) (h2 : most ≤ 20) :
  ∃ l u' m' k',law11_Toured N ⟨numbers,u,m⟩ most = some (l,u',m') ∧ SOk u' m' k' ∧ k' ≤ k + 200 ∧ (∀ v ∈ l,VOk v) ∧ 1 ≤ l.length ∧ (l.length : Int) ≤ most := by
 unfold law11_Toured
 obtain ⟨n,u4,m4,d1,d2,d3,s4⟩ := within_spec (N := N) hb (lo := 1) (hi := most) hs (by omega) (by omega) (by omega) h1
 simp only [d1,Option.bind_some]
 obtain ⟨q,rfl⟩ := Int.eq_ofNat_of_zero_le (show 0 ≤ n by omega)
 obtain ⟨s,hs,hI⟩ := loopInv (ρ := List crew_Visit × Int × Int) (fun s6 => law11_Toured_b6 N ⟨numbers,u,m⟩ ((q : Int),u4,m4) s6.1 s6.2.1 s6.2.2.1 s6.2.2.2.1 s6.2.2.2.2) (fun i s => TOk i (k + 1) s) q (fun i s hi h => by
  obtain ⟨out,at_,x,b0,b1⟩ := s
  obtain ⟨e1,e2,e3,e4,e5,e6⟩ := h
  dsimp only at e1 e2 e3 e4 e5 e6 ⊢
  subst e5
  unfold law11_Toured_b6
  have hdec : decide (((i : Nat) : Int) < (q : Int)) = true := by simp; omega
  obtain ⟨r1,v1,w1,f1,g1,p1,t1⟩ := next_spec (N := N) hb (n := 60) e6 (by omega)
  obtain ⟨r2,v2,w2,f2,g2,p2,t2⟩ := next_spec (N := N) hb (n := 20) t1 (by omega)
  obtain ⟨r3,v3,w3,f3,g3,p3,t3⟩ := next_spec (N := N) hb (n := 40) t2 (by omega)
  obtain ⟨r4,v4,w4,f4,g4,p4,t4⟩ := next_spec (N := N) hb (n := 20) t3 (by omega)
  obtain ⟨r5,v5,w5,f5,g5,p5,t5⟩ := within_spec (N := N) hb (lo := -40) (hi := 20) t4 (by omega) (by omega) (by omega) (by omega)
  obtain ⟨r6,v6,w6,f6,g6,p6,t6⟩ := within_spec (N := N) hb (lo := 20) (hi := 120) t5 (by omega) (by omega) (by omega) (by omega)
  simp only [hdec,cond_true,f1,f2,f3,f4,f5,f6,Option.bind_some]
  have x1 : W (r1 + r2) = r1 + r2 := W_id (by omega) (by omega)
  have x2 : W (r3 + r4) = r3 + r4 := W_id (by omega) (by omega)
  have x3 : W (at_ + (r1 + r2)) = at_ + (r1 + r2) := W_id (by omega) (by omega)
  have x4 : W (at_ + (r1 + r2) + r5) = at_ + (r1 + r2) + r5 := W_id (by omega) (by omega)
  have x5 : W (max 0 (at_ + (r1 + r2) + r5) + r6) = max 0 (at_ + (r1 + r2) + r5) + r6 := W_id (by omega) (by omega)
  have x6 : W (max (at_ + (r1 + r2)) (max 0 (at_ + (r1 + r2) + r5)) + (r3 + r4)) = max (at_ + (r1 + r2)) (max 0 (at_ + (r1 + r2) + r5)) + (r3 + r4) := W_id (by omega) (by omega)
  simp only [x1,x2,x3,x4,x5,x6]
  rw [room_ok (by simp; omega),Option.bind_some]
  refine ⟨_,rfl,⟨by simp [e1],?_,by dsimp only; omega,by dsimp only; push_cast; omega,by dsimp only; rw [W_id (by omega) (by omega)]; push_cast; rfl,?_⟩⟩
  ·intro v hv
   rcases List.mem_append.1 hv with hv | hv
   ·exact e2 v hv
   ·rw [List.mem_singleton.1 hv]
    exact ⟨g1,by dsimp only; omega,by dsimp only; omega,g3,by dsimp only; omega,by dsimp only; omega,by dsimp only; omega,by dsimp only; omega,by dsimp only; omega⟩
  ·dsimp only
   have : k + 1 + 6 * (i + 1) = k + 1 + 6 * i + 1 + 1 + 1 + 1 + 1 + 1 := by omega
   rw [this]; exact t6) (fun s h => by
  obtain ⟨out,at_,x,b0,b1⟩ := s
  obtain ⟨e1,e2,e3,e4,e5,e6⟩ := h
  dsimp only at e5 ⊢
  subst e5
  unfold law11_Toured_b6
  rw [ge_dec,cond_false]) q 0 (([] : List crew_Visit),0,0,u4,m4) N (by omega) (by omega) ⟨rfl,fun v hv => by simp at hv,by dsimp only; omega,by dsimp only; omega,rfl,by simpa using s4⟩
 obtain ⟨out,at_,x,b0,b1⟩ := s
 obtain ⟨e1,e2,e3,e4,e5,e6⟩ := hI
 dsimp only at e1 e2 e6
 refine ⟨out,b0,b1,k + 1 + 6 * q,?_,e6,by omega,e2,by omega,by omega⟩
 rw [hs]
 rfl
end Go.Nilo
