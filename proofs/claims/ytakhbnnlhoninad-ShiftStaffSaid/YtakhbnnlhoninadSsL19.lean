/-
  What the plain functions compute, in plain arithmetic, part 19. Conditions: what each theorem names.
-/
import Derived.Test.YtakhbnnlhoninadSsL18
set_option linter.unusedSimpArgs false
set_option linter.unusedVariables false
namespace Go.Nilo.Lv
def hOf (H : List Int) : Int → Int := fun v => H.getD v.toNat 0
structure LnH (H : List Int) (l : level_Line) (a b : Nat) : Prop where
 f : l.From = (a : Int)
 t : l.To = (b : Int)
 d : 0 ≤ l.Day ∧ l.Day ≤ 40000
 e : 0 ≤ l.Error ∧ l.Error ≤ 8
 r : H.getD b 0 - H.getD a 0 - l.Error ≤ l.Rise ∧ l.Rise ≤ H.getD b 0 - H.getD a 0 + l.Error
def Near (H : List Int) : Prop := ∀ i,-299 ≤ H.getD i 0 ∧ H.getD i 0 ≤ 299
theorem lev_ok {N : Nat} {bytes : List Int} (hb : Bytes bytes) {u m : Int} {k : Nat} (hs : SOk u m k) (hk : k ≤ 100000) {H : List Int} (hH : Near H) {a b : Nat} (ha : a < H.length) (hb' : b < H.length) {day : Int} (hd : 0 ≤ day ∧ day ≤ 40000) :
  ∃ l u' m',law01_Levelled N ⟨bytes,u,m⟩ H (a : Int) (b : Int) day = some (l,u',m') ∧ LnH H l a b ∧ SOk u' m' (k + 2) := by
 obtain ⟨r,u1,m1,e1,a1,b1,s1⟩ := next_spec (N := N) hb (n := 9) hs (by omega)
 obtain ⟨d,u2,m2,e2,a2,b2,s2⟩ := within_spec (N := N) hb (lo := -r) (hi := r) s1 (by omega) (by omega) (by omega) (by omega)
 have h1 := hH a
 have h2 := hH b
 unfold law01_Levelled
 rw [e1,Option.bind_some,getI_d 0 hb',Option.bind_some,getI_d 0 ha,Option.bind_some]
 dsimp only
 rw [W_sm (n := 0 - r) (by omega) (by omega),Int.zero_sub,e2,Option.bind_some,W_sm (n := H.getD b 0 - H.getD a 0) (by omega) (by omega),W_sm (by dsimp only; omega) (by dsimp only; omega)]
 exact ⟨_,_,_,rfl,⟨rfl,rfl,hd,by dsimp only; omega,by dsimp only; omega⟩,s2⟩
structure LnsH (V : Nat) (H : List Int) (ls : List level_Line) : Prop where
 v1 : 1 ≤ V
 v2 : V ≤ 12
 n : ls.length ≤ 30
 l : ∀ i,i < ls.length → ∃ a b,a < V ∧ b < V ∧ a ≠ b ∧ LnH H (ls.getD i ln0) a b
theorem LnsH.net {V : Nat} {H : List Int} {ls : List level_Line} (hH : Near H) (h : LnsH V H ls) : NetOk V ls := by
 have := h.v1
 have := h.v2
 have := h.n
 refine ⟨by omega,by omega,by omega,fun i hi => ?_⟩
 obtain ⟨a,b,h1,h2,h3,⟨f,t,d,e,r⟩⟩ := h.l i hi
 have g1 := hH a
 have g2 := hH b
 exact ⟨by omega,by omega,by omega,d,by omega,by omega⟩
theorem LnsH.tr {V : Nat} {H : List Int} {ls : List level_Line} (hH : Near H) (h : LnsH V H ls) : Tr V ls (hOf H) := by
 refine ⟨fun e he => ?_,fun v => by have := hH v.toNat; unfold hOf; omega⟩
 obtain ⟨i,hi,b,rfl⟩ := (mem_E (h.net hH)).1 he
 obtain ⟨p,q,h1,h2,h3,⟨f,t,d,e,r⟩⟩ := h.l i hi
 cases b
 ·show hOf H (ls.getD i ln0).To - hOf H (ls.getD i ln0).From ≤ (ls.getD i ln0).Error + (ls.getD i ln0).Rise
  unfold hOf
  rw [f,t,Int.toNat_natCast,Int.toNat_natCast]
  omega
 ·show hOf H (ls.getD i ln0).From - hOf H (ls.getD i ln0).To ≤ (ls.getD i ln0).Error - (ls.getD i ln0).Rise
  unfold hOf
  rw [f,t,Int.toNat_natCast,Int.toNat_natCast]
  omega
theorem held {N V : Nat} (hN : 40 ≤ N) {n : level_Net} (hV : n.Marks = (V : Int)) {H : List Int} (hH : Near H) (hn : LnsH V H n.Lines) {i : Nat} (hi : i < n.Lines.length) {a b : Nat} (hl : LnH H (n.Lines.getD i ln0) a b) (ha : a < V) (hb : b < V) :
  ∃ s : api_Span,level_Between N n (a : Int) (b : Int) = some (s,0) ∧ s.Lo ≤ H.getD b 0 - H.getD a 0 ∧ H.getD b 0 - H.getD a 0 ≤ s.Hi := by
 have ht := hn.tr hH
 have hk := hn.net hH
 obtain ⟨f,t,d,e,r⟩ := hl
 have g1 := hH a
 have g2 := hH b
 have hw : Wk (Eto n.Lines V) (a : Int) [(b : Int),(a : Int)] (b : Int) (0 + rsF n.Lines ⟨(i : Int),false⟩) := by
  have hm : lgOf n.Lines ⟨(i : Int),false⟩ ∈ Eto n.Lines V := (mem_E hk).2 ⟨i,hi,false,rfl⟩
  have h2 : (lgOf n.Lines ⟨(i : Int),false⟩).s = (a : Int) := by
   show (n.Lines.getD ((i : Int)).toNat ln0).From = _
   rw [Int.toNat_natCast,f]
  have h3 : (lgOf n.Lines ⟨(i : Int),false⟩).g = (b : Int) := by
   show (n.Lines.getD ((i : Int)).toNat ln0).To = _
   rw [Int.toNat_natCast,t]
  have h4 := Wk.cons (E := Eto n.Lines V) (s := (a : Int)) (e := lgOf n.Lines ⟨(i : Int),false⟩) .nil hm h2
  rw [h3] at h4
  exact h4
 have h1 := D_walk (E_ok hk) ht.p (s := (a : Int)) (by omega) hw
 have hr : rsF n.Lines ⟨(i : Int),false⟩ = (n.Lines.getD i ln0).Error + (n.Lines.getD i ln0).Rise := rfl
 have hf : D (Eto n.Lines V) V (a : Int) (b : Int) < FAR := by rw [far_eq]; omega
 have q1 := D_pot (E := Eto n.Lines V) (V := V) (h := hOf H) ht.p hf
 have ea : hOf H (a : Int) = H.getD a 0 := by unfold hOf; rw [Int.toNat_natCast]
 have eb : hOf H (b : Int) = H.getD b 0 := by unfold hOf; rw [Int.toNat_natCast]
 rw [ea,eb] at q1
 have q2 : H.getD a 0 - H.getD b 0 ≤ D (Eto n.Lines V) V (b : Int) (a : Int) := by
  by_cases hc : D (Eto n.Lines V) V (b : Int) (a : Int) < FAR
  ·have := D_pot (E := Eto n.Lines V) (V := V) (h := hOf H) ht.p hc
   rw [ea,eb] at this
   exact this
  ·rw [far_eq] at hc
   omega
 refine ⟨_,between_ok hN hV hk ht (by omega) (by omega) hf,?_,?_⟩
 ·show -D (Eto n.Lines V) V (b : Int) (a : Int) ≤ _
  omega
 ·exact q1
end Go.Nilo.Lv
