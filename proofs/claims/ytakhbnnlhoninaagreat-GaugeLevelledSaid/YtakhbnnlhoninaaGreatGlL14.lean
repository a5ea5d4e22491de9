/-
  What the plain functions compute, in plain arithmetic, part 14. Conditions: what each theorem names.
-/
import Derived.Test.YtakhbnnlhoninaaGreatGlL13
set_option linter.unusedSimpArgs false
set_option linter.unusedVariables false
namespace Go.Nilo
theorem runS {σ ρ : Type} (st : Nat → σ) (n : Nat) (b : σ → Option (Step σ ρ)) (hb : ∀ (i : Nat),i < n → b (st i) = some (.cont (st (i + 1)))) (hend : b (st n) = some (.brk (st n))) {N : Nat} (hN : n < N) : loopO b N (st 0) = some (.go (st n)) := by
 obtain ⟨s,h1,h2⟩ := loopInv b (fun i s => s = st i) n (fun i s hi e => ⟨_,by rw [e]; exact hb i hi,rfl⟩) (fun s e => by rw [e]; exact hend) n 0 (st 0) N (by omega) hN rfl
 rw [h1,h2]
def hF (H : List Int) : Int → Int := fun v => H.getD v.toNat 0
structure LineOf (H : List Int) (l : level_Line) (a b : Nat) : Prop where
 f : l.From = (a : Int)
 t : l.To = (b : Int)
 d : 0 ≤ l.Day ∧ l.Day ≤ 40000
 e : 0 ≤ l.Error ∧ l.Error ≤ 8
 r : H.getD b 0 - H.getD a 0 - l.Error ≤ l.Rise ∧ l.Rise ≤ H.getD b 0 - H.getD a 0 + l.Error
def Low (H : List Int) : Prop := ∀ i,-299 ≤ H.getD i 0 ∧ H.getD i 0 ≤ 0
theorem levelled_ok {N : Nat} {bytes : List Int} (hb : Bytes bytes) {u m : Int} {k : Nat} (hs : SOk u m k) (hk : k ≤ 100000) {H : List Int} (hH : Low H) {a b : Nat} (ha : a < H.length) (hb' : b < H.length) {day : Int} (hd : 0 ≤ day ∧ day ≤ 40000) :
  ∃ l u' m',law01_Levelled N ⟨bytes,u,m⟩ H (a : Int) (b : Int) day = some (l,u',m') ∧ LineOf H l a b ∧ SOk u' m' (k + 2) := by
 obtain ⟨r,u1,m1,e1,a1,b1,s1⟩ := next_spec (N := N) hb (n := 9) hs (by omega)
 obtain ⟨d,u2,m2,e2,a2,b2,s2⟩ := within_spec (N := N) hb (lo := -r) (hi := r) s1 (by omega) (by omega) (by omega) (by omega)
 have h1 := hH a
 have h2 := hH b
 unfold law01_Levelled
 rw [e1,Option.bind_some,getI_d 0 hb',Option.bind_some,getI_d 0 ha,Option.bind_some]
 dsimp only
 rw [W_sm (n := 0 - r) (by omega) (by omega),Int.zero_sub,e2,Option.bind_some,W_sm (n := H.getD b 0 - H.getD a 0) (by omega) (by omega),W_sm (by dsimp only; omega) (by dsimp only; omega)]
 exact ⟨_,_,_,rfl,⟨rfl,rfl,hd,by dsimp only; omega,by dsimp only; omega⟩,s2⟩
structure Ln7 (V : Nat) (H : List Int) (ls : List level_Line) : Prop where
 v1 : 2 ≤ V
 v2 : V ≤ 7
 n : ls.length ≤ 10
 l : ∀ i,i < ls.length → ∃ a b,a < V ∧ b < V ∧ a ≠ b ∧ LineOf H (ls.getD i ln0) a b
theorem Ln7.net {V : Nat} {H : List Int} {ls : List level_Line} (hH : Low H) (h : Ln7 V H ls) : NetOk V ls := by
 have := h.v1
 have := h.v2
 have := h.n
 refine ⟨by omega,by omega,by omega,fun i hi => ?_⟩
 obtain ⟨a,b,h1,h2,h3,⟨f,t,d,e,r⟩⟩ := h.l i hi
 have g1 := hH a
 have g2 := hH b
 exact ⟨by omega,by omega,by omega,d,by omega,by omega⟩
theorem Ln7.tr {V : Nat} {H : List Int} {ls : List level_Line} (hH : Low H) (h : Ln7 V H ls) : Tr V ls (hF H) := by
 refine ⟨fun e he => ?_,fun v => by have := hH v.toNat; unfold hF; omega⟩
 obtain ⟨i,hi,b,rfl⟩ := (mem_E (h.net hH)).1 he
 obtain ⟨p,q,h1,h2,h3,⟨f,t,d,e,r⟩⟩ := h.l i hi
 cases b
 ·show hF H (ls.getD i ln0).To - hF H (ls.getD i ln0).From ≤ (ls.getD i ln0).Error + (ls.getD i ln0).Rise
  unfold hF
  rw [f,t,Int.toNat_natCast,Int.toNat_natCast]
  omega
 ·show hF H (ls.getD i ln0).From - hF H (ls.getD i ln0).To ≤ (ls.getD i ln0).Error - (ls.getD i ln0).Rise
  unfold hF
  rw [f,t,Int.toNat_natCast,Int.toNat_natCast]
  omega
def RowOf (H : List Int) (ls : List level_Line) (n : Nat) : Prop := n ≤ ls.length ∧ ∀ j,j < n → LineOf H (ls.getD j ln0) j (j + 1)
theorem walk_up {V : Nat} {H : List Int} {ls : List level_Line} (hn : NetOk V ls) {n : Nat} (h : RowOf H ls n) : ∀ j : Nat,j ≤ n → ∃ p L,Wk (Eto ls V) 0 p (j : Int) L ∧ L ≤ H.getD j 0 - H.getD 0 0 + 16 * (j : Int)
 | 0,_ => ⟨[0],0,.nil,by omega⟩
 | j + 1,hj => by
  obtain ⟨p,L,h1,h2⟩ := walk_up hn h j (by omega)
  obtain ⟨f,t,d,e,r⟩ := h.2 j (by omega)
  have hE : lgOf ls ⟨(j : Int),false⟩ ∈ Eto ls V := (mem_E hn).2 ⟨j,by have := h.1; omega,false,rfl⟩
  have hs : (lgOf ls ⟨(j : Int),false⟩).s = (j : Int) := f
  have hg : (lgOf ls ⟨(j : Int),false⟩).g = ((j + 1 : Nat) : Int) := t
  have hc : (lgOf ls ⟨(j : Int),false⟩).c = (ls.getD j ln0).Error + (ls.getD j ln0).Rise := rfl
  have := Wk.cons h1 hE hs
  rw [hg] at this
  exact ⟨_,_,this,by rw [hc]; omega⟩
theorem walk_dn {V : Nat} {H : List Int} {ls : List level_Line} (hn : NetOk V ls) {n : Nat} (h : RowOf H ls n) {j : Nat} (hj : j ≤ n) : ∀ k : Nat,k ≤ j → ∃ p L,Wk (Eto ls V) (j : Int) p ((j - k : Nat) : Int) L ∧ L ≤ H.getD (j - k) 0 - H.getD j 0 + 16 * (k : Int)
 | 0,_ => ⟨[(j : Int)],0,.nil,by simp⟩
 | k + 1,hk => by
  obtain ⟨p,L,h1,h2⟩ := walk_dn hn h hj k (by omega)
  obtain ⟨f,t,d,e,r⟩ := h.2 (j - (k + 1)) (by omega)
  have hE : lgOf ls ⟨((j - (k + 1) : Nat) : Int),true⟩ ∈ Eto ls V := (mem_E hn).2 ⟨j - (k + 1),by have := h.1; omega,true,rfl⟩
  have e1 : j - (k + 1) + 1 = j - k := by omega
  rw [e1] at t r
  have hs : (lgOf ls ⟨((j - (k + 1) : Nat) : Int),true⟩).s = ((j - k : Nat) : Int) := t
  have hg : (lgOf ls ⟨((j - (k + 1) : Nat) : Int),true⟩).g = ((j - (k + 1) : Nat) : Int) := f
  have hc : (lgOf ls ⟨((j - (k + 1) : Nat) : Int),true⟩).c = (ls.getD (j - (k + 1)) ln0).Error - (ls.getD (j - (k + 1)) ln0).Rise := rfl
  have := Wk.cons h1 hE hs
  rw [hg] at this
  exact ⟨_,_,this,by rw [hc]; omega⟩
theorem D_bd {V : Nat} {H : List Int} {ls : List level_Line} (hH : Low H) (h7 : Ln7 V H ls) {n : Nat} (hV : V = n + 1) (hr : RowOf H ls n) {i : Nat} (hi : i < n) :
  (H.getD 0 0 - H.getD (i + 1) 0 ≤ D (Eto ls V) V ((i + 1 : Nat) : Int) 0 ∧ D (Eto ls V) V ((i + 1 : Nat) : Int) 0 ≤ H.getD 0 0 - H.getD (i + 1) 0 + 96) ∧ (H.getD (i + 1) 0 - H.getD 0 0 ≤ D (Eto ls V) V 0 ((i + 1 : Nat) : Int) ∧ D (Eto ls V) V 0 ((i + 1 : Nat) : Int) ≤ H.getD (i + 1) 0 - H.getD 0 0 + 96) := by
 have hn := h7.net hH
 have ht := h7.tr hH
 have hv := h7.v2
 have b0 := hH 0
 have b1 := hH (i + 1)
 obtain ⟨p,L,h1,h2⟩ := walk_up hn hr (i + 1) (by omega)
 obtain ⟨p',L',g1,g2⟩ := walk_dn hn hr (j := i + 1) (by omega) (i + 1) (by omega)
 rw [Nat.sub_self] at g1 g2
 have k1 := D_walk (E_ok hn) ht.p (s := 0) (by omega) h1
 have k2 := D_walk (E_ok hn) ht.p (s := ((i + 1 : Nat) : Int)) (by omega) g1
 have q1 := D_pot (E := Eto ls V) (V := V) (h := hF H) ht.p (s := 0) (v := ((i + 1 : Nat) : Int)) (by rw [far_eq]; omega)
 have q2 := D_pot (E := Eto ls V) (V := V) (h := hF H) ht.p (s := ((i + 1 : Nat) : Int)) (v := 0) (by rw [far_eq]; push_cast at *; omega)
 have e0 : hF H 0 = H.getD 0 0 := rfl
 have e1 : hF H ((i + 1 : Nat) : Int) = H.getD (i + 1) 0 := by unfold hF; rw [Int.toNat_natCast]
 rw [e0,e1] at q1 q2
 push_cast at *
 omega
def vert (R : law03_River) (E : List Lg) (V : Nat) (i : Nat) : gauge_Vertical := ⟨R.At.getD i 0,⟨max 0 (-D E V 0 ((i + 1 : Nat) : Int)),D E V ((i + 1 : Nat) : Int) 0⟩,⟨R.Speeds.getD i 0,R.Speeds.getD i 0⟩⟩
def gOf (R : law03_River) (E : List Lg) (V n : Nat) : gauge_Gauging := ⟨R.Left,R.Right,(List.range n).map (vert R E V)⟩
def flowOf (g : gauge_Gauging) : api_Span := ⟨sumBy (·.Lo) (pans g),sumBy (·.Hi) (pans g)⟩
structure Bed (R : law03_River) (H : List Int) (n : Nat) : Prop where
 r : ROk R n
 h0 : H.getD 0 0 = 0
 h : ∀ i,i < n → H.getD (i + 1) 0 = -R.Depth.getD i 0
theorem g_ok {R : law03_River} {H : List Int} {n V : Nat} (hR : Bed R H n) (h1 : 1 ≤ n) (hH : Low H) {ls : List level_Line} (h7 : Ln7 V H ls) (hV : V = n + 1) (hr : RowOf H ls n) : GOk (gOf R (Eto ls V) V n) ∧ TrueOf (gOf R (Eto ls V) V n) R.Depth R.Speeds := by
 have hv := h7.v2
 have hlen : (gOf R (Eto ls V) V n).Verticals.length = n := by simp [gOf]
 have hget : ∀ i (hi : i < (gOf R (Eto ls V) V n).Verticals.length),(gOf R (Eto ls V) V n).Verticals[i] = vert R (Eto ls V) V i := fun i hi => by simp [gOf]
 have hd : ∀ i,i < n → (0 ≤ R.Depth.getD i 0 ∧ R.Depth.getD i 0 ≤ 299) ∧ In (R.Depth.getD i 0) (vert R (Eto ls V) V i).Depth ∧ (vert R (Eto ls V) V i).Depth.Hi ≤ 395 ∧ 0 ≤ (vert R (Eto ls V) V i).Depth.Lo := fun i hi => by
  have b := D_bd hH h7 hV hr hi
  have d := hR.r.d i hi
  rw [hR.h0,hR.h i hi] at b
  unfold In vert
  dsimp only
  omega
 refine ⟨⟨hR.r.l0,hR.r.r1,by omega,by omega,fun v hv' => ?_,fun i hi => ?_⟩,⟨by rw [hlen]; exact hR.r.dl,by rw [hlen]; exact hR.r.sl,fun i hi => ?_,fun i hi => ?_⟩⟩
 ·obtain ⟨i,hi,rfl⟩ := List.getElem_of_mem hv'
  rw [hget i hi]
  have hi' : i < n := by omega
  obtain ⟨d1,d2,d3,d4⟩ := hd i hi'
  have a := hR.r.a i hi'
  have s := hR.r.s i hi'
  unfold In at d2
  refine ⟨a.1,a.2,⟨by omega,by omega,by omega⟩,d4,⟨Int.le_refl _,?_,?_⟩⟩
  ·show (R.Speeds.getD i 0).natAbs ≤ 5000; omega
  ·show (R.Speeds.getD i 0).natAbs ≤ 5000; omega
 ·rw [hget,hget]
  exact hR.r.up i (by omega)
 ·rw [hget i hi]; exact (hd i (by omega)).2.1
 ·rw [hget i hi]; exact ⟨Int.le_refl _,Int.le_refl _⟩
theorem verts_ok {N : Nat} (hN : 60 ≤ N) {R : law03_River} {H : List Int} {n V : Nat} (hR : Bed R H n) (hH : Low H) {ls : List level_Line} (h7 : Ln7 V H ls) (hV : V = n + 1) (hr : RowOf H ls n) (u m : Int) :
  loopO (fun s28 => law03_GaugeLevelled_b28 N (R,u,m) ⟨(V : Int),ls⟩ s28.1 s28.2) N (0,([] : List gauge_Vertical)) = some (.go ((n : Int),(List.range n).map (vert R (Eto ls V) V))) := by
 have hv := h7.v2
 have hal := hR.r.al
 have hsl := hR.r.sl
 have := runS (ρ := Step ((List api_Span) × Int) Bool) (fun i : Nat => ((i : Int),(List.range i).map (vert R (Eto ls V) V))) n (fun s28 => law03_GaugeLevelled_b28 N (R,u,m) ⟨(V : Int),ls⟩ s28.1 s28.2) (fun i hi => by
  have b := D_bd hH h7 hV hr hi
  have d := hR.r.d i hi
  rw [hR.h0,hR.h i hi] at b
  show law03_GaugeLevelled_b28 N (R,u,m) ⟨(V : Int),ls⟩ (i : Int) ((List.range i).map (vert R (Eto ls V) V)) = _
  unfold law03_GaugeLevelled_b28 law03_span
  dsimp only
  rw [dT (show (i : Int) < ((R.At.length : Nat) : Int) by omega),cond_true,getI_d 0 (show i < R.At.length by omega),Option.bind_some,W_succ (by omega),between_ok (V := V) (by omega) (n := ⟨(V : Int),ls⟩) rfl (h7.net hH) (h7.tr hH) (a := ((i + 1 : Nat) : Int)) (b := 0) (by omega) (by omega) (by rw [far_eq]; dsimp only; omega),Option.bind_some]
  dsimp only
  rw [bne_self_eq_false,dF (show ¬ D (Eto ls V) V ((i + 1 : Nat) : Int) 0 < -D (Eto ls V) V 0 ((i + 1 : Nat) : Int) by omega),Bool.or_self,cond_false,Option.bind_some,getI_d 0 (show i < R.Speeds.length by omega),Option.bind_some,Option.bind_some,Option.bind_some,room_ok (by simp; omega),Option.bind_some,List.range_succ,List.map_append]
  rfl) (by
  show law03_GaugeLevelled_b28 N (R,u,m) ⟨(V : Int),ls⟩ (n : Int) _ = _
  unfold law03_GaugeLevelled_b28
  dsimp only
  rw [dF (show ¬ (n : Int) < ((R.At.length : Nat) : Int) by omega),cond_false]) (N := N) (by omega)
 exact this
theorem net_ok {N : Nat} (hN : 60 ≤ N) {R : law03_River} {H : List Int} {n V : Nat} (hR : Bed R H n) (h1 : 1 ≤ n) (hH : Low H) {ls : List level_Line} (h7 : Ln7 V H ls) (hV : V = n + 1) (hr : RowOf H ls n) :
  ∃ rs,gauge_Flow N (gOf R (Eto ls V) V n) = some (flowOf (gOf R (Eto ls V) V n),0) ∧ gauge_Real N (gOf R (Eto ls V) V n) R.Depth R.Speeds = some (rs,0) ∧ (flowOf (gOf R (Eto ls V) V n)).Lo ≤ rs ∧ rs ≤ (flowOf (gOf R (Eto ls V) V n)).Hi := by
 obtain ⟨hg,ht⟩ := g_ok hR h1 hH h7 hV hr
 exact ⟨_,flow_spec (by omega) hg,real_spec (by omega) hg ht,(real_in_flow ht).1,(real_in_flow ht).2⟩
theorem E_more {V : Nat} {ls : List level_Line} {x : level_Line} (h1 : NetOk V ls) (h2 : NetOk V (ls ++ [x])) : ∀ e ∈ Eto ls V,e ∈ Eto (ls ++ [x]) V := fun e he => by
 obtain ⟨i,hi,b,rfl⟩ := (mem_E h1).1 he
 refine (mem_E h2).2 ⟨i,by rw [List.length_append]; omega,b,?_⟩
 have : lnA (ls ++ [x]) ⟨(i : Int),b⟩ = lnA ls ⟨(i : Int),b⟩ := by
  unfold lnA
  dsimp only
  rw [Int.toNat_natCast,getD_lt hi]
 unfold lgOf stF glF rsF
 rw [this]
theorem rich_flow {R : law03_River} {H : List Int} {n V : Nat} (hR : Bed R H n) (hH : Low H) {ls : List level_Line} {x : level_Line} (h7 : Ln7 V H ls) (h7' : Ln7 V H (ls ++ [x])) (hV : V = n + 1) (hr : RowOf H ls n) (hr' : RowOf H (ls ++ [x]) n) :
  (flowOf (gOf R (Eto ls V) V n)).Lo ≤ (flowOf (gOf R (Eto (ls ++ [x]) V) V n)).Lo ∧ (flowOf (gOf R (Eto (ls ++ [x]) V) V n)).Hi ≤ (flowOf (gOf R (Eto ls V) V n)).Hi := by
 have hI : FInv (gOf R (Eto ls V) V n).Verticals ((List.range n).map (vert R (Eto (ls ++ [x]) V) V)) := by
  refine ⟨by simp [gOf],fun j hj => ?_⟩
  have hj' : j < n := by simpa [gOf] using hj
  have e1 : (gOf R (Eto ls V) V n).Verticals.getD j v0 = vert R (Eto ls V) V j := by simp [gOf,List.getD,hj']
  have e2 : ((List.range n).map (vert R (Eto (ls ++ [x]) V) V)).getD j v0 = vert R (Eto (ls ++ [x]) V) V j := by simp [List.getD,hj']
  rw [e1,e2]
  have b := D_bd hH h7' hV hr' hj'
  have d := hR.r.d j hj'
  rw [hR.h0,hR.h j hj'] at b
  have m1 := D_more (E_ok (h7'.net hH)) (h7'.tr hH).p (E_more (h7.net hH) (h7'.net hH)) (s := 0) (by omega) ((j + 1 : Nat) : Int)
  have m2 := D_more (E_ok (h7'.net hH)) (h7'.tr hH).p (E_more (h7.net hH) (h7'.net hH)) (s := ((j + 1 : Nat) : Int)) (by omega) 0
  refine ⟨rfl,⟨?_,?_,?_⟩,Sub.refl (Int.le_refl _)⟩
  ·unfold vert; dsimp only; omega
  ·unfold vert; dsimp only; omega
  ·exact m2
 exact flow_sub (g := gOf R (Eto ls V) V n) hI
end Go.Nilo
