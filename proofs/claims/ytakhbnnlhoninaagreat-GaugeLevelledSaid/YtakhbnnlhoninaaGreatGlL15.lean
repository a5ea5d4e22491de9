/-
  What the plain functions compute, in plain arithmetic, part 15. Conditions: what each theorem names.
-/
import Derived.Test.YtakhbnnlhoninaaGreatGlL14
set_option linter.unusedSimpArgs false
set_option linter.unusedVariables false
namespace Go.Nilo
theorem heights_ok {N : Nat} (hN : 60 ≤ N) {R : law03_River} {n : Nat} (hR : ROk R n) (hn : n ≤ 15) (u m : Int) :
  ∃ H,loopO (fun s7 => law03_GaugeLevelled_b7 N (R,u,m) s7.1 s7.2) N (([0] : List Int),0) = some (.go (H,(n : Int))) ∧ H.length = n + 1 ∧ Low H ∧ Bed R H n := by
 have hdl := hR.dl
 have := runS (ρ := Bool) (fun i : Nat => (0::(R.Depth.take i).map (fun d => -d),(i : Int))) n (fun s7 => law03_GaugeLevelled_b7 N (R,u,m) s7.1 s7.2) (fun i hi => by
  have d := hR.d i hi
  show law03_GaugeLevelled_b7 N (R,u,m) (0::(R.Depth.take i).map (fun d => -d)) (i : Int) = _
  unfold law03_GaugeLevelled_b7
  dsimp only
  rw [dT (show (i : Int) < ((R.Depth.length : Nat) : Int) by omega),cond_true,getI_d 0 (show i < R.Depth.length by omega),Option.bind_some,W_sm (n := 0 - R.Depth.getD i 0) (by omega) (by omega),Int.zero_sub,room_ok (by simp; omega),Option.bind_some,W_succ (by omega),List.take_succ_eq_append_getElem (show i < R.Depth.length by omega),List.map_append,gD (show i < R.Depth.length by omega)]
  rfl) (by
  show law03_GaugeLevelled_b7 N (R,u,m) _ (n : Int) = _
  unfold law03_GaugeLevelled_b7
  dsimp only
  rw [dF (show ¬ (n : Int) < ((R.Depth.length : Nat) : Int) by omega),cond_false]) (N := N) (by omega)
 have hl : (0::(R.Depth.take n).map (fun d => -d)).length = n + 1 := by simp; omega
 have hg : ∀ i,i < n → (0::(R.Depth.take n).map (fun d => -d)).getD (i + 1) 0 = -R.Depth.getD i 0 := fun i hi => by
  simp [List.getD,List.getElem?_take,hi,show i < R.Depth.length by omega]
 refine ⟨_,this,hl,fun i => ?_,⟨hR,rfl,hg⟩⟩
 cases i with
 | zero => show -299 ≤ (0 : Int) ∧ (0 : Int) ≤ 0; omega
 | succ i =>
  by_cases hi : i < n
  ·rw [hg i hi]; have := hR.d i hi; omega
  ·rw [gD0 (by omega)]; decide
theorem lines_ok {N : Nat} (hN : 60 ≤ N) {lines : List Int} (hb : Bytes lines) {H : List Int} {n : Nat} (hn : n ≤ 15) (hl : H.length = n + 1) (hH : Low H) :
  ∃ a b ls,loopO (fun s11 => law03_GaugeLevelled_b11 N lines H s11.1 s11.2.1 s11.2.2.1 s11.2.2.2) N (1,0,0,([] : List level_Line)) = some (.go (((n + 1 : Nat) : Int),a,b,ls)) ∧ ls.length = n ∧ RowOf H ls n := by
 obtain ⟨⟨x,a,b,ls⟩,h1,h2,h3,h4,h5⟩ := loopInv (ρ := Bool) (fun s11 : Int × Int × Int × List level_Line => law03_GaugeLevelled_b11 N lines H s11.1 s11.2.1 s11.2.2.1 s11.2.2.2) (fun t s => s.1 = ((t + 1 : Nat) : Int) ∧ s.2.2.2.length = t ∧ SOk s.2.1 s.2.2.1 (2 * t) ∧ ∀ j,j < t → LineOf H (s.2.2.2.getD j ln0) j (j + 1)) n (by
  rintro t ⟨x,a,b,ls⟩ ht ⟨rfl,k1,k2,k3⟩
  dsimp only at k1 k2 k3
  obtain ⟨l,u',m',e1,e2,e3⟩ := levelled_ok (N := N) hb k2 (by omega) hH (a := t) (b := t + 1) (by omega) (by omega) (day := 1) (by omega)
  refine ⟨(((t + 1 + 1 : Nat) : Int),u',m',ls ++ [l]),?_,rfl,by simp [k1],by rw [show 2 * (t + 1) = 2 * t + 2 by omega]; exact e3,fun j hj => ?_⟩
  ·show law03_GaugeLevelled_b11 N lines H ((t + 1 : Nat) : Int) a b ls = _
   unfold law03_GaugeLevelled_b11
   rw [dT (show ((t + 1 : Nat) : Int) < ((H.length : Nat) : Int) by omega),cond_true,W_sm (n := ((t + 1 : Nat) : Int) - 1) (by omega) (by omega),show ((t + 1 : Nat) : Int) - 1 = (t : Int) by omega,e1,Option.bind_some,room_ok (by simp [k1]; omega),Option.bind_some,W_succ (by omega)]
  ·dsimp only
   by_cases hj' : j < t
   ·rw [getD_lt (by omega)]; exact k3 j hj'
   ·obtain rfl : j = ls.length := by omega
    rw [getD_eq,k1]; exact e2) (by
  rintro ⟨x,a,b,ls⟩ ⟨rfl,-⟩
  show law03_GaugeLevelled_b11 N lines H ((n + 1 : Nat) : Int) a b ls = _
  unfold law03_GaugeLevelled_b11
  rw [dF (by omega),cond_false]) n 0 (1,0,0,[]) N (by omega) (by omega) ⟨rfl,rfl,(⟨by omega,by omega,by omega,by omega⟩ : SOk 0 0 (2 * 0)),fun j hj => by omega⟩
 dsimp only at h2 h3 h5
 subst h2
 exact ⟨a,b,ls,h1,h3,by omega,h5⟩
theorem levelled_law {numbers lines more : List Int} (hb : Bytes numbers) (hl : Bytes lines) (hm : Bytes more) : law03_GaugeLevelled 60 numbers lines more = some true := by
 have hN : 60 ≤ 60 := Nat.le_refl _
 obtain ⟨R,n,u,m,e1,hR,n1,n6,s1⟩ := section_spec hN hb (u := 0) (m := 0) (k := 0) ⟨by omega,by omega,by omega,by omega⟩ (by omega) (most := 6) (by omega)
 have n6' : n ≤ 6 := by omega
 obtain ⟨H,e2,hHl,hH,hB⟩ := heights_ok hN hR (by omega) u m
 obtain ⟨a,b,ls,e3,hls,hrow⟩ := lines_ok hN hl (by omega) hHl hH
 have h7 : Ln7 (n + 1) H ls := ⟨by omega,by omega,by omega,fun i hi => ⟨i,i + 1,by omega,by omega,by omega,hrow.2 i (by omega)⟩⟩
 obtain ⟨r5,u5,m5,e5,a5,b5,s5⟩ := next_spec (N := 60) hm (u := 0) (m := 0) (n := ((n + 1 : Nat) : Int)) (k := 0) ⟨by omega,by omega,by omega,by omega⟩ (by omega)
 obtain ⟨r6,u6,m6,e6,a6,b6,s6⟩ := next_spec (N := 60) hm (n := (n : Int)) s5 (by omega)
 have hA : r5 < ((n + 1 : Nat) : Int) := by omega
 obtain ⟨A,rfl⟩ : ∃ A : Nat,r5 = (A : Int) := ⟨r5.toNat,by omega⟩
 have hmod : ((A : Int) + 1 + r6).tmod ((n + 1 : Nat) : Int) = (A + 1 + r6) % ((n + 1 : Nat) : Int) := Int.tmod_eq_emod_of_nonneg (by omega)
 have hB0 : 0 ≤ ((A : Int) + 1 + r6) % ((n + 1 : Nat) : Int) := Int.emod_nonneg _ (by omega)
 have hB1 : ((A : Int) + 1 + r6) % ((n + 1 : Nat) : Int) < ((n + 1 : Nat) : Int) := Int.emod_lt_of_pos _ (by omega)
 have hBne : ((A : Int) + 1 + r6) % ((n + 1 : Nat) : Int) ≠ (A : Int) := by
  have hr6 : r6 < (n : Int) := by omega
  by_cases hc : (A : Int) + 1 + r6 < ((n + 1 : Nat) : Int)
  ·rw [Int.emod_eq_of_lt (by omega) hc]; omega
  ·have : ((A : Int) + 1 + r6) % ((n + 1 : Nat) : Int) = ((A : Int) + 1 + r6) - ((n + 1 : Nat) : Int) := by
    rw [← Int.sub_emod_right,Int.emod_eq_of_lt (by omega) (by omega)]
   rw [this]; omega
 obtain ⟨B,hBe⟩ : ∃ B : Nat,((A : Int) + 1 + r6) % ((n + 1 : Nat) : Int) = (B : Int) := ⟨_,(Int.toNat_of_nonneg hB0).symm⟩
 rw [hBe] at hB0 hB1 hBne
 obtain ⟨x,u7,m7,e7,hx,s7⟩ := levelled_ok (N := 60) hm s6 (by omega) hH (a := A) (b := B) (by omega) (by omega) (day := 2) (by omega)
 have h7' : Ln7 (n + 1) H (ls ++ [x]) := ⟨by omega,by omega,by simp; omega,fun i hi => by
  by_cases hi' : i < ls.length
  ·rw [getD_lt hi']; exact h7.l i hi'
  ·obtain rfl : i = ls.length := by simp at hi; omega
   rw [getD_eq]
   exact ⟨A,B,by omega,by omega,by omega,hx⟩⟩
 have hrow' : RowOf H (ls ++ [x]) n := ⟨by simp; omega,fun j hj => by rw [getD_lt (by omega)]; exact hrow.2 j hj⟩
 obtain ⟨rs,f1,f2,f3,f4⟩ := net_ok hN hB n1 hH h7 rfl hrow
 obtain ⟨rs',g1,g2,g3,g4⟩ := net_ok hN hB n1 hH h7' rfl hrow'
 have hrich := rich_flow hB hH h7 h7' rfl hrow hrow'
 unfold law03_GaugeLevelled
 rw [show kit_New 60 numbers = some (0,0) from rfl,Option.bind_some,show kit_New 60 lines = some (0,0) from rfl,show kit_New 60 more = some (0,0) from rfl]
 show Option.bind (law03_Section 60 (⟨numbers,0,0⟩ : kit_Stream) 6) _ = _
 rw [e1,Option.bind_some,Option.bind_some,e2,Option.bind_some,exK_at]
 dsimp only
 rw [e3,Option.bind_some,exK_at]
 dsimp only
 have ecp : law01_CopyNet 60 (⟨((H.length : Nat) : Int),ls⟩ : level_Net) = some ⟨((H.length : Nat) : Int),ls⟩ := by
  unfold law01_CopyNet kit_Copy_level_Line
  dsimp only
  rw [room_ok (by omega)]
  rfl
 rw [ecp,Option.bind_some,Option.bind_some,hHl,e5,Option.bind_some,W_sm (n := ((n + 1 : Nat) : Int) - 1) (by omega) (by omega),show ((n + 1 : Nat) : Int) - 1 = (n : Int) by omega]
 dsimp only
 rw [e6,Option.bind_some,show nz ((n + 1 : Nat) : Int) = some () by unfold nz; rw [if_neg (by omega)],Option.bind_some]
 dsimp only
 rw [W_sm (n := (A : Int) + 1) (by omega) (by omega),W_sm (n := (A : Int) + 1 + r6) (by omega) (by omega),hmod,hBe,e7,Option.bind_some,room_ok (by simp; omega),Option.bind_some]
 have hstep : ∀ (net : level_Net) (k : Int) (fl : List api_Span) (g : gauge_Gauging) (ru : Int),fl.length ≤ 5 → 0 ≤ k ∧ k < 2 → getI ([(⟨((n + 1 : Nat) : Int),ls⟩ : level_Net),(⟨((n + 1 : Nat) : Int),ls ++ [x]⟩ : level_Net)] : List level_Net) k = some net → loopO (fun s28 => law03_GaugeLevelled_b28 60 (R,u,m) net s28.1 s28.2) 60 (0,([] : List gauge_Vertical)) = some (.go ((n : Int),g.Verticals)) → g.Left = R.Left → g.Right = R.Right → gauge_Flow 60 g = some (flowOf g,0) → gauge_Real 60 g R.Depth R.Speeds = some (ru,0) → (flowOf g).Lo ≤ ru → ru ≤ (flowOf g).Hi → law03_GaugeLevelled_b19 60 (R,u,m) H ls ⟨((n + 1 : Nat) : Int),ls⟩ (x,u7,m7) fl k = some (.cont (fl ++ [flowOf g],k + 1)) := by
  intro net k fl g ru hfl hk hg hlp hL hRt hf hr h1 h2
  unfold law03_GaugeLevelled_b19
  rw [dT hk.2,cond_true,hHl]
  dsimp only
  rw [hg,Option.bind_some,hlp,Option.bind_some,exK_at]
  dsimp only
  have eg : (⟨R.Left,R.Right,g.Verticals⟩ : gauge_Gauging) = g := by rw [← hL,← hRt]
  rw [eg,hf,Option.bind_some,hr,Option.bind_some]
  dsimp only
  rw [bne_self_eq_false,dF (show ¬ ru < (flowOf g).Lo by omega),dF (show ¬ (flowOf g).Hi < ru by omega),Bool.or_self,Bool.or_self,Bool.or_self,cond_false,room_ok (by simp; omega),Option.bind_some,W_sm (n := k + 1) (by omega) (by omega)]
 have v1 := verts_ok hN hB hH h7 rfl hrow u m
 have v2 := verts_ok hN hB hH h7' rfl hrow' u m
 have l19 := loop3 (ρ := Bool) (b := fun s19 : List api_Span × Int => law03_GaugeLevelled_b19 60 (R,u,m) H ls ⟨((n + 1 : Nat) : Int),ls⟩ (x,u7,m7) s19.1 s19.2)
  (s0 := ([],0)) (s1 := ([flowOf (gOf R (Eto ls (n + 1)) (n + 1) n)],1)) (s2 := ([flowOf (gOf R (Eto ls (n + 1)) (n + 1) n),flowOf (gOf R (Eto (ls ++ [x]) (n + 1)) (n + 1) n)],2))
  (hstep _ 0 [] (gOf R (Eto ls (n + 1)) (n + 1) n) rs (by decide) (by omega) rfl v1 rfl rfl f1 f2 f3 f4)
  (hstep _ 1 [flowOf (gOf R (Eto ls (n + 1)) (n + 1) n)] (gOf R (Eto (ls ++ [x]) (n + 1)) (n + 1) n) rs' (by simp) (by omega) rfl v2 rfl rfl g1 g2 g3 g4) (by
   show law03_GaugeLevelled_b19 60 (R,u,m) H ls ⟨((n + 1 : Nat) : Int),ls⟩ (x,u7,m7) _ 2 = _
   unfold law03_GaugeLevelled_b19
   rw [show decide ((2 : Int) < 2) = false from rfl,cond_false]) (N := 60) (by omega)
 rw [l19,Option.bind_some,exK_at]
 show Option.bind (some (flowOf (gOf R (Eto (ls ++ [x]) (n + 1)) (n + 1) n))) _ = _
 rw [Option.bind_some]
 show Option.bind (some (flowOf (gOf R (Eto ls (n + 1)) (n + 1) n))) _ = _
 rw [Option.bind_some,dT hrich.1,cond_true]
 show Option.bind (some (decide ((flowOf (gOf R (Eto (ls ++ [x]) (n + 1)) (n + 1) n)).Hi ≤ (flowOf (gOf R (Eto ls (n + 1)) (n + 1) n)).Hi))) _ = _
 rw [Option.bind_some,dT hrich.2,cond_true,awake_true]
 rfl
end Go.Nilo
