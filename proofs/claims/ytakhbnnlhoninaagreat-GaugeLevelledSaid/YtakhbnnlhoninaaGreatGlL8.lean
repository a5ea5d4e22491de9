/-
  What the plain functions compute, in plain arithmetic, part 8. Conditions: what each theorem names.
-/
import Derived.Test.YtakhbnnlhoninaaGreatGlL7
set_option linter.unusedSimpArgs false
set_option linter.unusedVariables false
namespace Go.Nilo
theorem real_spec {N : Nat} (hN : 40 ≤ N) {g : gauge_Gauging} (h : GOk g) {ds ss : List Int} (ht : TrueOf g ds ss) : gauge_Real N g ds ss = some (realSum g ds ss g.Verticals.length,0) := by
 have hn' := h.n'
 obtain ⟨s',h1,h2,-⟩ := widths_inv hN h (rY (fun (zz : Int × Int × Int) (x : (gauge_Vertical × Int)) => gauge_Real_r11 N ds ss zz.1 zz.2.1 zz.2.2 x.1 x.2)) (fun i s => s = .go (0,realSum g ds ss i,(i : Int)) ∧ (realSum g ds ss i).natAbs ≤ i * 100000000000)
  (by
   rintro i s hi ⟨rfl,hb⟩
   have hv := h.v g.Verticals[i] (List.getElem_mem _)
   have hw := wd_bd h hi
   have hd := ht.d i hi
   have hs := ht.s i hi
   have e1 : getI ds (i : Int) = some (ds.getD i 0) := getI_getD (by rw [ht.dl]; exact hi)
   have e2 : getI ss (i : Int) = some (ss.getD i 0) := getI_getD (by rw [ht.sl]; exact hi)
   have hv1 := hv.d.lo
   have hv2 := hv.d.hi
   have hv3 := hv.s.lo
   have hv4 := hv.s.hi
   have c1 := absmul (x := wd g i) (y := ds.getD i 0) (A := 10000) (B := 2000) (by omega) (by unfold In at hd; omega)
   have c2 := absmul (x := wd g i * ds.getD i 0) (y := ss.getD i 0) (A := 10000 * 2000) (B := 5000) c1 (by unfold In at hs; omega)
   have hsum : realSum g ds ss (i + 1) = realSum g ds ss i + wd g i * ds.getD i 0 * ss.getD i 0 := by unfold realSum; rw [List.range_succ,sumBy_snoc]; rfl
   refine ⟨.go (0,realSum g ds ss (i + 1),((i + 1 : Nat) : Int)),?_,rfl,by rw [hsum]; omega⟩
   have i1 : gauge_in (ds.getD i 0) g.Verticals[i].Depth.Lo g.Verticals[i].Depth.Hi = true := by unfold gauge_in; unfold In at hd; simp only [Bool.and_eq_true,decide_eq_true_eq]; omega
   have i2 : gauge_in (ss.getD i 0) g.Verticals[i].Speed.Lo g.Verticals[i].Speed.Hi = true := by unfold gauge_in; unfold In at hs; simp only [Bool.and_eq_true,decide_eq_true_eq]; omega
   unfold rY gauge_Real_r11
   simp only [e1,e2,i1,i2,Option.bind_some,Bool.not_true,Bool.not_false,cond_true,cond_false,Bool.or_false]
   rw [W_id (n := wd g i * ds.getD i 0) (by omega) (by omega),W_id (n := wd g i * ds.getD i 0 * ss.getD i 0) (by omega) (by omega),W_id (n := realSum g ds ss i + wd g i * ds.getD i 0 * ss.getD i 0) (by omega) (by omega),W_succ (by omega),hsum]
   rfl)
  (.go (0,0,0)) ⟨rfl,by simp [realSum,sumBy]⟩
 unfold gauge_Real gauge_Gauging_widths
 rw [check_ok hN h,ht.dl,ht.sl]
 have hg : (⟨g.Left,g.Right,g.Verticals⟩ : gauge_Gauging) = g := rfl
 simp only [Option.bind_some,bne_self_eq_false,cond_false,hg,Bool.or_false]
 rw [h1,h2]
 rfl

end Go.Nilo
