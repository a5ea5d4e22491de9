/-
  What the plain functions compute, in plain arithmetic, part 6. Conditions: what each theorem names.
-/
import Derived.Test.YtakhbnnlhoninaaGreatGlL5
set_option linter.unusedSimpArgs false
set_option linter.unusedVariables false
namespace Go.Nilo
def pan (v : gauge_Vertical) (w : Int) : api_Span := ⟨mn ⟨mn ⟨w,w⟩ v.Depth,mx ⟨w,w⟩ v.Depth⟩ v.Speed,mx ⟨mn ⟨w,w⟩ v.Depth,mx ⟨w,w⟩ v.Depth⟩ v.Speed⟩
theorem pan_bd {l r w : Int} {v : gauge_Vertical} (h : VOk l r v) (hw : 0 ≤ w ∧ w ≤ 10000) : Spn ⟨mn ⟨w,w⟩ v.Depth,mx ⟨w,w⟩ v.Depth⟩ 20000000 ∧ Spn (pan v w) 100000000000 := by
 have h1 := mn_le (a := ⟨w,w⟩) (A := 10000) ⟨Int.le_refl _,by dsimp only; omega,by dsimp only; omega⟩ h.d
 have s1 : Spn ⟨mn ⟨w,w⟩ v.Depth,mx ⟨w,w⟩ v.Depth⟩ 20000000 := ⟨h1.2.2,h1.1,h1.2.1⟩
 have h2 := mn_le s1 h.s
 exact ⟨s1,⟨h2.2.2,h2.1,h2.2.1⟩⟩
theorem in_pan {v : gauge_Vertical} {w d s : Int} (h1 : In d v.Depth) (h2 : In s v.Speed) : In (w * d * s) (pan v w) := by
 have a := in_times (x := w) (y := d) (a := ⟨w,w⟩) ⟨Int.le_refl _,Int.le_refl _⟩ h1
 exact in_times (a := ⟨mn ⟨w,w⟩ v.Depth,mx ⟨w,w⟩ v.Depth⟩) a h2

theorem times3 {N : Nat} (hN : 4 ≤ N) {w : Int} {l r : Int} {v : gauge_Vertical} (h : VOk l r v) (hw : 0 ≤ w ∧ w ≤ 10000) : gauge_times N ([⟨w,w⟩,v.Depth,v.Speed] : List api_Span) = some (pan v w) := by
 obtain ⟨M,rfl⟩ : ∃ M,N = M + 4 := ⟨N - 4,by omega⟩
 obtain ⟨b1,b2⟩ := pan_bd h hw
 have e1 : W w = w := W_id (by omega) (by omega)
 have m1 : min (min (min w w) w) w = w := by omega
 have m2 : max (max (max w w) w) w = w := by omega
 have c1 := absmul (x := w) (y := v.Depth.Lo) (A := 10000) (by omega) h.d.lo
 have c2 := absmul (x := w) (y := v.Depth.Hi) (A := 10000) (by omega) h.d.hi
 have p1 : W (w * v.Depth.Lo) = w * v.Depth.Lo := W_id (by omega) (by omega)
 have p2 : W (w * v.Depth.Hi) = w * v.Depth.Hi := W_id (by omega) (by omega)
 generalize ha : (⟨mn ⟨w,w⟩ v.Depth,mx ⟨w,w⟩ v.Depth⟩ : api_Span) = a at *
 have d1 := absmul b1.lo h.s.lo
 have d2 := absmul b1.lo h.s.hi
 have d3 := absmul b1.hi h.s.lo
 have d4 := absmul b1.hi h.s.hi
 have q1 : W (a.Lo * v.Speed.Lo) = a.Lo * v.Speed.Lo := W_id (by omega) (by omega)
 have q2 : W (a.Lo * v.Speed.Hi) = a.Lo * v.Speed.Hi := W_id (by omega) (by omega)
 have q3 : W (a.Hi * v.Speed.Lo) = a.Hi * v.Speed.Lo := W_id (by omega) (by omega)
 have q4 : W (a.Hi * v.Speed.Hi) = a.Hi * v.Speed.Hi := W_id (by omega) (by omega)
 have t0 : gauge_times_b5 (M + 4) [⟨w,w⟩,v.Depth,v.Speed] 0 1 1 = some (.cont (1,w,w)) := by
  unfold gauge_times_b5
  rw [show getI [(⟨w,w⟩ : api_Span),v.Depth,v.Speed] 0 = some ⟨w,w⟩ from rfl,show decide ((0 : Int) < (([(⟨w,w⟩ : api_Span),v.Depth,v.Speed].length : Nat) : Int)) = true from rfl]
  simp only [cond_true,Option.bind_some,Int.one_mul,e1,m1,m2]
  rfl
 have t1 : gauge_times_b5 (M + 4) [⟨w,w⟩,v.Depth,v.Speed] 1 w w = some (.cont (2,a.Lo,a.Hi)) := by
  unfold gauge_times_b5
  rw [show getI [(⟨w,w⟩ : api_Span),v.Depth,v.Speed] 1 = some v.Depth from rfl,show decide ((1 : Int) < (([(⟨w,w⟩ : api_Span),v.Depth,v.Speed].length : Nat) : Int)) = true from rfl]
  simp only [cond_true,Option.bind_some,p1,p2]
  rw [← ha]
  rfl
 have t2 : gauge_times_b5 (M + 4) [⟨w,w⟩,v.Depth,v.Speed] 2 a.Lo a.Hi = some (.cont (3,(pan v w).Lo,(pan v w).Hi)) := by
  unfold gauge_times_b5
  rw [show getI [(⟨w,w⟩ : api_Span),v.Depth,v.Speed] 2 = some v.Speed from rfl,show decide ((2 : Int) < (([(⟨w,w⟩ : api_Span),v.Depth,v.Speed].length : Nat) : Int)) = true from rfl]
  simp only [cond_true,Option.bind_some,q1,q2,q3,q4]
  unfold pan
  rw [ha]
  rfl
 have t3 : gauge_times_b5 (M + 4) [⟨w,w⟩,v.Depth,v.Speed] 3 (pan v w).Lo (pan v w).Hi = some (.brk (3,(pan v w).Lo,(pan v w).Hi)) := by
  unfold gauge_times_b5
  rw [show decide ((3 : Int) < (([(⟨w,w⟩ : api_Span),v.Depth,v.Speed].length : Nat) : Int)) = false from rfl]
  rfl
 unfold gauge_times
 have hl : loopO (fun s5 => gauge_times_b5 (M + 4) [⟨w,w⟩,v.Depth,v.Speed] s5.1 s5.2.1 s5.2.2) (M + 4) (0,1,1) = some (.go (3,(pan v w).Lo,(pan v w).Hi)) := by
  rw [loopO]; simp only [t0]
  rw [loopO]; simp only [t1]
  rw [loopO]; simp only [t2]
  rw [loopO]; simp only [t3]
 rw [hl]
 rfl

def v0 : gauge_Vertical := ⟨0,⟨0,0⟩,⟨0,0⟩⟩
def panI (g : gauge_Gauging) (i : Nat) : api_Span := pan (g.Verticals.getD i v0) (wd g i)
def pans (g : gauge_Gauging) : List api_Span := (List.range g.Verticals.length).map (panI g)
theorem panI_eq {g : gauge_Gauging} {i : Nat} (hi : i < g.Verticals.length) : panI g i = pan g.Verticals[i] (wd g i) := by unfold panI; simp [List.getD,hi]
theorem panI_bd {g : gauge_Gauging} (h : GOk g) {i : Nat} (hi : i < g.Verticals.length) : Spn (panI g i) 100000000000 := by
 rw [panI_eq hi]
 exact (pan_bd (h.v _ (List.getElem_mem _)) (wd_bd h hi)).2

theorem panels_spec {N : Nat} (hN : 40 ≤ N) {g : gauge_Gauging} (h : GOk g) : gauge_Panels N g = some (pans g,0) := by
 have hn' := h.n'
 obtain ⟨s',h1,h2⟩ := widths_inv hN h (rY (fun (zz : (List api_Span)) (x : (gauge_Vertical × Int)) => gauge_Panels_r9 N zz x.1 x.2)) (fun i s => s = .go ((List.range i).map (panI g)))
  (by
   rintro i s hi rfl
   refine ⟨.go ((List.range (i + 1)).map (panI g)),?_,rfl⟩
   have hv := h.v g.Verticals[i] (List.getElem_mem _)
   have ht := times3 (N := N) (by omega) hv (wd_bd h hi)
   unfold rY gauge_Panels_r9 gauge_just
   simp only [Option.bind_some,ht]
   rw [room_ok (by simp; omega),List.range_succ,List.map_append,← panI_eq hi]
   rfl)
  (.go []) rfl
 unfold gauge_Panels gauge_Gauging_widths
 rw [check_ok hN h]
 have hg : (⟨g.Left,g.Right,g.Verticals⟩ : gauge_Gauging) = g := rfl
 simp only [Option.bind_some,bne_self_eq_false,cond_false,hg]
 rw [h1,h2]
 rfl

theorem flow_spec {N : Nat} (hN : 40 ≤ N) {g : gauge_Gauging} (h : GOk g) : gauge_Flow N g = some (⟨sumBy (·.Lo) (pans g),sumBy (·.Hi) (pans g)⟩,0) := by
 have hn' := h.n'
 have hl : (pans g).length = g.Verticals.length := by unfold pans; simp
 unfold gauge_Flow
 rw [panels_spec hN h]
 obtain ⟨⟨x,lo,hi⟩,h1,hx,hlo,hhi,-,-⟩ := loopInv (fun s6 : Int × Int × Int => gauge_Flow_b6 N (pans g,0) s6.1 s6.2.1 s6.2.2)
  (fun i s => s.1 = (i : Int) ∧ s.2.1 = sumBy (·.Lo) ((pans g).take i) ∧ s.2.2 = sumBy (·.Hi) ((pans g).take i) ∧ s.2.1.natAbs ≤ i * 100000000000 ∧ s.2.2.natAbs ≤ i * 100000000000) (pans g).length
  (by
   rintro i ⟨x,lo,hi⟩ hi' ⟨rfl,h2,h3,h4,h5⟩
   dsimp only at h2 h3 h4 h5 ⊢
   have hp : Spn (pans g)[i] 100000000000 := by
    rw [show (pans g)[i] = panI g i by simp [pans]]
    exact panI_bd h (by omega)
   have p1 := hp.lo
   have p2 := hp.hi
   refine ⟨(((i + 1 : Nat) : Int),lo + (pans g)[i].Lo,hi + (pans g)[i].Hi),?_,rfl,?_,?_,?_,?_⟩
   ·unfold gauge_Flow_b6 gauge_plus
    have hlt : decide ((i : Int) < (((pans g).length : Nat) : Int)) = true := by simp; omega
    rw [hlt,getI_nat hi',W_succ (by omega)]
    simp only [cond_true,Option.bind_some]
    rw [W_id (n := lo + (pans g)[i].Lo) (by omega) (by omega),W_id (n := hi + (pans g)[i].Hi) (by omega) (by omega)]
   ·dsimp only; rw [sumBy_take _ _ _ hi',h2]
   ·dsimp only; rw [sumBy_take _ _ _ hi',h3]
   ·dsimp only; omega
   ·dsimp only; omega)
  (by
   rintro ⟨x,lo,hi⟩ ⟨rfl,-⟩
   dsimp only
   unfold gauge_Flow_b6
   simp)
  (pans g).length 0 (0,0,0) N (by omega) (by omega) ⟨rfl,rfl,rfl,by simp,by simp⟩
 dsimp only at hx hlo hhi
 simp only [Option.bind_some]
 rw [h1]
 simp [exK,hlo,hhi]

theorem sumBy_map {α β : Type} (f : β → Int) (h : α → β) (l : List α) : sumBy f (l.map h) = sumBy (fun x => f (h x)) l := by unfold sumBy; rw [List.map_map]; rfl
def realAt (g : gauge_Gauging) (ds ss : List Int) (i : Nat) : Int := wd g i * ds.getD i 0 * ss.getD i 0
def realSum (g : gauge_Gauging) (ds ss : List Int) (n : Nat) : Int := sumBy (realAt g ds ss) (List.range n)
structure TrueOf (g : gauge_Gauging) (ds ss : List Int) : Prop where
 dl : ds.length = g.Verticals.length
 sl : ss.length = g.Verticals.length
 d : ∀ i,(h : i < g.Verticals.length) → In (ds.getD i 0) g.Verticals[i].Depth
 s : ∀ i,(h : i < g.Verticals.length) → In (ss.getD i 0) g.Verticals[i].Speed
theorem getI_getD {l : List Int} {i : Nat} (h : i < l.length) : getI l (i : Int) = some (l.getD i 0) := by rw [getI_nat h]; simp [List.getD,h]
theorem real_in {g : gauge_Gauging} {ds ss : List Int} (ht : TrueOf g ds ss) : ∀ n,n ≤ g.Verticals.length → sumBy (·.Lo) ((List.range n).map (panI g)) ≤ realSum g ds ss n ∧ realSum g ds ss n ≤ sumBy (·.Hi) ((List.range n).map (panI g))
 | 0,_ => ⟨Int.le_refl _,Int.le_refl _⟩
 | n + 1,h => by
  have ih := real_in ht n (by omega)
  have hp := in_pan (w := wd g n) (ht.d n (by omega)) (ht.s n (by omega))
  rw [← panI_eq (by omega)] at hp
  unfold In at hp
  unfold realSum at ih ⊢
  rw [List.range_succ,List.map_append,List.map_cons,List.map_nil,sumBy_snoc,sumBy_snoc,sumBy_snoc]
  unfold realAt at ih ⊢
  omega
end Go.Nilo
