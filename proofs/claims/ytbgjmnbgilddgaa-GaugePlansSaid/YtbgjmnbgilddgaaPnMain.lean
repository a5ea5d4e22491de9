/-
  GaugePlans returns true for all its arguments. Conditions: none.
-/
import Derived.Test.YtbgjmnbgilddgaaRows
import Derived.WalkKit
import Derived.ProofKit
import Derived.OpenShut
import Derived.ShutString
import Derived.ChangeOld
import Derived.Below
import Derived.Test.YtbgjmnbgilddgaaPnL9
namespace Go.Proofs.Ytbgjmnbgilddgaa.gaugePlans
open Go.ChangeShapes Go.WideShapes Go.ChangeAt Go.RowKit
set_option linter.unusedVariables false

theorem own : ownKnob Try.prog.godebug = none := by kernel_rfl
theorem laidOut : laidOutB Try.prog = true := by kernel_rfl

theorem cells3 : Try.prog.cellsOf 3 = 1 := by kernel_rfl
theorem cells43 : Try.prog.cellsOf 43 = 1 := by kernel_rfl
theorem cells53 : Try.prog.cellsOf 53 = 1 := by kernel_rfl
theorem cells55 : Try.prog.cellsOf 55 = 5 := by kernel_rfl
theorem cells64 : Try.prog.cellsOf 64 = 3 := by kernel_rfl

section
variable {H : Type} {ec : TypeId × Value → H} {w : World} {base : Nat} {spare : Nat → Bool} {held : Bool}
theorem cel3 {n : Nat} {cs : List Value} {y : DataW H × List MemPlace} (h : DataW.trod ec Try.prog w base spare held n 3 cs = some y) : ∃ z : Int, cs = Go.Nilo.encI_i64 z := by
  obtain ⟨z, rfl, -⟩ := DataW.trod_int Try.underlying3 h
  exact ⟨z, rfl⟩
theorem cel64 {n : Nat} {cs : List Value} {y : DataW H × List MemPlace} (h : DataW.trod ec Try.prog w base spare held n 64 cs = some y) : ∃ z : Go.Nilo.gauge_Point, cs = Go.Nilo.enc_gauge_Point z := by
  obtain ⟨xs, n', -, -, hl, hlen, hf⟩ := DataW.trod_struct Try.underlying64 h
  rw [cells64] at hl
  obtain ⟨c0, c1, c2, rfl⟩ := Go.Nilo.list3 hl
  obtain ⟨y0, y1, y2, rfl⟩ := Go.Nilo.list3 (show xs.length = 3 from hlen)
  have h0 : DataW.trod ec Try.prog w base spare held n' 3 (List.take (Try.prog.cellsOf 3) (List.drop 0 [c0, c1, c2])) = some y0 := hf 0 _ rfl
  rw [cells3] at h0
  obtain ⟨z0, e0⟩ := cel3 h0
  have h1 : DataW.trod ec Try.prog w base spare held n' 3 (List.take (Try.prog.cellsOf 3) (List.drop 1 [c0, c1, c2])) = some y1 := hf 1 _ rfl
  rw [cells3] at h1
  obtain ⟨z1, e1⟩ := cel3 h1
  have h2 : DataW.trod ec Try.prog w base spare held n' 3 (List.take (Try.prog.cellsOf 3) (List.drop 2 [c0, c1, c2])) = some y2 := hf 2 _ rfl
  rw [cells3] at h2
  obtain ⟨z2, e2⟩ := cel3 h2
  have e0 : [c0] = _ := e0
  have e1 : [c1] = _ := e1
  have e2 : [c2] = _ := e2
  refine ⟨⟨z0, z1, z2⟩, ?_⟩
  show [c0] ++ [c1] ++ [c2] = _
  rw [e0, e1, e2]
  rfl
end

open Go.Nilo (ctx_start) in
set_option maxRecDepth 100000 in
theorem lifted (os : Os) (started : os.Started) (H : Type) (enc : TypeId × Value → H) :
    ReturnsInHanded {} Try.checked os 8 .any (Rows.gaugePlansSpec.pre6 enc Try.prog Try.f8 Rows.gaugePlansRow.domain false) (Rows.gaugePlansSpec.post enc Try.prog Try.f8 false true false false) := by
  refine returnsInHanded_of_change (C := Try.checked) own started (by kernel_rfl) Try.func8
    (ChangeSpec.witness6 (enc := enc) (C := Try.checked) false ⟨#[], #[.agg #[.int .i64 0, .int .i64 0, .int .i64 0, .int .i64 0, .slice none 0 0], .slice none 0 0, .slice none 0 0, .int .i64 0], []⟩ 8 (by kernel_rfl) (by kernel_rfl) (by kernel_rfl) (by kernel_rfl)) ?_
  intro W base args ds gs before hval0 hW hcnd _
  have hval : ∀ (j : Nat) t v, Try.f8.params[j]? = some t → args[j]? = some v → Value.okWide Try.prog W .any base t v := hval0
  have hW' := hW
  obtain ⟨p, q, hA0, hV, rfl, hfz, hnd⟩ := hW
  have hA : DataW.TrodAll enc Try.prog W 0 (fun _ => true) true Try.f8.params.toList args.toList ds p := hA0
  rw [Try.params8] at hA hval
  obtain ⟨v0, vs0, d0, ds0, p0, q0, hargs, rfl, rfl, h0, r0'⟩ := trodAll_cons hA
  obtain ⟨v1, vs1, d1, ds1, p1, q1, rfl, rfl, rfl, h1, r1'⟩ := trodAll_cons r0'
  obtain ⟨v2, vs2, d2, ds2, p2, q2, rfl, rfl, rfl, h2, r2'⟩ := trodAll_cons r1'
  obtain ⟨v3, vs3, d3, ds3, p3, q3, rfl, rfl, rfl, h3, r3'⟩ := trodAll_cons r2'
  obtain ⟨rfl, rfl, rfl⟩ := trodAll_nil r3'
  obtain rfl : args = #[v0, v1, v2, v3] := by cases args; simp_all
  obtain ⟨rfl, rfl⟩ := trodVars_none hV
  have k0 := h0
  have lt0 : ∀ x ∈ p0, x.block < W.heap.size := by obtain ⟨m, hm⟩ := k0; exact DataW.trod_lt m _ _ _ hm
  obtain ⟨arr0, rfl, hsz0⟩ := okWide_struct Try.underlying55 (hval 0 55 v0 rfl rfl)
  rw [cells55] at hsz0
  obtain ⟨c1, c2, c3, c4, c5, rfl⟩ := Go.Nilo.arr5 hsz0
  obtain ⟨fu0, hfu0⟩ := h0
  replace hfu0 : DataW.trod enc Try.prog W 0 (fun _ => true) true fu0 55 [c1, c2, c3, c4, c5] = some (d0, p0) := hfu0
  obtain ⟨xs6, n7, -, -, -, hlen9, hf8⟩ := DataW.trod_struct Try.underlying55 hfu0
  obtain ⟨y10, y11, y12, y13, y14, rfl⟩ := Go.Nilo.list5 (show xs6.length = 5 from hlen9)
  have h15 : DataW.trod enc Try.prog W 0 (fun _ => true) true n7 3 (List.take (Try.prog.cellsOf 3) (List.drop 0 [c1, c2, c3, c4, c5])) = some y10 := hf8 0 _ rfl
  rw [cells3] at h15
  replace h15 : DataW.trod enc Try.prog W 0 (fun _ => true) true n7 3 [c1] = some y10 := h15
  have h16 : DataW.trod enc Try.prog W 0 (fun _ => true) true n7 3 (List.take (Try.prog.cellsOf 3) (List.drop 1 [c1, c2, c3, c4, c5])) = some y11 := hf8 1 _ rfl
  rw [cells3] at h16
  replace h16 : DataW.trod enc Try.prog W 0 (fun _ => true) true n7 3 [c2] = some y11 := h16
  have h17 : DataW.trod enc Try.prog W 0 (fun _ => true) true n7 3 (List.take (Try.prog.cellsOf 3) (List.drop 2 [c1, c2, c3, c4, c5])) = some y12 := hf8 2 _ rfl
  rw [cells3] at h17
  replace h17 : DataW.trod enc Try.prog W 0 (fun _ => true) true n7 3 [c3] = some y12 := h17
  have h18 : DataW.trod enc Try.prog W 0 (fun _ => true) true n7 3 (List.take (Try.prog.cellsOf 3) (List.drop 3 [c1, c2, c3, c4, c5])) = some y13 := hf8 3 _ rfl
  rw [cells3] at h18
  replace h18 : DataW.trod enc Try.prog W 0 (fun _ => true) true n7 3 [c4] = some y13 := h18
  have h19 : DataW.trod enc Try.prog W 0 (fun _ => true) true n7 53 (List.take (Try.prog.cellsOf 53) (List.drop 4 [c1, c2, c3, c4, c5])) = some y14 := hf8 4 _ rfl
  rw [cells53] at h19
  replace h19 : DataW.trod enc Try.prog W 0 (fun _ => true) true n7 53 [c5] = some y14 := h19
  obtain ⟨z20, he⟩ := cel3 h15
  obtain rfl : c1 = .int .i64 z20 := (List.cons.inj he).1
  obtain ⟨z21, he⟩ := cel3 h16
  obtain rfl : c2 = .int .i64 z21 := (List.cons.inj he).1
  obtain ⟨z22, he⟩ := cel3 h17
  obtain rfl : c3 = .int .i64 z22 := (List.cons.inj he).1
  obtain ⟨z23, he⟩ := cel3 h18
  obtain rfl : c4 = .int .i64 z23 := (List.cons.inj he).1
  obtain ⟨a24, c25, l26, he, r27⟩ := Go.Nilo.rd_slice Go.Nilo.enc_gauge_Point (fun _ => rfl) (by decide) Try.underlying53 cells64 (fun _ _ _ h => cel64 h) h19
  obtain rfl : c5 = .slice a24 l26.length c25 := (List.cons.inj he).1
  have k1 := h1
  have lt1 : ∀ x ∈ p1, x.block < W.heap.size := by obtain ⟨m, hm⟩ := k1; exact DataW.trod_lt m _ _ _ hm
  obtain ⟨a28, len29, c30, rfl⟩ := okWide_slice Try.underlying43 (hval 1 43 v1 rfl rfl)
  obtain ⟨fu1, hfu1⟩ := h1
  obtain ⟨_, _, l31, he, r32⟩ := Go.Nilo.rd_slice Go.Nilo.encI_i64 (fun _ => rfl) (by decide) Try.underlying43 cells3 (fun _ _ _ h => cel3 h) hfu1
  simp [Value.cells] at he
  obtain ⟨rfl, rfl, rfl⟩ := he
  have k2 := h2
  have lt2 : ∀ x ∈ p2, x.block < W.heap.size := by obtain ⟨m, hm⟩ := k2; exact DataW.trod_lt m _ _ _ hm
  obtain ⟨a33, len34, c35, rfl⟩ := okWide_slice Try.underlying43 (hval 2 43 v2 rfl rfl)
  obtain ⟨fu2, hfu2⟩ := h2
  obtain ⟨_, _, l36, he, r37⟩ := Go.Nilo.rd_slice Go.Nilo.encI_i64 (fun _ => rfl) (by decide) Try.underlying43 cells3 (fun _ _ _ h => cel3 h) hfu2
  simp [Value.cells] at he
  obtain ⟨rfl, rfl, rfl⟩ := he
  have k3 := h3
  have lt3 : ∀ x ∈ p3, x.block < W.heap.size := by obtain ⟨m, hm⟩ := k3; exact DataW.trod_lt m _ _ _ hm
  obtain ⟨z38, rfl, -, -, -⟩ := open_int Try.underlying3 (hval 3 3 v3 rfl rfl) h3
  clear hA0 hval0
  refine (Go.Nilo.law03_GaugePlans_ok (N := 100) (⟨z20, z21, z22, z23, l26⟩ : Go.Nilo.gauge_Site) l31 l36 z38 r27 r32 r37 (ctx_start W) (Go.Nilo.plans_law (⟨z20, z21, z22, z23, l26⟩ : Go.Nilo.gauge_Site) l31 l36 z38)).mono fun e W' ⟨he, hcx⟩ => ?_
  have bel := hcx.behind
  subst he
  exact ⟨_, rfl, _, _, _, [], _, [], hW', trodAll_mk1 (shut_bool Try.underlying4 _), (trodAll_cons_mk (Below.trod laidOut (by kernel_rfl) (of_decide_eq_true (by kernel_rfl)) k0 bel lt0) (trodAll_cons_mk (Below.trod laidOut (by kernel_rfl) (of_decide_eq_true (by kernel_rfl)) k1 bel lt1) (trodAll_cons_mk (Below.trod laidOut (by kernel_rfl) (of_decide_eq_true (by kernel_rfl)) k2 bel lt2) (trodAll_cons_mk (Below.trod laidOut (by kernel_rfl) (of_decide_eq_true (by kernel_rfl)) k3 bel lt3) trodAll_mk0)))), rfl, bel.frame _, fun h => by cases h⟩

theorem over : Rows.gaugePlansRow.holds Try.pinned (OpenSpec.ofChange Rows.gaugePlansSpec) :=
  OpenClaim.holds_of_wide 8 Try.f8 rfl rfl rfl rfl rfl rfl rfl ⟨rfl, rfl, rfl, rfl, rfl⟩ rfl rfl rfl rfl rfl (by kernel_rfl) Try.func8 (by kernel_rfl)
    (of_decide_eq_true (by kernel_rfl)) (by unfold Func.isWrapper; first | (rw [if_pos (by decide +kernel)]; kernel_rfl) | (rw [if_neg (by decide +kernel)]; exact ⟨rfl, rfl⟩))
    (fun os started H enc _ => lifted os started H enc)

/-- The statement. -/
theorem proved : Rows.GaugePlansSaid := over
#print axioms proved
end Go.Proofs.Ytbgjmnbgilddgaa.gaugePlans
