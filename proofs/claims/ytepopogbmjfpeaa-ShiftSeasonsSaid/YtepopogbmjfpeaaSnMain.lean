/-
  ShiftSeasons returns true for all its arguments. Conditions: none.
-/
import Derived.Test.YtepopogbmjfpeaaRows
import Derived.WalkKit
import Derived.ProofKit
import Derived.OpenShut
import Derived.ShutString
import Derived.ChangeOld
import Derived.Below
import Derived.Test.YtepopogbmjfpeaaSnL22
namespace Go.Proofs.Ytepopogbmjfpeaa.shiftSeasons
open Go.ChangeShapes Go.WideShapes Go.ChangeAt Go.RowKit
set_option linter.unusedVariables false

theorem own : ownKnob Try.prog.godebug = none := by kernel_rfl
theorem laidOut : laidOutB Try.prog = true := by kernel_rfl

theorem cells3 : Try.prog.cellsOf 3 = 1 := by kernel_rfl
theorem cells22 : Try.prog.cellsOf 22 = 1 := by kernel_rfl
theorem cells23 : Try.prog.cellsOf 23 = 1 := by kernel_rfl
theorem cells25 : Try.prog.cellsOf 25 = 2 := by kernel_rfl
theorem cells50 : Try.prog.cellsOf 50 = 2 := by kernel_rfl
theorem cells71 : Try.prog.cellsOf 71 = 4 := by kernel_rfl
theorem cells77 : Try.prog.cellsOf 77 = 2 := by kernel_rfl

section
variable {H : Type} {ec : TypeId × Value → H} {w : World} {base : Nat} {spare : Nat → Bool} {held : Bool}
theorem cel3 {n : Nat} {cs : List Value} {y : DataW H × List MemPlace} (h : DataW.trod ec Try.prog w base spare held n 3 cs = some y) : ∃ z : Int, cs = Go.Nilo.encI_i64 z := by
  obtain ⟨z, rfl, -⟩ := DataW.trod_int Try.underlying3 h
  exact ⟨z, rfl⟩
theorem cel77 {n : Nat} {cs : List Value} {y : DataW H × List MemPlace} (h : DataW.trod ec Try.prog w base spare held n 77 cs = some y) : ∃ z : Go.Nilo.shift_Mark, cs = Go.Nilo.enc_shift_Mark z := by
  obtain ⟨xs, n', -, -, hl, hlen, hf⟩ := DataW.trod_struct Try.underlying77 h
  rw [cells77] at hl
  obtain ⟨c0, c1, rfl⟩ := Go.Nilo.list2 hl
  obtain ⟨y0, y1, rfl⟩ := Go.Nilo.list2 (show xs.length = 2 from hlen)
  have h0 : DataW.trod ec Try.prog w base spare held n' 3 (List.take (Try.prog.cellsOf 3) (List.drop 0 [c0, c1])) = some y0 := hf 0 _ rfl
  rw [cells3] at h0
  obtain ⟨z0, e0⟩ := cel3 h0
  have h1 : DataW.trod ec Try.prog w base spare held n' 3 (List.take (Try.prog.cellsOf 3) (List.drop 1 [c0, c1])) = some y1 := hf 1 _ rfl
  rw [cells3] at h1
  obtain ⟨z1, e1⟩ := cel3 h1
  have e0 : [c0] = _ := e0
  have e1 : [c1] = _ := e1
  refine ⟨⟨z0, z1⟩, ?_⟩
  show [c0] ++ [c1] = _
  rw [e0, e1]
  rfl
theorem cel50 {n : Nat} {cs : List Value} {y : DataW H × List MemPlace} (h : DataW.trod ec Try.prog w base spare held n 50 cs = some y) : ∃ z : Go.Nilo.api_Span, cs = Go.Nilo.enc_api_Span z := by
  obtain ⟨xs, n', -, -, hl, hlen, hf⟩ := DataW.trod_struct Try.underlying50 h
  rw [cells50] at hl
  obtain ⟨c0, c1, rfl⟩ := Go.Nilo.list2 hl
  obtain ⟨y0, y1, rfl⟩ := Go.Nilo.list2 (show xs.length = 2 from hlen)
  have h0 : DataW.trod ec Try.prog w base spare held n' 3 (List.take (Try.prog.cellsOf 3) (List.drop 0 [c0, c1])) = some y0 := hf 0 _ rfl
  rw [cells3] at h0
  obtain ⟨z0, e0⟩ := cel3 h0
  have h1 : DataW.trod ec Try.prog w base spare held n' 3 (List.take (Try.prog.cellsOf 3) (List.drop 1 [c0, c1])) = some y1 := hf 1 _ rfl
  rw [cells3] at h1
  obtain ⟨z1, e1⟩ := cel3 h1
  have e0 : [c0] = _ := e0
  have e1 : [c1] = _ := e1
  refine ⟨⟨z0, z1⟩, ?_⟩
  show [c0] ++ [c1] = _
  rw [e0, e1]
  rfl
theorem cel71 {n : Nat} {cs : List Value} {y : DataW H × List MemPlace} (h : DataW.trod ec Try.prog w base spare held n 71 cs = some y) : ∃ z : Go.Nilo.shift_Gauging, cs = Go.Nilo.enc_shift_Gauging z := by
  obtain ⟨xs, n', -, -, hl, hlen, hf⟩ := DataW.trod_struct Try.underlying71 h
  rw [cells71] at hl
  obtain ⟨c0, c1, c2, c3, rfl⟩ := Go.Nilo.list4 hl
  obtain ⟨y0, y1, y2, rfl⟩ := Go.Nilo.list3 (show xs.length = 3 from hlen)
  have h0 : DataW.trod ec Try.prog w base spare held n' 3 (List.take (Try.prog.cellsOf 3) (List.drop 0 [c0, c1, c2, c3])) = some y0 := hf 0 _ rfl
  rw [cells3] at h0
  obtain ⟨z0, e0⟩ := cel3 h0
  have h1 : DataW.trod ec Try.prog w base spare held n' 3 (List.take (Try.prog.cellsOf 3) (List.drop 1 [c0, c1, c2, c3])) = some y1 := hf 1 _ rfl
  rw [cells3] at h1
  obtain ⟨z1, e1⟩ := cel3 h1
  have h2 : DataW.trod ec Try.prog w base spare held n' 50 (List.take (Try.prog.cellsOf 50) (List.drop 2 [c0, c1, c2, c3])) = some y2 := hf 2 _ rfl
  rw [cells50] at h2
  obtain ⟨z2, e2⟩ := cel50 h2
  have e0 : [c0] = _ := e0
  have e1 : [c1] = _ := e1
  have e2 : [c2, c3] = _ := e2
  refine ⟨⟨z0, z1, z2⟩, ?_⟩
  show [c0] ++ [c1] ++ [c2, c3] = _
  rw [e0, e1, e2]
  rfl
end

open Go.Nilo (ctx_start) in
set_option maxRecDepth 100000 in
theorem lifted (os : Os) (started : os.Started) (H : Type) (enc : TypeId × Value → H) :
    ReturnsInHanded {} Try.checked os 4 .any (Rows.shiftSeasonsSpec.pre6 enc Try.prog Try.f4 Rows.shiftSeasonsRow.domain false) (Rows.shiftSeasonsSpec.post enc Try.prog Try.f4 false true false false) := by
  refine returnsInHanded_of_change (C := Try.checked) own started (by kernel_rfl) Try.func4
    (ChangeSpec.witness6 (enc := enc) (C := Try.checked) false ⟨#[], #[.agg #[.slice none 0 0, .slice none 0 0], .int .i64 0, .int .i64 0, .int .i64 0], []⟩ 8 (by kernel_rfl) (by kernel_rfl) (by kernel_rfl) (by kernel_rfl)) ?_
  intro W base args ds gs before hval0 hW hcnd _
  have hval : ∀ (j : Nat) t v, Try.f4.params[j]? = some t → args[j]? = some v → Value.okWide Try.prog W .any base t v := hval0
  have hW' := hW
  obtain ⟨p, q, hA0, hV, rfl, hfz, hnd⟩ := hW
  have hA : DataW.TrodAll enc Try.prog W 0 (fun _ => true) true Try.f4.params.toList args.toList ds p := hA0
  rw [Try.params4] at hA hval
  obtain ⟨v0, vs0, d0, ds0, p0, q0, hargs, rfl, rfl, h0, r0'⟩ := trodAll_cons hA
  obtain ⟨v1, vs1, d1, ds1, p1, q1, rfl, rfl, rfl, h1, r1'⟩ := trodAll_cons r0'
  obtain ⟨v2, vs2, d2, ds2, p2, q2, rfl, rfl, rfl, h2, r2'⟩ := trodAll_cons r1'
  obtain ⟨v3, vs3, d3, ds3, p3, q3, rfl, rfl, rfl, h3, r3'⟩ := trodAll_cons r2'
  obtain ⟨rfl, rfl, rfl⟩ := trodAll_nil r3'
  obtain rfl : args = #[v0, v1, v2, v3] := by cases args; simp_all
  obtain ⟨rfl, rfl⟩ := trodVars_none hV
  have k0 := h0
  have lt0 : ∀ x ∈ p0, x.block < W.heap.size := by obtain ⟨m, hm⟩ := k0; exact DataW.trod_lt m _ _ _ hm
  obtain ⟨arr0, rfl, hsz0⟩ := okWide_struct Try.underlying25 (hval 0 25 v0 rfl rfl)
  rw [cells25] at hsz0
  obtain ⟨c1, c2, rfl⟩ := Go.Nilo.arr2 hsz0
  obtain ⟨fu0, hfu0⟩ := h0
  replace hfu0 : DataW.trod enc Try.prog W 0 (fun _ => true) true fu0 25 [c1, c2] = some (d0, p0) := hfu0
  obtain ⟨xs3, n4, -, -, -, hlen6, hf5⟩ := DataW.trod_struct Try.underlying25 hfu0
  obtain ⟨y7, y8, rfl⟩ := Go.Nilo.list2 (show xs3.length = 2 from hlen6)
  have h9 : DataW.trod enc Try.prog W 0 (fun _ => true) true n4 22 (List.take (Try.prog.cellsOf 22) (List.drop 0 [c1, c2])) = some y7 := hf5 0 _ rfl
  rw [cells22] at h9
  replace h9 : DataW.trod enc Try.prog W 0 (fun _ => true) true n4 22 [c1] = some y7 := h9
  have h10 : DataW.trod enc Try.prog W 0 (fun _ => true) true n4 23 (List.take (Try.prog.cellsOf 23) (List.drop 1 [c1, c2])) = some y8 := hf5 1 _ rfl
  rw [cells23] at h10
  replace h10 : DataW.trod enc Try.prog W 0 (fun _ => true) true n4 23 [c2] = some y8 := h10
  obtain ⟨a11, c12, l13, he, r14⟩ := Go.Nilo.rd_slice Go.Nilo.enc_shift_Mark (fun _ => rfl) (by decide) Try.underlying22 cells77 (fun _ _ _ h => cel77 h) h9
  obtain rfl : c1 = .slice a11 l13.length c12 := (List.cons.inj he).1
  obtain ⟨a15, c16, l17, he, r18⟩ := Go.Nilo.rd_slice Go.Nilo.enc_shift_Gauging (fun _ => rfl) (by decide) Try.underlying23 cells71 (fun _ _ _ h => cel71 h) h10
  obtain rfl : c2 = .slice a15 l17.length c16 := (List.cons.inj he).1
  have k1 := h1
  have lt1 : ∀ x ∈ p1, x.block < W.heap.size := by obtain ⟨m, hm⟩ := k1; exact DataW.trod_lt m _ _ _ hm
  obtain ⟨z19, rfl, -, -, -⟩ := open_int Try.underlying3 (hval 1 3 v1 rfl rfl) h1
  have k2 := h2
  have lt2 : ∀ x ∈ p2, x.block < W.heap.size := by obtain ⟨m, hm⟩ := k2; exact DataW.trod_lt m _ _ _ hm
  obtain ⟨z20, rfl, -, -, -⟩ := open_int Try.underlying3 (hval 2 3 v2 rfl rfl) h2
  have k3 := h3
  have lt3 : ∀ x ∈ p3, x.block < W.heap.size := by obtain ⟨m, hm⟩ := k3; exact DataW.trod_lt m _ _ _ hm
  obtain ⟨z21, rfl, -, -, -⟩ := open_int Try.underlying3 (hval 3 3 v3 rfl rfl) h3
  clear hA0 hval0
  refine (Go.Nilo.law05_ShiftSeasons_ok (N := 700) (⟨l13, l17⟩ : Go.Nilo.shift_Record) z19 z20 z21 r14 r18 (ctx_start W) (Go.Nilo.seasons_law (by decide) (⟨l13, l17⟩ : Go.Nilo.shift_Record) z19 z20 z21)).mono fun e W' ⟨he, hcx⟩ => ?_
  have bel := hcx.behind
  subst he
  exact ⟨_, rfl, _, _, _, [], _, [], hW', trodAll_mk1 (shut_bool Try.underlying4 _), (trodAll_cons_mk (Below.trod laidOut (by kernel_rfl) (of_decide_eq_true (by kernel_rfl)) k0 bel lt0) (trodAll_cons_mk (Below.trod laidOut (by kernel_rfl) (of_decide_eq_true (by kernel_rfl)) k1 bel lt1) (trodAll_cons_mk (Below.trod laidOut (by kernel_rfl) (of_decide_eq_true (by kernel_rfl)) k2 bel lt2) (trodAll_cons_mk (Below.trod laidOut (by kernel_rfl) (of_decide_eq_true (by kernel_rfl)) k3 bel lt3) trodAll_mk0)))), rfl, bel.frame _, fun h => by cases h⟩

theorem over : Rows.shiftSeasonsRow.holds Try.pinned (OpenSpec.ofChange Rows.shiftSeasonsSpec) :=
  OpenClaim.holds_of_wide 4 Try.f4 rfl rfl rfl rfl rfl rfl rfl ⟨rfl, rfl, rfl, rfl, rfl⟩ rfl rfl rfl rfl rfl (by kernel_rfl) Try.func4 (by kernel_rfl)
    (of_decide_eq_true (by kernel_rfl)) (by unfold Func.isWrapper; first | (rw [if_pos (by decide +kernel)]; kernel_rfl) | (rw [if_neg (by decide +kernel)]; exact ⟨rfl, rfl⟩))
    (fun os started H enc _ => lifted os started H enc)

/-- The statement. -/
theorem proved : Rows.ShiftSeasonsSaid := over
#print axioms proved
end Go.Proofs.Ytepopogbmjfpeaa.shiftSeasons
