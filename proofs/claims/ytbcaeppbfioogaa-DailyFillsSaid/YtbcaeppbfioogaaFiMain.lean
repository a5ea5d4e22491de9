/-
  DailyFills returns true for all its arguments. Conditions: none.
-/
import Derived.Test.YtbcaeppbfioogaaRows
import Derived.WalkKit
import Derived.ProofKit
import Derived.OpenShut
import Derived.ShutString
import Derived.ChangeOld
import Derived.Below
import Derived.Test.YtbcaeppbfioogaaFiL8
namespace Go.Proofs.Ytbcaeppbfioogaa.dailyFills
open Go.ChangeShapes Go.WideShapes Go.ChangeAt Go.RowKit
set_option linter.unusedVariables false

theorem own : ownKnob Try.prog.godebug = none := by kernel_rfl
theorem laidOut : laidOutB Try.prog = true := by kernel_rfl

theorem cells3 : Try.prog.cellsOf 3 = 1 := by kernel_rfl
theorem cells4 : Try.prog.cellsOf 4 = 1 := by kernel_rfl
theorem cells22 : Try.prog.cellsOf 22 = 1 := by kernel_rfl
theorem cells24 : Try.prog.cellsOf 24 = 3 := by kernel_rfl
theorem cells30 : Try.prog.cellsOf 30 = 2 := by kernel_rfl
theorem cells39 : Try.prog.cellsOf 39 = 1 := by kernel_rfl
theorem cells56 : Try.prog.cellsOf 56 = 3 := by kernel_rfl

section
variable {H : Type} {ec : TypeId × Value → H} {w : World} {base : Nat} {spare : Nat → Bool} {held : Bool}
theorem cel3 {n : Nat} {cs : List Value} {y : DataW H × List MemPlace} (h : DataW.trod ec Try.prog w base spare held n 3 cs = some y) : ∃ z : Int, cs = Go.Nilo.encI_i64 z := by
  obtain ⟨z, rfl, -⟩ := DataW.trod_int Try.underlying3 h
  exact ⟨z, rfl⟩
theorem cel4 {n : Nat} {cs : List Value} {y : DataW H × List MemPlace} (h : DataW.trod ec Try.prog w base spare held n 4 cs = some y) : ∃ z : Bool, cs = Go.Nilo.encB z := by
  obtain ⟨z, rfl, -⟩ := DataW.trod_bool Try.underlying4 h
  exact ⟨z, rfl⟩
theorem cel30 {n : Nat} {cs : List Value} {y : DataW H × List MemPlace} (h : DataW.trod ec Try.prog w base spare held n 30 cs = some y) : ∃ z : Go.Nilo.api_Span, cs = Go.Nilo.enc_api_Span z := by
  obtain ⟨xs, n', -, -, hl, hlen, hf⟩ := DataW.trod_struct Try.underlying30 h
  rw [cells30] at hl
  obtain ⟨c0, c1, rfl⟩ := Go.Nilo.list2 hl
  obtain ⟨y0, y1, rfl⟩ := Go.Nilo.list2 (show xs.length = 2 from hlen)
  have h0 : DataW.trod ec Try.prog w base spare held n' 3 (List.take (Try.prog.cellsOf 3) (List.drop 0 [c0, c1])) = some y0 := hf 0 _ rfl
  rw [cells3] at h0
  obtain ⟨z0, e0⟩ := cel3 h0
  have h1 : DataW.trod ec Try.prog w base spare held n' 3 (List.take (Try.prog.cellsOf 3) (List.drop 1 [c0, c1])) = some y1 := hf 1 _ rfl
  rw [cells3] at h1
  obtain ⟨z1, e1⟩ := cel3 h1
  have e0 : [c0] = _ := e0
  have e1 : [c1] = _ := e1
  refine ⟨⟨z0, z1⟩, ?_⟩
  show [c0] ++ [c1] = _
  rw [e0, e1]
  rfl
theorem cel56 {n : Nat} {cs : List Value} {y : DataW H × List MemPlace} (h : DataW.trod ec Try.prog w base spare held n 56 cs = some y) : ∃ z : Go.Nilo.daily_Value, cs = Go.Nilo.enc_daily_Value z := by
  obtain ⟨xs, n', -, -, hl, hlen, hf⟩ := DataW.trod_struct Try.underlying56 h
  rw [cells56] at hl
  obtain ⟨c0, c1, c2, rfl⟩ := Go.Nilo.list3 hl
  obtain ⟨y0, y1, rfl⟩ := Go.Nilo.list2 (show xs.length = 2 from hlen)
  have h0 : DataW.trod ec Try.prog w base spare held n' 4 (List.take (Try.prog.cellsOf 4) (List.drop 0 [c0, c1, c2])) = some y0 := hf 0 _ rfl
  rw [cells4] at h0
  obtain ⟨z0, e0⟩ := cel4 h0
  have h1 : DataW.trod ec Try.prog w base spare held n' 30 (List.take (Try.prog.cellsOf 30) (List.drop 1 [c0, c1, c2])) = some y1 := hf 1 _ rfl
  rw [cells30] at h1
  obtain ⟨z1, e1⟩ := cel30 h1
  have e0 : [c0] = _ := e0
  have e1 : [c1, c2] = _ := e1
  refine ⟨⟨z0, z1⟩, ?_⟩
  show [c0] ++ [c1, c2] = _
  rw [e0, e1]
  rfl
end

open Go.Nilo (ctx_start) in
set_option maxRecDepth 100000 in
theorem lifted (os : Os) (started : os.Started) (H : Type) (enc : TypeId × Value → H) :
    ReturnsInHanded {} Try.checked os 6 .any (Rows.dailyFillsSpec.pre6 enc Try.prog Try.f6 Rows.dailyFillsRow.domain false) (Rows.dailyFillsSpec.post enc Try.prog Try.f6 false true false false) := by
  refine returnsInHanded_of_change (C := Try.checked) own started (by kernel_rfl) Try.func6
    (ChangeSpec.witness6 (enc := enc) (C := Try.checked) false ⟨#[], #[.agg #[.int .i64 0, .int .i64 0, .slice none 0 0], .slice none 0 0], []⟩ 8 (by kernel_rfl) (by kernel_rfl) (by kernel_rfl) (by kernel_rfl)) ?_
  intro W base args ds gs before hval0 hW hcnd _
  have hval : ∀ (j : Nat) t v, Try.f6.params[j]? = some t → args[j]? = some v → Value.okWide Try.prog W .any base t v := hval0
  have hW' := hW
  obtain ⟨p, q, hA0, hV, rfl, hfz, hnd⟩ := hW
  have hA : DataW.TrodAll enc Try.prog W 0 (fun _ => true) true Try.f6.params.toList args.toList ds p := hA0
  rw [Try.params6] at hA hval
  obtain ⟨v0, vs0, d0, ds0, p0, q0, hargs, rfl, rfl, h0, r0'⟩ := trodAll_cons hA
  obtain ⟨v1, vs1, d1, ds1, p1, q1, rfl, rfl, rfl, h1, r1'⟩ := trodAll_cons r0'
  obtain ⟨rfl, rfl, rfl⟩ := trodAll_nil r1'
  obtain rfl : args = #[v0, v1] := by cases args; simp_all
  obtain ⟨rfl, rfl⟩ := trodVars_none hV
  have k0 := h0
  have lt0 : ∀ x ∈ p0, x.block < W.heap.size := by obtain ⟨m, hm⟩ := k0; exact DataW.trod_lt m _ _ _ hm
  obtain ⟨arr0, rfl, hsz0⟩ := okWide_struct Try.underlying24 (hval 0 24 v0 rfl rfl)
  rw [cells24] at hsz0
  obtain ⟨c1, c2, c3, rfl⟩ := Go.Nilo.arr3 hsz0
  obtain ⟨fu0, hfu0⟩ := h0
  replace hfu0 : DataW.trod enc Try.prog W 0 (fun _ => true) true fu0 24 [c1, c2, c3] = some (d0, p0) := hfu0
  obtain ⟨xs4, n5, -, -, -, hlen7, hf6⟩ := DataW.trod_struct Try.underlying24 hfu0
  obtain ⟨y8, y9, y10, rfl⟩ := Go.Nilo.list3 (show xs4.length = 3 from hlen7)
  have h11 : DataW.trod enc Try.prog W 0 (fun _ => true) true n5 3 (List.take (Try.prog.cellsOf 3) (List.drop 0 [c1, c2, c3])) = some y8 := hf6 0 _ rfl
  rw [cells3] at h11
  replace h11 : DataW.trod enc Try.prog W 0 (fun _ => true) true n5 3 [c1] = some y8 := h11
  have h12 : DataW.trod enc Try.prog W 0 (fun _ => true) true n5 3 (List.take (Try.prog.cellsOf 3) (List.drop 1 [c1, c2, c3])) = some y9 := hf6 1 _ rfl
  rw [cells3] at h12
  replace h12 : DataW.trod enc Try.prog W 0 (fun _ => true) true n5 3 [c2] = some y9 := h12
  have h13 : DataW.trod enc Try.prog W 0 (fun _ => true) true n5 22 (List.take (Try.prog.cellsOf 22) (List.drop 2 [c1, c2, c3])) = some y10 := hf6 2 _ rfl
  rw [cells22] at h13
  replace h13 : DataW.trod enc Try.prog W 0 (fun _ => true) true n5 22 [c3] = some y10 := h13
  obtain ⟨z14, he⟩ := cel3 h11
  obtain rfl : c1 = .int .i64 z14 := (List.cons.inj he).1
  obtain ⟨z15, he⟩ := cel3 h12
  obtain rfl : c2 = .int .i64 z15 := (List.cons.inj he).1
  obtain ⟨a16, c17, l18, he, r19⟩ := Go.Nilo.rd_slice Go.Nilo.enc_daily_Value (fun _ => rfl) (by decide) Try.underlying22 cells56 (fun _ _ _ h => cel56 h) h13
  obtain rfl : c3 = .slice a16 l18.length c17 := (List.cons.inj he).1
  have k1 := h1
  have lt1 : ∀ x ∈ p1, x.block < W.heap.size := by obtain ⟨m, hm⟩ := k1; exact DataW.trod_lt m _ _ _ hm
  obtain ⟨a20, len21, c22, rfl⟩ := okWide_slice Try.underlying39 (hval 1 39 v1 rfl rfl)
  obtain ⟨fu1, hfu1⟩ := h1
  obtain ⟨_, _, l23, he, r24⟩ := Go.Nilo.rd_slice Go.Nilo.encI_i64 (fun _ => rfl) (by decide) Try.underlying39 cells3 (fun _ _ _ h => cel3 h) hfu1
  simp [Value.cells] at he
  obtain ⟨rfl, rfl, rfl⟩ := he
  clear hA0 hval0
  refine (Go.Nilo.law07_DailyFills_ok (N := 100) (⟨z14, z15, l18⟩ : Go.Nilo.daily_Record) l23 r19 r24 (ctx_start W) (Go.Nilo.fills_law (⟨z14, z15, l18⟩ : Go.Nilo.daily_Record) l23)).mono fun e W' ⟨he, hcx⟩ => ?_
  have bel := hcx.behind
  subst he
  exact ⟨_, rfl, _, _, _, [], _, [], hW', trodAll_mk1 (shut_bool Try.underlying4 _), (trodAll_cons_mk (Below.trod laidOut (by kernel_rfl) (of_decide_eq_true (by kernel_rfl)) k0 bel lt0) (trodAll_cons_mk (Below.trod laidOut (by kernel_rfl) (of_decide_eq_true (by kernel_rfl)) k1 bel lt1) trodAll_mk0)), rfl, bel.frame _, fun h => by cases h⟩

theorem over : Rows.dailyFillsRow.holds Try.pinned (OpenSpec.ofChange Rows.dailyFillsSpec) :=
  OpenClaim.holds_of_wide 6 Try.f6 rfl rfl rfl rfl rfl rfl rfl ⟨rfl, rfl, rfl, rfl, rfl⟩ rfl rfl rfl rfl rfl (by kernel_rfl) Try.func6 (by kernel_rfl)
    (of_decide_eq_true (by kernel_rfl)) (by unfold Func.isWrapper; first | (rw [if_pos (by decide +kernel)]; kernel_rfl) | (rw [if_neg (by decide +kernel)]; exact ⟨rfl, rfl⟩))
    (fun os started H enc _ => lifted os started H enc)

/-- The statement. -/
theorem proved : Rows.DailyFillsSaid := over
#print axioms proved
end Go.Proofs.Ytbcaeppbfioogaa.dailyFills
