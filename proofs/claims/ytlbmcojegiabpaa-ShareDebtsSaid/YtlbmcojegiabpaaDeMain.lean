/-
  ShareDebts returns true for all its arguments. Conditions: none.
-/
import Derived.Test.YtlbmcojegiabpaaRows
import Derived.WalkKit
import Derived.ProofKit
import Derived.OpenShut
import Derived.ShutString
import Derived.ChangeOld
import Derived.Below
import Derived.Test.YtlbmcojegiabpaaDeL9
namespace Go.Proofs.Ytlbmcojegiabpaa.shareDebts
open Go.ChangeShapes Go.WideShapes Go.ChangeAt Go.RowKit
set_option linter.unusedVariables false

theorem own : ownKnob Try.prog.godebug = none := by kernel_rfl
theorem laidOut : laidOutB Try.prog = true := by kernel_rfl

theorem cells3 : Try.prog.cellsOf 3 = 1 := by kernel_rfl
theorem cells4 : Try.prog.cellsOf 4 = 1 := by kernel_rfl
theorem cells26 : Try.prog.cellsOf 26 = 2 := by kernel_rfl
theorem cells86 : Try.prog.cellsOf 86 = 1 := by kernel_rfl
theorem cells88 : Try.prog.cellsOf 88 = 2 := by kernel_rfl
theorem cells89 : Try.prog.cellsOf 89 = 1 := by kernel_rfl
theorem cells90 : Try.prog.cellsOf 90 = 1 := by kernel_rfl
theorem cells94 : Try.prog.cellsOf 94 = 5 := by kernel_rfl
theorem cells97 : Try.prog.cellsOf 97 = 2 := by kernel_rfl
theorem cells116 : Try.prog.cellsOf 116 = 2 := by kernel_rfl

section
variable {H : Type} {ec : TypeId × Value → H} {w : World} {base : Nat} {spare : Nat → Bool} {held : Bool}
theorem cel3 {n : Nat} {cs : List Value} {y : DataW H × List MemPlace} (h : DataW.trod ec Try.prog w base spare held n 3 cs = some y) : ∃ z : Int, cs = Go.Nilo.encI_i64 z := by
  obtain ⟨z, rfl, -⟩ := DataW.trod_int Try.underlying3 h
  exact ⟨z, rfl⟩
theorem cel116 {n : Nat} {cs : List Value} {y : DataW H × List MemPlace} (h : DataW.trod ec Try.prog w base spare held n 116 cs = some y) : ∃ z : Go.Nilo.share_Point, cs = Go.Nilo.enc_share_Point z := by
  obtain ⟨xs, n', -, -, hl, hlen, hf⟩ := DataW.trod_struct Try.underlying116 h
  rw [cells116] at hl
  obtain ⟨c0, c1, rfl⟩ := Go.Nilo.list2 hl
  obtain ⟨y0, y1, rfl⟩ := Go.Nilo.list2 (show xs.length = 2 from hlen)
  have h0 : DataW.trod ec Try.prog w base spare held n' 3 (List.take (Try.prog.cellsOf 3) (List.drop 0 [c0, c1])) = some y0 := hf 0 _ rfl
  rw [cells3] at h0
  obtain ⟨z0, e0⟩ := cel3 h0
  have h1 : DataW.trod ec Try.prog w base spare held n' 3 (List.take (Try.prog.cellsOf 3) (List.drop 1 [c0, c1])) = some y1 := hf 1 _ rfl
  rw [cells3] at h1
  obtain ⟨z1, e1⟩ := cel3 h1
  have e0 : [c0] = _ := e0
  have e1 : [c1] = _ := e1
  refine ⟨⟨z0, z1⟩, ?_⟩
  show [c0] ++ [c1] = _
  rw [e0, e1]
  rfl
theorem cel26 {n : Nat} {cs : List Value} {y : DataW H × List MemPlace} (h : DataW.trod ec Try.prog w base spare held n 26 cs = some y) : ∃ z : Go.Nilo.api_Span, cs = Go.Nilo.enc_api_Span z := by
  obtain ⟨xs, n', -, -, hl, hlen, hf⟩ := DataW.trod_struct Try.underlying26 h
  rw [cells26] at hl
  obtain ⟨c0, c1, rfl⟩ := Go.Nilo.list2 hl
  obtain ⟨y0, y1, rfl⟩ := Go.Nilo.list2 (show xs.length = 2 from hlen)
  have h0 : DataW.trod ec Try.prog w base spare held n' 3 (List.take (Try.prog.cellsOf 3) (List.drop 0 [c0, c1])) = some y0 := hf 0 _ rfl
  rw [cells3] at h0
  obtain ⟨z0, e0⟩ := cel3 h0
  have h1 : DataW.trod ec Try.prog w base spare held n' 3 (List.take (Try.prog.cellsOf 3) (List.drop 1 [c0, c1])) = some y1 := hf 1 _ rfl
  rw [cells3] at h1
  obtain ⟨z1, e1⟩ := cel3 h1
  have e0 : [c0] = _ := e0
  have e1 : [c1] = _ := e1
  refine ⟨⟨z0, z1⟩, ?_⟩
  show [c0] ++ [c1] = _
  rw [e0, e1]
  rfl
theorem cel4 {n : Nat} {cs : List Value} {y : DataW H × List MemPlace} (h : DataW.trod ec Try.prog w base spare held n 4 cs = some y) : ∃ z : Bool, cs = Go.Nilo.encB z := by
  obtain ⟨z, rfl, -⟩ := DataW.trod_bool Try.underlying4 h
  exact ⟨z, rfl⟩
theorem cel94 {n : Nat} {cs : List Value} {y : DataW H × List MemPlace} (h : DataW.trod ec Try.prog w base spare held n 94 cs = some y) : ∃ z : Go.Nilo.share_Year, cs = Go.Nilo.enc_share_Year z := by
  obtain ⟨xs, n', -, -, hl, hlen, hf⟩ := DataW.trod_struct Try.underlying94 h
  rw [cells94] at hl
  obtain ⟨c0, c1, c2, c3, c4, rfl⟩ := Go.Nilo.list5 hl
  obtain ⟨y0, y1, y2, rfl⟩ := Go.Nilo.list3 (show xs.length = 3 from hlen)
  have h0 : DataW.trod ec Try.prog w base spare held n' 26 (List.take (Try.prog.cellsOf 26) (List.drop 0 [c0, c1, c2, c3, c4])) = some y0 := hf 0 _ rfl
  rw [cells26] at h0
  obtain ⟨z0, e0⟩ := cel26 h0
  have h1 : DataW.trod ec Try.prog w base spare held n' 26 (List.take (Try.prog.cellsOf 26) (List.drop 2 [c0, c1, c2, c3, c4])) = some y1 := hf 1 _ rfl
  rw [cells26] at h1
  obtain ⟨z1, e1⟩ := cel26 h1
  have h2 : DataW.trod ec Try.prog w base spare held n' 4 (List.take (Try.prog.cellsOf 4) (List.drop 4 [c0, c1, c2, c3, c4])) = some y2 := hf 2 _ rfl
  rw [cells4] at h2
  obtain ⟨z2, e2⟩ := cel4 h2
  have e0 : [c0, c1] = _ := e0
  have e1 : [c2, c3] = _ := e1
  have e2 : [c4] = _ := e2
  refine ⟨⟨z0, z1, z2⟩, ?_⟩
  show [c0, c1] ++ [c2, c3] ++ [c4] = _
  rw [e0, e1, e2]
  rfl
theorem cel97 {n : Nat} {cs : List Value} {y : DataW H × List MemPlace} (h : DataW.trod ec Try.prog w base spare held n 97 cs = some y) : ∃ z : Go.Nilo.share_Truth, cs = Go.Nilo.enc_share_Truth z := by
  obtain ⟨xs, n', -, -, hl, hlen, hf⟩ := DataW.trod_struct Try.underlying97 h
  rw [cells97] at hl
  obtain ⟨c0, c1, rfl⟩ := Go.Nilo.list2 hl
  obtain ⟨y0, y1, rfl⟩ := Go.Nilo.list2 (show xs.length = 2 from hlen)
  have h0 : DataW.trod ec Try.prog w base spare held n' 3 (List.take (Try.prog.cellsOf 3) (List.drop 0 [c0, c1])) = some y0 := hf 0 _ rfl
  rw [cells3] at h0
  obtain ⟨z0, e0⟩ := cel3 h0
  have h1 : DataW.trod ec Try.prog w base spare held n' 3 (List.take (Try.prog.cellsOf 3) (List.drop 1 [c0, c1])) = some y1 := hf 1 _ rfl
  rw [cells3] at h1
  obtain ⟨z1, e1⟩ := cel3 h1
  have e0 : [c0] = _ := e0
  have e1 : [c1] = _ := e1
  refine ⟨⟨z0, z1⟩, ?_⟩
  show [c0] ++ [c1] = _
  rw [e0, e1]
  rfl
end

open Go.Nilo (ctx_start) in
set_option maxRecDepth 100000 in
theorem lifted (os : Os) (started : os.Started) (H : Type) (enc : TypeId × Value → H) :
    ReturnsInHanded {} Try.checked os 8 .any (Rows.shareDebtsSpec.pre6 enc Try.prog Try.f8 Rows.shareDebtsRow.domain false) (Rows.shareDebtsSpec.post enc Try.prog Try.f8 false true false false) := by
  refine returnsInHanded_of_change (C := Try.checked) own started (by kernel_rfl) Try.func8
    (ChangeSpec.witness6 (enc := enc) (C := Try.checked) false ⟨#[], #[.agg #[.slice none 0 0, .int .i64 0], .int .i64 0, .agg #[.int .i64 0, .int .i64 0], .slice none 0 0, .slice none 0 0], []⟩ 8 (by kernel_rfl) (by kernel_rfl) (by kernel_rfl) (by kernel_rfl)) ?_
  intro W base args ds gs before hval0 hW hcnd _
  have hval : ∀ (j : Nat) t v, Try.f8.params[j]? = some t → args[j]? = some v → Value.okWide Try.prog W .any base t v := hval0
  have hW' := hW
  obtain ⟨p, q, hA0, hV, rfl, hfz, hnd⟩ := hW
  have hA : DataW.TrodAll enc Try.prog W 0 (fun _ => true) true Try.f8.params.toList args.toList ds p := hA0
  rw [Try.params8] at hA hval
  obtain ⟨v0, vs0, d0, ds0, p0, q0, hargs, rfl, rfl, h0, r0'⟩ := trodAll_cons hA
  obtain ⟨v1, vs1, d1, ds1, p1, q1, rfl, rfl, rfl, h1, r1'⟩ := trodAll_cons r0'
  obtain ⟨v2, vs2, d2, ds2, p2, q2, rfl, rfl, rfl, h2, r2'⟩ := trodAll_cons r1'
  obtain ⟨v3, vs3, d3, ds3, p3, q3, rfl, rfl, rfl, h3, r3'⟩ := trodAll_cons r2'
  obtain ⟨v4, vs4, d4, ds4, p4, q4, rfl, rfl, rfl, h4, r4'⟩ := trodAll_cons r3'
  obtain ⟨rfl, rfl, rfl⟩ := trodAll_nil r4'
  obtain rfl : args = #[v0, v1, v2, v3, v4] := by cases args; simp_all
  obtain ⟨rfl, rfl⟩ := trodVars_none hV
  have k0 := h0
  have lt0 : ∀ x ∈ p0, x.block < W.heap.size := by obtain ⟨m, hm⟩ := k0; exact DataW.trod_lt m _ _ _ hm
  obtain ⟨arr0, rfl, hsz0⟩ := okWide_struct Try.underlying88 (hval 0 88 v0 rfl rfl)
  rw [cells88] at hsz0
  obtain ⟨c1, c2, rfl⟩ := Go.Nilo.arr2 hsz0
  obtain ⟨fu0, hfu0⟩ := h0
  replace hfu0 : DataW.trod enc Try.prog W 0 (fun _ => true) true fu0 88 [c1, c2] = some (d0, p0) := hfu0
  obtain ⟨xs3, n4, -, -, -, hlen6, hf5⟩ := DataW.trod_struct Try.underlying88 hfu0
  obtain ⟨y7, y8, rfl⟩ := Go.Nilo.list2 (show xs3.length = 2 from hlen6)
  have h9 : DataW.trod enc Try.prog W 0 (fun _ => true) true n4 86 (List.take (Try.prog.cellsOf 86) (List.drop 0 [c1, c2])) = some y7 := hf5 0 _ rfl
  rw [cells86] at h9
  replace h9 : DataW.trod enc Try.prog W 0 (fun _ => true) true n4 86 [c1] = some y7 := h9
  have h10 : DataW.trod enc Try.prog W 0 (fun _ => true) true n4 3 (List.take (Try.prog.cellsOf 3) (List.drop 1 [c1, c2])) = some y8 := hf5 1 _ rfl
  rw [cells3] at h10
  replace h10 : DataW.trod enc Try.prog W 0 (fun _ => true) true n4 3 [c2] = some y8 := h10
  obtain ⟨a11, c12, l13, he, r14⟩ := Go.Nilo.rd_slice Go.Nilo.enc_share_Point (fun _ => rfl) (by decide) Try.underlying86 cells116 (fun _ _ _ h => cel116 h) h9
  obtain rfl : c1 = .slice a11 l13.length c12 := (List.cons.inj he).1
  obtain ⟨z15, he⟩ := cel3 h10
  obtain rfl : c2 = .int .i64 z15 := (List.cons.inj he).1
  have k1 := h1
  have lt1 : ∀ x ∈ p1, x.block < W.heap.size := by obtain ⟨m, hm⟩ := k1; exact DataW.trod_lt m _ _ _ hm
  obtain ⟨z16, rfl, -, -, -⟩ := open_int Try.underlying3 (hval 1 3 v1 rfl rfl) h1
  have k2 := h2
  have lt2 : ∀ x ∈ p2, x.block < W.heap.size := by obtain ⟨m, hm⟩ := k2; exact DataW.trod_lt m _ _ _ hm
  obtain ⟨arr2, rfl, hsz2⟩ := okWide_struct Try.underlying26 (hval 2 26 v2 rfl rfl)
  rw [cells26] at hsz2
  obtain ⟨c17, c18, rfl⟩ := Go.Nilo.arr2 hsz2
  obtain ⟨fu2, hfu2⟩ := h2
  replace hfu2 : DataW.trod enc Try.prog W 0 (fun _ => true) true fu2 26 [c17, c18] = some (d2, p2) := hfu2
  obtain ⟨xs19, n20, -, -, -, hlen22, hf21⟩ := DataW.trod_struct Try.underlying26 hfu2
  obtain ⟨y23, y24, rfl⟩ := Go.Nilo.list2 (show xs19.length = 2 from hlen22)
  have h25 : DataW.trod enc Try.prog W 0 (fun _ => true) true n20 3 (List.take (Try.prog.cellsOf 3) (List.drop 0 [c17, c18])) = some y23 := hf21 0 _ rfl
  rw [cells3] at h25
  replace h25 : DataW.trod enc Try.prog W 0 (fun _ => true) true n20 3 [c17] = some y23 := h25
  have h26 : DataW.trod enc Try.prog W 0 (fun _ => true) true n20 3 (List.take (Try.prog.cellsOf 3) (List.drop 1 [c17, c18])) = some y24 := hf21 1 _ rfl
  rw [cells3] at h26
  replace h26 : DataW.trod enc Try.prog W 0 (fun _ => true) true n20 3 [c18] = some y24 := h26
  obtain ⟨z27, he⟩ := cel3 h25
  obtain rfl : c17 = .int .i64 z27 := (List.cons.inj he).1
  obtain ⟨z28, he⟩ := cel3 h26
  obtain rfl : c18 = .int .i64 z28 := (List.cons.inj he).1
  have k3 := h3
  have lt3 : ∀ x ∈ p3, x.block < W.heap.size := by obtain ⟨m, hm⟩ := k3; exact DataW.trod_lt m _ _ _ hm
  obtain ⟨a29, len30, c31, rfl⟩ := okWide_slice Try.underlying89 (hval 3 89 v3 rfl rfl)
  obtain ⟨fu3, hfu3⟩ := h3
  obtain ⟨_, _, l32, he, r33⟩ := Go.Nilo.rd_slice Go.Nilo.enc_share_Year (fun _ => rfl) (by decide) Try.underlying89 cells94 (fun _ _ _ h => cel94 h) hfu3
  simp [Value.cells] at he
  obtain ⟨rfl, rfl, rfl⟩ := he
  have k4 := h4
  have lt4 : ∀ x ∈ p4, x.block < W.heap.size := by obtain ⟨m, hm⟩ := k4; exact DataW.trod_lt m _ _ _ hm
  obtain ⟨a34, len35, c36, rfl⟩ := okWide_slice Try.underlying90 (hval 4 90 v4 rfl rfl)
  obtain ⟨fu4, hfu4⟩ := h4
  obtain ⟨_, _, l37, he, r38⟩ := Go.Nilo.rd_slice Go.Nilo.enc_share_Truth (fun _ => rfl) (by decide) Try.underlying90 cells97 (fun _ _ _ h => cel97 h) hfu4
  simp [Value.cells] at he
  obtain ⟨rfl, rfl, rfl⟩ := he
  clear hA0 hval0
  refine (Go.Nilo.law09_ShareDebts_ok (N := 60) (⟨l13, z15⟩ : Go.Nilo.share_Border) z16 (⟨z27, z28⟩ : Go.Nilo.api_Span) l32 l37 r14 r33 r38 (ctx_start W) (Go.Nilo.debts_true (⟨l13, z15⟩ : Go.Nilo.share_Border) z16 (⟨z27, z28⟩ : Go.Nilo.api_Span) l32 l37)).mono fun e W' ⟨he, hcx⟩ => ?_
  have bel := hcx.behind
  subst he
  exact ⟨_, rfl, _, _, _, [], _, [], hW', trodAll_mk1 (shut_bool Try.underlying4 _), (trodAll_cons_mk (Below.trod laidOut (by kernel_rfl) (of_decide_eq_true (by kernel_rfl)) k0 bel lt0) (trodAll_cons_mk (Below.trod laidOut (by kernel_rfl) (of_decide_eq_true (by kernel_rfl)) k1 bel lt1) (trodAll_cons_mk (Below.trod laidOut (by kernel_rfl) (of_decide_eq_true (by kernel_rfl)) k2 bel lt2) (trodAll_cons_mk (Below.trod laidOut (by kernel_rfl) (of_decide_eq_true (by kernel_rfl)) k3 bel lt3) (trodAll_cons_mk (Below.trod laidOut (by kernel_rfl) (of_decide_eq_true (by kernel_rfl)) k4 bel lt4) trodAll_mk0))))), rfl, bel.frame _, fun h => by cases h⟩

theorem over : Rows.shareDebtsRow.holds Try.pinned (OpenSpec.ofChange Rows.shareDebtsSpec) :=
  OpenClaim.holds_of_wide 8 Try.f8 rfl rfl rfl rfl rfl rfl rfl ⟨rfl, rfl, rfl, rfl, rfl⟩ rfl rfl rfl rfl rfl (by kernel_rfl) Try.func8 (by kernel_rfl)
    (of_decide_eq_true (by kernel_rfl)) (by unfold Func.isWrapper; first | (rw [if_pos (by decide +kernel)]; kernel_rfl) | (rw [if_neg (by decide +kernel)]; exact ⟨rfl, rfl⟩))
    (fun os started H enc _ => lifted os started H enc)

/-- The statement. -/
theorem proved : Rows.ShareDebtsSaid := over
#print axioms proved
end Go.Proofs.Ytlbmcojegiabpaa.shareDebts
