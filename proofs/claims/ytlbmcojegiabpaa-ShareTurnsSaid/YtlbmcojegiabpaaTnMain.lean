/-
  ShareTurns returns true for all its arguments. Conditions: none.
-/
import Derived.Test.YtlbmcojegiabpaaRows
import Derived.WalkKit
import Derived.ProofKit
import Derived.OpenShut
import Derived.ShutString
import Derived.ChangeOld
import Derived.Below
import Derived.Test.YtlbmcojegiabpaaTnL14
namespace Go.Proofs.Ytlbmcojegiabpaa.shareTurns
open Go.ChangeShapes Go.WideShapes Go.ChangeAt Go.RowKit
set_option linter.unusedVariables false

theorem own : ownKnob Try.prog.godebug = none := by kernel_rfl
theorem laidOut : laidOutB Try.prog = true := by kernel_rfl

theorem cells3 : Try.prog.cellsOf 3 = 1 := by kernel_rfl
theorem cells36 : Try.prog.cellsOf 36 = 1 := by kernel_rfl
theorem cells59 : Try.prog.cellsOf 59 = 3 := by kernel_rfl
theorem cells65 : Try.prog.cellsOf 65 = 1 := by kernel_rfl
theorem cells71 : Try.prog.cellsOf 71 = 2 := by kernel_rfl

section
variable {H : Type} {ec : TypeId × Value → H} {w : World} {base : Nat} {spare : Nat → Bool} {held : Bool}
theorem cel3 {n : Nat} {cs : List Value} {y : DataW H × List MemPlace} (h : DataW.trod ec Try.prog w base spare held n 3 cs = some y) : ∃ z : Int, cs = Go.Nilo.encI_i64 z := by
  obtain ⟨z, rfl, -⟩ := DataW.trod_int Try.underlying3 h
  exact ⟨z, rfl⟩
theorem cel65 {n : Nat} {cs : List Value} {y : DataW H × List MemPlace} (h : DataW.trod ec Try.prog w base spare held n 65 cs = some y) : ∃ z : Int, cs = Go.Nilo.encI_i64 z := by
  obtain ⟨z, rfl, -⟩ := DataW.trod_int Try.underlying65 h
  exact ⟨z, rfl⟩
end

open Go.Nilo (ctx_start) in
set_option maxRecDepth 100000 in
theorem lifted (os : Os) (started : os.Started) (H : Type) (enc : TypeId × Value → H) :
    ReturnsInHanded {} Try.checked os 6 .any (Rows.shareTurnsSpec.pre6 enc Try.prog Try.f6 Rows.shareTurnsRow.domain false) (Rows.shareTurnsSpec.post enc Try.prog Try.f6 false true false false) := by
  refine returnsInHanded_of_change (C := Try.checked) own started (by kernel_rfl) Try.func6
    (ChangeSpec.witness6 (enc := enc) (C := Try.checked) false ⟨#[], #[.int .i64 0, .agg #[.int .i64 0, .int .i64 0, .slice none 0 0], .slice none 0 0, .slice none 0 0, .int .i64 0, .int .i64 0, .agg #[.int .i64 0, .int .i64 0]], []⟩ 8 (by kernel_rfl) (by kernel_rfl) (by kernel_rfl) (by kernel_rfl)) ?_
  intro W base args ds gs before hval0 hW hcnd _
  have hval : ∀ (j : Nat) t v, Try.f6.params[j]? = some t → args[j]? = some v → Value.okWide Try.prog W .any base t v := hval0
  have hW' := hW
  obtain ⟨p, q, hA0, hV, rfl, hfz, hnd⟩ := hW
  have hA : DataW.TrodAll enc Try.prog W 0 (fun _ => true) true Try.f6.params.toList args.toList ds p := hA0
  rw [Try.params6] at hA hval
  obtain ⟨v0, vs0, d0, ds0, p0, q0, hargs, rfl, rfl, h0, r0'⟩ := trodAll_cons hA
  obtain ⟨v1, vs1, d1, ds1, p1, q1, rfl, rfl, rfl, h1, r1'⟩ := trodAll_cons r0'
  obtain ⟨v2, vs2, d2, ds2, p2, q2, rfl, rfl, rfl, h2, r2'⟩ := trodAll_cons r1'
  obtain ⟨v3, vs3, d3, ds3, p3, q3, rfl, rfl, rfl, h3, r3'⟩ := trodAll_cons r2'
  obtain ⟨v4, vs4, d4, ds4, p4, q4, rfl, rfl, rfl, h4, r4'⟩ := trodAll_cons r3'
  obtain ⟨v5, vs5, d5, ds5, p5, q5, rfl, rfl, rfl, h5, r5'⟩ := trodAll_cons r4'
  obtain ⟨v6, vs6, d6, ds6, p6, q6, rfl, rfl, rfl, h6, r6'⟩ := trodAll_cons r5'
  obtain ⟨rfl, rfl, rfl⟩ := trodAll_nil r6'
  obtain rfl : args = #[v0, v1, v2, v3, v4, v5, v6] := by cases args; simp_all
  obtain ⟨rfl, rfl⟩ := trodVars_none hV
  have k0 := h0
  have lt0 : ∀ x ∈ p0, x.block < W.heap.size := by obtain ⟨m, hm⟩ := k0; exact DataW.trod_lt m _ _ _ hm
  obtain ⟨z1, rfl, -, -, -⟩ := open_int Try.underlying3 (hval 0 3 v0 rfl rfl) h0
  have k1 := h1
  have lt1 : ∀ x ∈ p1, x.block < W.heap.size := by obtain ⟨m, hm⟩ := k1; exact DataW.trod_lt m _ _ _ hm
  obtain ⟨arr1, rfl, hsz1⟩ := okWide_struct Try.underlying59 (hval 1 59 v1 rfl rfl)
  rw [cells59] at hsz1
  obtain ⟨c2, c3, c4, rfl⟩ := Go.Nilo.arr3 hsz1
  obtain ⟨fu1, hfu1⟩ := h1
  replace hfu1 : DataW.trod enc Try.prog W 0 (fun _ => true) true fu1 59 [c2, c3, c4] = some (d1, p1) := hfu1
  obtain ⟨xs5, n6, -, -, -, hlen8, hf7⟩ := DataW.trod_struct Try.underlying59 hfu1
  obtain ⟨y9, y10, y11, rfl⟩ := Go.Nilo.list3 (show xs5.length = 3 from hlen8)
  have h12 : DataW.trod enc Try.prog W 0 (fun _ => true) true n6 3 (List.take (Try.prog.cellsOf 3) (List.drop 0 [c2, c3, c4])) = some y9 := hf7 0 _ rfl
  rw [cells3] at h12
  replace h12 : DataW.trod enc Try.prog W 0 (fun _ => true) true n6 3 [c2] = some y9 := h12
  have h13 : DataW.trod enc Try.prog W 0 (fun _ => true) true n6 3 (List.take (Try.prog.cellsOf 3) (List.drop 1 [c2, c3, c4])) = some y10 := hf7 1 _ rfl
  rw [cells3] at h13
  replace h13 : DataW.trod enc Try.prog W 0 (fun _ => true) true n6 3 [c3] = some y10 := h13
  have h14 : DataW.trod enc Try.prog W 0 (fun _ => true) true n6 36 (List.take (Try.prog.cellsOf 36) (List.drop 2 [c2, c3, c4])) = some y11 := hf7 2 _ rfl
  rw [cells36] at h14
  replace h14 : DataW.trod enc Try.prog W 0 (fun _ => true) true n6 36 [c4] = some y11 := h14
  obtain ⟨z15, he⟩ := cel3 h12
  obtain rfl : c2 = .int .i64 z15 := (List.cons.inj he).1
  obtain ⟨z16, he⟩ := cel3 h13
  obtain rfl : c3 = .int .i64 z16 := (List.cons.inj he).1
  obtain ⟨a17, c18, l19, he, r20⟩ := Go.Nilo.rd_slice Go.Nilo.encI_i64 (fun _ => rfl) (by decide) Try.underlying36 cells3 (fun _ _ _ h => cel3 h) h14
  obtain rfl : c4 = .slice a17 l19.length c18 := (List.cons.inj he).1
  have k2 := h2
  have lt2 : ∀ x ∈ p2, x.block < W.heap.size := by obtain ⟨m, hm⟩ := k2; exact DataW.trod_lt m _ _ _ hm
  obtain ⟨a21, len22, c23, rfl⟩ := okWide_slice Try.underlying36 (hval 2 36 v2 rfl rfl)
  obtain ⟨fu2, hfu2⟩ := h2
  obtain ⟨_, _, l24, he, r25⟩ := Go.Nilo.rd_slice Go.Nilo.encI_i64 (fun _ => rfl) (by decide) Try.underlying36 cells3 (fun _ _ _ h => cel3 h) hfu2
  simp [Value.cells] at he
  obtain ⟨rfl, rfl, rfl⟩ := he
  have k3 := h3
  have lt3 : ∀ x ∈ p3, x.block < W.heap.size := by obtain ⟨m, hm⟩ := k3; exact DataW.trod_lt m _ _ _ hm
  obtain ⟨a26, len27, c28, rfl⟩ := okWide_slice Try.underlying36 (hval 3 36 v3 rfl rfl)
  obtain ⟨fu3, hfu3⟩ := h3
  obtain ⟨_, _, l29, he, r30⟩ := Go.Nilo.rd_slice Go.Nilo.encI_i64 (fun _ => rfl) (by decide) Try.underlying36 cells3 (fun _ _ _ h => cel3 h) hfu3
  simp [Value.cells] at he
  obtain ⟨rfl, rfl, rfl⟩ := he
  have k4 := h4
  have lt4 : ∀ x ∈ p4, x.block < W.heap.size := by obtain ⟨m, hm⟩ := k4; exact DataW.trod_lt m _ _ _ hm
  obtain ⟨z31, rfl, -, -, -⟩ := open_int Try.underlying3 (hval 4 3 v4 rfl rfl) h4
  have k5 := h5
  have lt5 : ∀ x ∈ p5, x.block < W.heap.size := by obtain ⟨m, hm⟩ := k5; exact DataW.trod_lt m _ _ _ hm
  obtain ⟨z32, rfl, -, -, -⟩ := open_int Try.underlying65 (hval 5 65 v5 rfl rfl) h5
  have k6 := h6
  have lt6 : ∀ x ∈ p6, x.block < W.heap.size := by obtain ⟨m, hm⟩ := k6; exact DataW.trod_lt m _ _ _ hm
  obtain ⟨arr6, rfl, hsz6⟩ := okWide_struct Try.underlying71 (hval 6 71 v6 rfl rfl)
  rw [cells71] at hsz6
  obtain ⟨c33, c34, rfl⟩ := Go.Nilo.arr2 hsz6
  obtain ⟨fu6, hfu6⟩ := h6
  replace hfu6 : DataW.trod enc Try.prog W 0 (fun _ => true) true fu6 71 [c33, c34] = some (d6, p6) := hfu6
  obtain ⟨xs35, n36, -, -, -, hlen38, hf37⟩ := DataW.trod_struct Try.underlying71 hfu6
  obtain ⟨y39, y40, rfl⟩ := Go.Nilo.list2 (show xs35.length = 2 from hlen38)
  have h41 : DataW.trod enc Try.prog W 0 (fun _ => true) true n36 3 (List.take (Try.prog.cellsOf 3) (List.drop 0 [c33, c34])) = some y39 := hf37 0 _ rfl
  rw [cells3] at h41
  replace h41 : DataW.trod enc Try.prog W 0 (fun _ => true) true n36 3 [c33] = some y39 := h41
  have h42 : DataW.trod enc Try.prog W 0 (fun _ => true) true n36 3 (List.take (Try.prog.cellsOf 3) (List.drop 1 [c33, c34])) = some y40 := hf37 1 _ rfl
  rw [cells3] at h42
  replace h42 : DataW.trod enc Try.prog W 0 (fun _ => true) true n36 3 [c34] = some y40 := h42
  obtain ⟨z43, he⟩ := cel3 h41
  obtain rfl : c33 = .int .i64 z43 := (List.cons.inj he).1
  obtain ⟨z44, he⟩ := cel3 h42
  obtain rfl : c34 = .int .i64 z44 := (List.cons.inj he).1
  clear hA0 hval0
  refine (Go.Nilo.law09_ShareTurns_ok (N := 60) z1 (⟨z15, z16, l19⟩ : Go.Nilo.share_Pact) l24 l29 z31 z32 (⟨z43, z44⟩ : Go.Nilo.api_Ratio) r20 r25 r30 (ctx_start W) (Go.Nilo.turns_true z1 (⟨z15, z16, l19⟩ : Go.Nilo.share_Pact) l24 l29 z31 z32 (⟨z43, z44⟩ : Go.Nilo.api_Ratio))).mono fun e W' ⟨he, hcx⟩ => ?_
  have bel := hcx.behind
  subst he
  exact ⟨_, rfl, _, _, _, [], _, [], hW', trodAll_mk1 (shut_bool Try.underlying4 _), (trodAll_cons_mk (Below.trod laidOut (by kernel_rfl) (of_decide_eq_true (by kernel_rfl)) k0 bel lt0) (trodAll_cons_mk (Below.trod laidOut (by kernel_rfl) (of_decide_eq_true (by kernel_rfl)) k1 bel lt1) (trodAll_cons_mk (Below.trod laidOut (by kernel_rfl) (of_decide_eq_true (by kernel_rfl)) k2 bel lt2) (trodAll_cons_mk (Below.trod laidOut (by kernel_rfl) (of_decide_eq_true (by kernel_rfl)) k3 bel lt3) (trodAll_cons_mk (Below.trod laidOut (by kernel_rfl) (of_decide_eq_true (by kernel_rfl)) k4 bel lt4) (trodAll_cons_mk (Below.trod laidOut (by kernel_rfl) (of_decide_eq_true (by kernel_rfl)) k5 bel lt5) (trodAll_cons_mk (Below.trod laidOut (by kernel_rfl) (of_decide_eq_true (by kernel_rfl)) k6 bel lt6) trodAll_mk0))))))), rfl, bel.frame _, fun h => by cases h⟩

theorem over : Rows.shareTurnsRow.holds Try.pinned (OpenSpec.ofChange Rows.shareTurnsSpec) :=
  OpenClaim.holds_of_wide 6 Try.f6 rfl rfl rfl rfl rfl rfl rfl ⟨rfl, rfl, rfl, rfl, rfl⟩ rfl rfl rfl rfl rfl (by kernel_rfl) Try.func6 (by kernel_rfl)
    (of_decide_eq_true (by kernel_rfl)) (by unfold Func.isWrapper; first | (rw [if_pos (by decide +kernel)]; kernel_rfl) | (rw [if_neg (by decide +kernel)]; exact ⟨rfl, rfl⟩))
    (fun os started H enc _ => lifted os started H enc)

/-- The statement. -/
theorem proved : Rows.ShareTurnsSaid := over
#print axioms proved
end Go.Proofs.Ytlbmcojegiabpaa.shareTurns
