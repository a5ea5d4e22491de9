/-
 What functions of the Go text compute, as plain functions, and that they do, part 2 of 5. Conditions: what each theorem names.
-/
import Derived.Test.YtepopogbmjfpeaaMe1
import Derived.Test.YtepopogbmjfpeaaProg
set_option linter.unusedVariables false
set_option linter.unusedSimpArgs false
set_option maxRecDepth 100000
set_option maxHeartbeats 4000000
namespace Go.Nilo
open Go.Proofs


def slices_Insert_Lshift_Mark_shift_Mark (N : Nat) (s_ : List shift_Mark) (i_ : Int) (v : List shift_Mark) : Option ((List shift_Mark)) :=
 insO s_ i_ v
/-! ### Walks of the library -/
section
open Go.RowKit Go.Lib
theorem iX39 : (Try.prog.info? 77).map (fun i => (i.zero,i.size,i.bytes)) = some (some (Value.agg #[.int .i64 0,.int .i64 0]),2,16) := by kernel_rfl
theorem soX39 : ∀ w : World,(Go.sizeOf 77).run Try.prog w = .ok 2 w := fun w => by
 obtain ⟨i0,hi0,hz0,hz1,hz2⟩ := info_parts iX39
 simp [Go.sizeOf,typeInfo,hi0,hz1]
theorem szX39 : (Try.prog.info? 77).map (·.size) = some 2 := by kernel_rfl
set_option maxHeartbeats 4000000 in
set_option maxRecDepth 1000000 in
theorem ins_shift39 (b n c i vb m vc : Nat) (cs vs : List Value) (w : World) (hi : i < n) (hm : 0 < m) (hroom : n + m ≤ c) (hc63 : c ≤ 9223372036854775807) (hvb : vb ≠ b)
  (hcl : cs.length = n * 2) (hvl : vs.length = m * 2)
  (hcs : ∀ j v,cs[j]? = some v → w.cell? ⟨b,j,none⟩ = some v) (hsp : ∀ j,j < (n + m) * 2 → (w.cell? ⟨b,j,none⟩).isSome = true) (hfz : ∀ j,j < (n + m) * 2 → w.frozen? ⟨b,j,none⟩ = false)
  (hvs : ∀ j v,vs[j]? = some v → w.cell? ⟨vb,j,none⟩ = some v) (h1c : ∀ v ∈ cs,v.oneCell' = true) (h1v : ∀ v ∈ vs,v.oneCell' = true)
  (tA tB : TypeId) (kA kB : Nat) (hsa : w.shape? vb = some (tA,kA)) (hsb : w.shape? b = some (tB,kB)) (hkB : kB ≠ 0) (hfa : w.frozen? ⟨vb,0,none⟩ = false) (hfe : w.frozen? ⟨vb,kA,none⟩ = false) :
  Calls Try.prog 39 #[.slice (some ⟨b,0,none⟩) n c,.int .i64 i,.slice (some ⟨vb,0,none⟩) m vc] w fun e w' =>
   e = .returned (.slice (some ⟨b,0,none⟩) (n + m) c) ∧ w' = (w.drew.setCells b ((i + m) * 2) (cs.drop (i * 2))).setCells b (i * 2) vs := by
 have hz1 : ¬ ((m : Int) = 0) := by omega
 have hz2 : ¬ ((i : Int) = (n : Int)) := by omega
 have hov : ∀ lb cb,(callFunc 86 #[.slice (some ⟨vb,0,none⟩) m vc,.slice (some ⟨b,(i + m) * 2,none⟩) lb cb]).run Try.prog w = .ok (.value (.bool false)) w := fun lb cb => by
  rw [run_callFunc_extern Try.func86 (by kernel_rfl) (by kernel_rfl) (by kernel_rfl) (e := Extern.SlicesOverlaps.overlaps #[22,22] #[4]) (by kernel_rfl),
   Lib.run_overlaps_apart w 22 4 77 Try.underlying22 2 soX39 ⟨vb,0,none⟩ ⟨b,(i + m) * 2,none⟩ m vc lb cb hvb tA tB kA kB hsa hsb hkB hfa hfe]
  rfl
 have hdl : (cs.drop (i * 2)).length = (n - i) * 2 := by rw [List.length_drop,hcl]; omega
 have hw1 : IntKind.i64.wrap ((i : Int) + (m : Int)) = (i : Int) + (m : Int) := by rw [IntKind.wrap_i64]; omega
 have hb1 : (0 : Int) ≤ (i : Int) + (m : Int) := by omega
 have hin : i ≤ n := by omega
 have htn : ((i : Int) + (m : Int)).toNat = i + m := by omega
 have hb2 : ¬ (c = i + m) := by omega
 have hb3 : (i : Int) ≤ (n : Int) + (m : Int) := by omega
 have hb4 : ¬ (c = i) := by omega
 have hmin1 : Nat.min (n + m - i) (n + m - (i + m)) = n - i := by simp only [Nat.min_def]; split <;> omega
 have hmin2 : Nat.min m (n + m - i) = m := by simp only [Nat.min_def]; split <;> omega
 have hcp1 : ∀ ty dc sc,(Builtin.copy_ #[22,22] ty #[.slice (some ⟨b,(i + m) * 2,none⟩) (n + m - (i + m)) dc,.slice (some ⟨b,i * 2,none⟩) (n + m - i) sc]).run Try.prog w.drew = .ok (goInt (Nat.min (n + m - i) (n + m - (i + m)))) (w.drew.setCells b ((i + m) * 2) (cs.drop (i * 2))) := fun ty dc sc =>
  Go.Nilo.run_copy_rows w.drew _ _ ty 77 b ((i + m) * 2) (n + m - (i + m)) dc ⟨b,i * 2,none⟩ (n + m - i) sc 2 (cs.drop (i * 2)) Try.underlying22 szX39 (by rw [hdl,hmin1])
   (fun j v hj => by rw [Addr.add_lit]; exact hcs (i * 2 + j) v (by rwa [List.getElem?_drop] at hj))
   (fun j hj => hsp _ (by omega)) (fun j hj => hfz _ (by omega)) (fun v hv => h1c v (List.mem_of_mem_drop hv))
 obtain ⟨W1,hW1⟩ : ∃ W1,W1 = w.drew.setCells b ((i + m) * 2) (cs.drop (i * 2)) := ⟨_,rfl⟩
 have hsp1 : ∀ k,k < (n + m) * 2 → (W1.cell? ⟨b,k,none⟩).isSome = true := fun k hk => by
  rw [hW1]
  exact Go.Proofs.isSome_setCells b (cs.drop (i * 2)) ((i + m) * 2) w.drew (fun j hj => hsp _ (by omega)) _ (hsp k hk)
 have hcp2 : ∀ (W : World),(∀ x,W.cell? x = W1.cell? x) → (∀ x,W.frozen? x = W1.frozen? x) → ∀ ty dc,(Builtin.copy_ #[22,22] ty #[.slice (some ⟨b,i * 2,none⟩) (n + m - i) dc,.slice (some ⟨vb,0,none⟩) m vc]).run Try.prog W = .ok (goInt (Nat.min m (n + m - i))) (W.setCells b (i * 2) vs) := fun W hWc hWf ty dc =>
  Go.Nilo.run_copy_rows W _ _ ty 77 b (i * 2) (n + m - i) dc ⟨vb,0,none⟩ m vc 2 vs Try.underlying22 szX39 (by rw [hvl,hmin2])
   (fun j v hj => by
    rw [Addr.add_lit,hWc,hW1,World.cell?_setCells_out b _ _ _ _ (fun h _ => absurd h hvb),Nat.zero_add]
    exact hvs j v hj)
   (fun j hj => by rw [hWc]; exact hsp1 _ (by omega)) (fun j hj => by rw [hWf,hW1,World.frozen?_setCells]; exact hfz _ (by omega)) h1v
 rw [← hW1] at hcp1
 clear hmin1 hmin2
 go_enter Try.func39,Try.ntmps39
 go_wp2_with (simp only [hov])
 go_region_law (refine Go.Proofs.step_copy_runI rfl _ _ 22 22 rfl _ _ (by simp [Act.eval,Act.put]) (by simp [Act.eval,Act.put]) (hcp1 _ _ _) ?_)
 go_wp2_with (at_builtin; refine Go.Proofs.wpList_copy_runI _ rfl _ _ 22 22 rfl _ _ rfl rfl (hcp2 _ (fun _ => rfl) (fun _ => rfl) _ _) ?_)
 go_ret
 first | exact ⟨rfl,rfl⟩ | exact ⟨rfl,by rw [hW1]⟩

set_option maxHeartbeats 4000000 in
set_option maxRecDepth 1000000 in
theorem ins_grow39 (b n c i vb m vc : Nat) (cs vs : List Value) (w : World) (hi : i < n) (hm : 0 < m) (hnc : n ≤ c) (hroom : c < n + m) (hbig : (n + m) * 16 ≤ 140737488355328)
  (hcl : cs.length = n * 2) (hvl : vs.length = m * 2)
  (hcs : ∀ j v,cs[j]? = some v → w.cell? ⟨b,j,none⟩ = some v)
  (hvs : ∀ j v,vs[j]? = some v → w.cell? ⟨vb,j,none⟩ = some v) (h1c : ∀ v ∈ cs,v.oneCell' = true) (h1v : ∀ v ∈ vs,v.oneCell' = true) (hbw : b < w.heap.size) (hvw : vb < w.heap.size) :
  Calls Try.prog 39 #[.slice (some ⟨b,0,none⟩) n c,.int .i64 i,.slice (some ⟨vb,0,none⟩) m vc] w fun e w' =>
   e = .returned (.slice (some ⟨w.heap.size,0,none⟩) (n + m) (grownCap w (n + m) c 77)) ∧
   w' = (((w.alloc (.cells ((cs.take (i * 2)).toArray ++ Builtin.zeroCells (Value.agg #[.int .i64 0,.int .i64 0]).cells (n + m - i) ++ Builtin.zeroCells (Value.agg #[.int .i64 0,.int .i64 0]).cells (grownCap w (n + m) c 77 - (n + m))) 77)).drew.setCells w.heap.size (i * 2) vs).drew).setCells w.heap.size ((i + m) * 2) (cs.drop (i * 2)) := by
 obtain ⟨i0,hi0,hz0,hzs,hzb⟩ := info_parts iX39
 have hz1 : ¬ ((m : Int) = 0) := by omega
 have hz2 : ¬ ((i : Int) = (n : Int)) := by omega
 have hz3 : (c : Int) < (n : Int) + (m : Int) := by omega
 have hkk : (n : Int) + (m : Int) - (i : Int) = ((n + m - i : Nat) : Int) := by omega
 have hik : i + (n + m - i) = n + m := by omega
 have hold : (Builtin.firstCells i0.size i (.slice (some ⟨b,0,none⟩) i c)).run Try.prog w.drew = .ok (cs.take (i * 2)).toArray w.drew := by
  rw [hzs]
  exact run_firstCells_some w.drew 2 i ⟨b,0,none⟩ i c (cs.take (i * 2)) (by rw [List.length_take]; omega) (fun j v hj => by
   rw [Addr.add_lit]
   rw [List.getElem?_take] at hj
   split at hj
   ·rw [Nat.zero_add]; exact hcs j v hj
   ·cases hj)
 have hrz : ∀ ty,(Builtin.append_ #[22,3] ty #[.slice (some ⟨b,0,none⟩) i c,.int .i64 ((n : Int) + (m : Int) - (i : Int))]).run Try.prog w =
   .ok (.slice (some ⟨w.heap.size,0,none⟩) (n + m) (grownCap w (n + m) c 77)) (w.drew.alloc (.cells ((cs.take (i * 2)).toArray ++ Builtin.zeroCells (Value.agg #[.int .i64 0,.int .i64 0]).cells (n + m - i) ++ Builtin.zeroCells (Value.agg #[.int .i64 0,.int .i64 0]).cells (grownCap w (n + m) c 77 - (n + m))) 77)) := fun ty => by
  have h := Lib.run_append_grow_zeros w 22 3 ty 77 i0 _ .i64 .i64 Try.underlying22 Try.underlying3 hi0 hz0 (some ⟨b,0,none⟩) i c (cs.take (i * 2)) hold (n + m - i) (by omega) (by omega) (by omega) (by omega) (by rw [hzb]; omega) (by rw [hzb,hik]; exact growslice_fits hroom hbig)
  rw [hik] at h
  rw [hkk]
  exact h
 obtain ⟨G,hG⟩ : ∃ G,G = grownCap w (n + m) c 77 := ⟨_,rfl⟩
 obtain ⟨ROW,hROW⟩ : ∃ ROW : Array Value,ROW = (cs.take (i * 2)).toArray ++ Builtin.zeroCells (Value.agg #[.int .i64 0,.int .i64 0]).cells (n + m - i) ++ Builtin.zeroCells (Value.agg #[.int .i64 0,.int .i64 0]).cells (G - (n + m)) := ⟨_,rfl⟩
 rw [← hG] at hrz ⊢
 rw [← hROW] at hrz ⊢
 have hRl : (n + m) * 2 ≤ ROW.size := by
  rw [hROW,Array.size_append,Array.size_append,size_zeroCells,size_zeroCells,List.size_toArray,List.length_take]
  have : (Value.agg #[.int .i64 0,.int .i64 0]).cells.size = 2 := by decide
  rw [this]
  omega
 obtain ⟨W1,hW1⟩ : ∃ W1,W1 = w.drew.alloc (.cells ROW 77) := ⟨_,rfl⟩
 rw [← hW1] at hrz
 have hN : ∀ j,j < (n + m) * 2 → (W1.cell? ⟨w.heap.size,j,none⟩).isSome = true := fun j hj => by
  rw [hW1,World.cell?_alloc_at (w := w.drew) ROW _ w.heap.size j rfl,Array.getElem?_eq_getElem (by omega)]; rfl
 have hNf : ∀ j,W1.frozen? ⟨w.heap.size,j,none⟩ = false := fun j => by rw [hW1]; exact World.frozen?_alloc_at (w := w.drew) ROW _ w.heap.size j rfl
 have hOb : ∀ j v,w.cell? ⟨b,j,none⟩ = some v → W1.cell? ⟨b,j,none⟩ = some v := fun j v h => by rw [hW1,World.cell?_alloc_past (w := w.drew) _ b j hbw]; exact h
 have hOv : ∀ j v,w.cell? ⟨vb,j,none⟩ = some v → W1.cell? ⟨vb,j,none⟩ = some v := fun j v h => by rw [hW1,World.cell?_alloc_past (w := w.drew) _ vb j hvw]; exact h
 have hmin1 : Nat.min m (n + m - i) = m := by simp only [Nat.min_def]; split <;> omega
 have hmin2 : Nat.min (n - i) (n + m - (i + m)) = n - i := by simp only [Nat.min_def]; split <;> omega
 have hcpA : ∀ (W : World),(∀ x,W.cell? x = W1.cell? x) → (∀ x,W.frozen? x = W1.frozen? x) → ∀ ty dc,(Builtin.copy_ #[22,22] ty #[.slice (some ⟨w.heap.size,i * 2,none⟩) (n + m - i) dc,.slice (some ⟨vb,0,none⟩) m vc]).run Try.prog W = .ok (goInt (Nat.min m (n + m - i))) (W.setCells w.heap.size (i * 2) vs) := fun W hWc hWf ty dc =>
  Go.Nilo.run_copy_rows W _ _ ty 77 w.heap.size (i * 2) (n + m - i) dc ⟨vb,0,none⟩ m vc 2 vs Try.underlying22 szX39 (by rw [hvl,hmin1])
   (fun j v hj => by rw [Addr.add_lit,hWc,Nat.zero_add]; exact hOv _ v (hvs j v hj))
   (fun j hj => by rw [hWc]; exact hN _ (by omega)) (fun j hj => by rw [hWf]; exact hNf _) h1v
 have hGn : n + m ≤ G := by rw [hG]; exact grownCap_ge w _ _ _
 have hG63 : G ≤ 9223372036854775807 := by
  have := grownCap_le_maxLen w (n + m) c 77 (by unfold maxLen; omega)
  rw [← hG] at this
  unfold maxLen at this
  omega
 have hGi : ¬ (G = i) := by omega
 have hGim : ¬ (G = i + m) := by omega
 have hci : ¬ (c = i) := by omega
 have hbN : b ≠ w.heap.size := by omega
 have hdl : (cs.drop (i * 2)).length = (n - i) * 2 := by rw [List.length_drop,hcl]; omega
 have hcpB : ∀ (W : World),(∀ x,W.cell? x = (W1.setCells w.heap.size (i * 2) vs).cell? x) → (∀ x,W.frozen? x = (W1.setCells w.heap.size (i * 2) vs).frozen? x) → ∀ ty dc sc,(Builtin.copy_ #[22,22] ty #[.slice (some ⟨w.heap.size,(i + m) * 2,none⟩) (n + m - (i + m)) dc,.slice (some ⟨b,i * 2,none⟩) (n - i) sc]).run Try.prog W = .ok (goInt (Nat.min (n - i) (n + m - (i + m)))) (W.setCells w.heap.size ((i + m) * 2) (cs.drop (i * 2))) := fun W hWc hWf ty dc sc =>
  Go.Nilo.run_copy_rows W _ _ ty 77 w.heap.size ((i + m) * 2) (n + m - (i + m)) dc ⟨b,i * 2,none⟩ (n - i) sc 2 (cs.drop (i * 2)) Try.underlying22 szX39 (by rw [hdl,hmin2])
   (fun j v hj => by
    rw [Addr.add_lit,hWc,World.cell?_setCells_out _ _ _ _ _ (fun h _ => absurd h hbN)]
    exact hOb _ v (hcs (i * 2 + j) v (by rwa [List.getElem?_drop] at hj)))
   (fun j hj => by rw [hWc]; exact Go.Proofs.isSome_setCells _ vs _ _ (fun t ht => hN _ (by omega)) _ (hN _ (by omega)))
   (fun j hj => by rw [hWf,World.frozen?_setCells]; exact hNf _) (fun v hv => h1c v (List.mem_of_mem_drop hv))
 subst hW1
 have hE1 : ∀ x,((w.alloc (.cells ROW 77)).drew).cell? x = (w.drew.alloc (.cells ROW 77)).cell? x := fun x => rfl
 have hE2 : ∀ x,((w.alloc (.cells ROW 77)).drew).frozen? x = (w.drew.alloc (.cells ROW 77)).frozen? x := fun x => rfl
 have hF1 : ∀ x,(((w.alloc (.cells ROW 77)).drew.setCells w.heap.size (i * 2) vs).drew).cell? x = ((w.drew.alloc (.cells ROW 77)).setCells w.heap.size (i * 2) vs).cell? x := fun x => rfl
 have hF2 : ∀ x,(((w.alloc (.cells ROW 77)).drew.setCells w.heap.size (i * 2) vs).drew).frozen? x = ((w.drew.alloc (.cells ROW 77)).setCells w.heap.size (i * 2) vs).frozen? x := fun x => rfl
 have hw1 : IntKind.i64.wrap ((i : Int) + (m : Int)) = (i : Int) + (m : Int) := by rw [IntKind.wrap_i64]; omega
 have hb1 : (0 : Int) ≤ (i : Int) + (m : Int) := by omega
 have hin : i ≤ n := by omega
 have htn : ((i : Int) + (m : Int)).toNat = i + m := by omega
 have hb3 : (i : Int) ≤ (n : Int) := by omega
 clear hkk hik hold hROW hG hRl hmin1 hmin2
 go_enter Try.func39,Try.ntmps39
 go_wp2_with (first
  | (at_builtin; refine Lib.wpList_append_run _ rfl _ _ _ _ rfl _ _ rfl rfl _ _ (hrz _) ?_)
  | (at_builtin; refine Go.Proofs.wpList_copy_runI _ rfl _ _ 22 22 rfl _ _ rfl rfl (hcpA _ hE1 hE2 _ _) ?_)
  | (at_builtin; refine Go.Proofs.wpList_copy_runI _ rfl _ _ 22 22 rfl _ _ rfl rfl (hcpB _ (fun _ => rfl) (fun _ => rfl) _ _ _) ?_))
 go_region_law (refine Go.Proofs.step_copy_runI rfl _ _ 22 22 rfl (.slice (some ⟨w.heap.size,(i + m) * 2,none⟩) (n + m - (i + m)) (G - (i + m))) (.slice (some ⟨b,i * 2,none⟩) (n - i) (c - i)) (by simp [Act.eval,Act.put]) (by simp [Act.eval,Act.put]) (hcpB _ hF1 hF2 3 (G - (i + m)) (c - i)) ?_)
 go_wp2
 go_ret
 exact ⟨rfl,rfl⟩

set_option maxHeartbeats 4000000 in
set_option maxRecDepth 1000000 in
theorem ins_end39 (p : Option Addr) (n cap : Nat) (q : Option Addr) (m vc : Nat) (w w' : World) (r : Value) (hm : 0 < m) (hn : n ≤ cap) (hc63 : cap ≤ 9223372036854775807)
  (hr : ∀ ty,(Builtin.append_ #[22,22] ty #[.slice p n cap,.slice q m vc]).run Try.prog w = .ok r w') :
  Calls Try.prog 39 #[.slice p n cap,.int .i64 n,.slice q m vc] w fun e w2 => e = .returned r ∧ w2 = w' := by
 have hz1 : ¬ ((m : Int) = 0) := by omega
 go_enter Try.func39,Try.ntmps39
 go_wp2_with (at_builtin; refine Lib.wpList_append_run _ rfl _ _ _ _ rfl _ _ rfl rfl _ _ (hr _) ?_)
 all_goals (go_ret; exact ⟨rfl,rfl⟩)
end

theorem slices_Insert_Lshift_Mark_shift_Mark_ok {N : Nat} {G : Pers} {Lf : List Ent} {w : World} (s_ : List shift_Mark) (i_ : Int) (v : List shift_Mark) {s__p : Option Addr} {s__c : Nat} {v_p : Option Addr} {v_c : Nat}  (hc : Ctx G (.row s__p s__c (s_.map enc_shift_Mark) 77 2::.row v_p v_c (v.map enc_shift_Mark) 77 2::Lf) w) {res : (List shift_Mark)} (hF : slices_Insert_Lshift_Mark_shift_Mark N s_ i_ v = some res) : Calls Try.prog 39 #[.slice s__p s_.length s__c,.int .i64 i_,.slice v_p v.length v_c] w (fun e w => ∃ (p'1 : Option Addr) (c'1 : Nat),e = .returned (.slice p'1 res.length c'1) ∧ Ctx G (.row p'1 c'1 (res.map enc_shift_Mark) 77 2::.row v_p v_c (v.map enc_shift_Mark) 77 2::Lf) w) := by
 unfold slices_Insert_Lshift_Mark_shift_Mark at hF
 exact insert_ctx (ty0 := 0) sl_22 (by decide) one_enc_shift_Mark (fun p n cap q m vc w w' r h1 h2 h3 h4 => ins_end39 p n cap q m vc w w' r h1 h2 h3 h4) (fun _ _ _ _ => rfl) (fun b n c i vb m vc cs vs w h1 h2 h3 h4 h5 h6 h7 h8 h9 h10 h11 h12 h13 tA tB kA kB h14 h15 h16 h17 h18 => ins_shift39 b n c i vb m vc cs vs w h1 h2 h3 h4 h5 h6 h7 h8 h9 h10 h11 h12 h13 tA tB kA kB h14 h15 h16 h17 h18) (fun b n c i vb m vc cs vs w h1 h2 h3 h4 h5 h6 h7 h8 h9 h10 h11 h12 h13 => ins_grow39 b n c i vb m vc cs vs w h1 h2 h3 h4 h5 h6 h7 h8 h9 h10 h11 h12 h13) hc hF

def shift_in (n : Int) (least : Int) (greatest : Int) : Bool :=
 ((decide (least ≤ n)) && (decide (n ≤ greatest)))
theorem shift_in_ok {G : Pers} {Lf : List Ent} {w : World} (n : Int) (least : Int) (greatest : Int)   (hc : Ctx G (Lf) w) {res : Bool} (hF : shift_in n least greatest = res) : Calls Try.prog 59 #[.int .i64 n,.int .i64 least,.int .i64 greatest] w (fun e w => e = .returned (.bool res) ∧ Ctx G (Lf) w) := by
 unfold shift_in at hF
 refine fnIn (args := [.int .i64 n,.int .i64 least,.int .i64 greatest]) Try.func59 rfl Try.ntmps59 rfl fun a hf => wp_seq_k fun K1 h1 => cReg ?_
 refine stP hf rfl rfl rfl (pA rfl) fun a hf => cNil ?_
 refine h1 _ _ ?_
 refine wp_seq_k fun K2 h2 => cReg ?_
 refine stP hf rfl rfl rfl (pM rfl) fun a hf => stP hf rfl rfl rfl (pM rfl) fun a hf => stP hf rfl rfl rfl (pGe rfl rfl) fun a hf => stP hf rfl rfl rfl (pM rfl) fun a hf => stCut 4 (fun a w => Has 15 a [(0,.int .i64 n),(1,.int .i64 least),(2,.int .i64 greatest),(6,.bool false),(7,.int .i64 n),(8,.int .i64 least),(9,.bool (decide (least ≤ n))),(10,.bool (decide (least ≤ n))),(14,.bool ((decide (least ≤ n)) && (decide (n ≤ greatest))))] ∧ Ctx G (Lf) w) ?_ ?_
 ·cases hb : (decide (least ≤ n))
  ·rw [hb] at hf
   refine stS hf rfl rfl rfl fun a hf => stS hf rfl rfl rfl fun a hf => stS hf rfl rfl rfl fun a hf => stP hf rfl rfl rfl (pPf rfl rfl) fun a hf => cNil ⟨hf.keep ⟨rfl,rfl,rfl,rfl,rfl,rfl,rfl,rfl,rfl,trivial⟩,hc⟩
  ·rw [hb] at hf
   refine stP hf rfl rfl rfl (pM rfl) fun a hf => stP hf rfl rfl rfl (pM rfl) fun a hf => stP hf rfl rfl rfl (pLe rfl rfl) fun a hf => stP hf rfl rfl rfl (pPt rfl rfl) fun a hf => cNil ⟨hf.keep ⟨rfl,rfl,rfl,rfl,rfl,rfl,rfl,rfl,rfl,trivial⟩,hc⟩
 intro a w ⟨hf,hc⟩
 refine stP hf rfl rfl rfl (pA rfl) fun a hf => cNil ?_
 refine h2 _ _ ?_
 refine wp_ret ?_
 obtain rfl := hF
 exact fnOut1 (by simp) rfl Try.results59 hf hc (show look _ 6 = _ from rfl) ⟨rfl,hc⟩

def shift_stage (n : Int) : Bool :=
 (shift_in n (-2000) 2000)
theorem shift_stage_ok {G : Pers} {Lf : List Ent} {w : World} (n : Int)   (hc : Ctx G (Lf) w) {res : Bool} (hF : shift_stage n = res) : Calls Try.prog 62 #[.int .i64 n] w (fun e w => e = .returned (.bool res) ∧ Ctx G (Lf) w) := by
 unfold shift_stage at hF
 refine fnIn (args := [.int .i64 n]) Try.func62 rfl Try.ntmps62 rfl fun a hf => wp_seq_k fun K1 h1 => cReg ?_
 refine stP hf rfl rfl rfl (pA rfl) fun a hf => cNil ?_
 refine h1 _ _ ?_
 refine wp_seq_k fun K2 h2 => cReg ?_
 refine stP hf rfl rfl rfl (pM rfl) fun a hf => stE hf hc rfl rfl rfl (eC (v := .bool (shift_in n (-2000) 2000)) (vs := [.int .i64 n,.int .i64 (-2000),.int .i64 2000]) (caps := []) en_59 rfl rfl rfl rfl (fun w hc => shift_in_ok n (-2000) 2000 hc rfl)) fun a w hf hc => stP hf rfl rfl rfl (pA rfl) fun a hf => cNil ?_
 refine h2 _ _ ?_
 refine wp_ret ?_
 obtain rfl := hF
 exact fnOut1 (by simp) rfl Try.results62 hf hc (show look _ 2 = _ from rfl) ⟨rfl,hc⟩

def shift_flow (n : Int) : Bool :=
 (shift_in n 0 1000000000)
theorem shift_flow_ok {G : Pers} {Lf : List Ent} {w : World} (n : Int)   (hc : Ctx G (Lf) w) {res : Bool} (hF : shift_flow n = res) : Calls Try.prog 63 #[.int .i64 n] w (fun e w => e = .returned (.bool res) ∧ Ctx G (Lf) w) := by
 unfold shift_flow at hF
 refine fnIn (args := [.int .i64 n]) Try.func63 rfl Try.ntmps63 rfl fun a hf => wp_seq_k fun K1 h1 => cReg ?_
 refine stP hf rfl rfl rfl (pA rfl) fun a hf => cNil ?_
 refine h1 _ _ ?_
 refine wp_seq_k fun K2 h2 => cReg ?_
 refine stP hf rfl rfl rfl (pM rfl) fun a hf => stE hf hc rfl rfl rfl (eC (v := .bool (shift_in n 0 1000000000)) (vs := [.int .i64 n,.int .i64 0,.int .i64 1000000000]) (caps := []) en_59 rfl rfl rfl rfl (fun w hc => shift_in_ok n 0 1000000000 hc rfl)) fun a w hf hc => stP hf rfl rfl rfl (pA rfl) fun a hf => cNil ?_
 refine h2 _ _ ?_
 refine wp_ret ?_
 obtain rfl := hF
 exact fnOut1 (by simp) rfl Try.results63 hf hc (show look _ 2 = _ from rfl) ⟨rfl,hc⟩

def shift_rated_1 (m : shift_Mark) : Bool :=
 ((shift_stage m.Stage) && (shift_flow m.Flow))
theorem shift_rated_1_ok {G : Pers} {Lf : List Ent} {w : World} (m : shift_Mark)   (hc : Ctx G (Lf) w) {res : Bool} (hF : shift_rated_1 m = res) : Calls Try.prog 101 #[.agg #[.int .i64 m.Stage,.int .i64 m.Flow]] w (fun e w => e = .returned (.bool res) ∧ Ctx G (Lf) w) := by
 unfold shift_rated_1 at hF
 refine fnIn (args := [.agg #[.int .i64 m.Stage,.int .i64 m.Flow]]) Try.func101 rfl Try.ntmps101 rfl fun a hf => wp_seq_k fun K1 h1 => cReg ?_
 refine stBx (cs := [.int .i64 m.Stage,.int .i64 m.Flow]) hf hc rfl rfl rfl rfl fun b_1 a w hf hc => stP hf rfl rfl rfl (pA rfl) fun a hf => cNil ?_
 refine h1 _ _ ?_
 refine wp_seq_k fun K2 h2 => cReg ?_
 refine stP hf rfl rfl rfl (pFA fa_77_0 rfl) fun a hf => stE hf hc rfl rfl rfl (eLd1 sc_3 rfl (cell_box m0 rfl)) fun a w hf hc => stE hf hc rfl rfl rfl (eC (v := .bool (shift_stage m.Stage)) (vs := [.int .i64 m.Stage]) (caps := []) en_62 rfl rfl rfl rfl (fun w hc => shift_stage_ok m.Stage hc rfl)) fun a w hf hc => stP hf rfl rfl rfl (pM rfl) fun a hf => stCut 4 (fun a w => Has 11 a [(1,.pointer (some ⟨b_1,0,none⟩)),(2,.bool false),(3,.pointer (some ⟨b_1,0,none⟩)),(4,.int .i64 m.Stage),(5,.bool (shift_stage m.Stage)),(6,.bool (shift_stage m.Stage)),(10,.bool ((shift_stage m.Stage) && (shift_flow m.Flow)))] ∧ Ctx G (.box b_1 [.int .i64 m.Stage,.int .i64 m.Flow] 77::Lf) w) ?_ ?_
 ·cases hb : (shift_stage m.Stage)
  ·rw [hb] at hf
   refine stS hf rfl rfl rfl fun a hf => stS hf rfl rfl rfl fun a hf => stS hf rfl rfl rfl fun a hf => stP hf rfl rfl rfl (pPf rfl rfl) fun a hf => cNil ⟨hf.keep ⟨rfl,rfl,rfl,rfl,rfl,rfl,rfl,trivial⟩,hc⟩
  ·rw [hb] at hf
   refine stP hf rfl rfl rfl (pFA fa_77_1 rfl) fun a hf => stE hf hc rfl rfl rfl (eLd1 sc_3 rfl (cell_box m0 rfl)) fun a w hf hc => stE hf hc rfl rfl rfl (eC (v := .bool (shift_flow m.Flow)) (vs := [.int .i64 m.Flow]) (caps := []) en_63 rfl rfl rfl rfl (fun w hc => shift_flow_ok m.Flow hc rfl)) fun a w hf hc => stP hf rfl rfl rfl (pPt rfl rfl) fun a hf => cNil ⟨hf.keep ⟨rfl,rfl,rfl,rfl,rfl,rfl,rfl,trivial⟩,hc⟩
 intro a w ⟨hf,hc⟩
 refine stP hf rfl rfl rfl (pA rfl) fun a hf => cNil ?_
 refine h2 _ _ ?_
 refine wp_ret ?_
 obtain rfl := hF
 replace hc := hc.drop k0
 exact fnOut1 (by simp) rfl Try.results101 hf hc (show look _ 2 = _ from rfl) ⟨rfl,hc⟩

def shift_every_shift_Mark_1 (x : shift_Mark) : Bool :=
 (!(shift_rated_1 x))
theorem shift_every_shift_Mark_1_ok {G : Pers} {Lf : List Ent} {w : World} (x : shift_Mark) {b_ : Nat}  (hc : Ctx G (.box b_ [.func (.func 101) #[] #[]] 191::Lf) w) {res : Bool} (hF : shift_every_shift_Mark_1 x = res) : Calls Try.prog 134 #[.agg #[.int .i64 x.Stage,.int .i64 x.Flow],.pointer (some ⟨b_,0,none⟩)] w (fun e w => e = .returned (.bool res) ∧ Ctx G (.box b_ [.func (.func 101) #[] #[]] 191::Lf) w) := by
 unfold shift_every_shift_Mark_1 at hF
 refine fnIn (args := [.agg #[.int .i64 x.Stage,.int .i64 x.Flow],.pointer (some ⟨b_,0,none⟩)]) Try.func134 rfl Try.ntmps134 rfl fun a hf => wp_seq_k fun K1 h1 => cReg ?_
 refine stBx (cs := [.int .i64 x.Stage,.int .i64 x.Flow]) hf hc rfl rfl rfl rfl fun b_1 a w hf hc => stP hf rfl rfl rfl (pA rfl) fun a hf => cNil ?_
 refine h1 _ _ ?_
 refine wp_seq_k fun K2 h2 => cReg ?_
 refine stE hf hc rfl rfl rfl (eLd1 sc_191 rfl (cell_box m1 rfl)) fun a w hf hc => stE hf hc rfl rfl rfl (eLdN (vs := [.int .i64 x.Stage,.int .i64 x.Flow]) ag_77 rfl rfl (cells_box (n := 2) m0 rfl)) fun a w hf hc => stE hf hc rfl rfl rfl (eC (v := .bool (shift_rated_1 x)) (vs := [.agg #[.int .i64 x.Stage,.int .i64 x.Flow]]) (caps := []) en_101 rfl rfl rfl rfl (fun w hc => shift_rated_1_ok x hc rfl)) fun a w hf hc => stP hf rfl rfl rfl (pNot rfl) fun a hf => stP hf rfl rfl rfl (pA rfl) fun a hf => cNil ?_
 refine h2 _ _ ?_
 refine wp_ret ?_
 obtain rfl := hF
 replace hc := hc.drop k0
 exact fnOut1 (by simp) rfl Try.results134 hf hc (show look _ 3 = _ from rfl) ⟨rfl,hc⟩

def slices_IndexFunc_Lshift_Mark_shift_Mark_b4 (N : Nat) (s_ : List shift_Mark) (x : Int) : Option (Step (Int) (Int)) :=
 cond (decide (x < ((s_.length : Nat) : Int)))
 (Option.bind (getI s_ x) fun e_1 =>
 cond (shift_every_shift_Mark_1 e_1)
 (some (.ret x))
 (some (.cont (W (x + 1)))))
 (some (.brk x))
def slices_IndexFunc_Lshift_Mark_shift_Mark (N : Nat) (s_ : List shift_Mark) : Option (Int) :=
 Option.bind (loopO (fun s4 => slices_IndexFunc_Lshift_Mark_shift_Mark_b4 N s_ s4) N 0) fun x4 =>
 exK x4 (fun s4 => some (-1)) some
theorem slices_IndexFunc_Lshift_Mark_shift_Mark_ok {N : Nat} {G : Pers} {Lf : List Ent} {w : World} (s_ : List shift_Mark) {s__p : Option Addr} {s__c : Nat} {b_ : Nat} (h_s_ : Rd G 2 s__p s__c (s_.map enc_shift_Mark)) (hc : Ctx G (.box b_ [.func (.func 101) #[] #[]] 191::Lf) w) {res : Int} (hF : slices_IndexFunc_Lshift_Mark_shift_Mark N s_ = some res) : Calls Try.prog 105 #[.slice s__p s_.length s__c,.func (.func 134) #[] #[.pointer (some ⟨b_,0,none⟩)]] w (fun e w => e = .returned (.int .i64 res) ∧ Ctx G (.box b_ [.func (.func 101) #[] #[]] 191::Lf) w) := by
 unfold slices_IndexFunc_Lshift_Mark_shift_Mark at hF
 refine fnIn (args := [.slice s__p s_.length s__c,.func (.func 134) #[] #[.pointer (some ⟨b_,0,none⟩)]]) Try.func105 rfl Try.ntmps105 rfl fun a hf => wp_seq_k fun K1 h1 => cReg ?_
 refine stP hf rfl rfl rfl (pA rfl) fun a hf => cNil ?_
 refine h1 _ _ ?_
 refine wp_seq_k fun K2 h2 => wp_seq_k fun K3 h3 => cReg ?_
 refine stP hf rfl rfl rfl (pM rfl) fun a hf => stP hf rfl rfl rfl (pLenS Try.underlying22 rfl) fun a hf => stP hf rfl rfl rfl (pM rfl) fun a hf => cNil ?_
 refine h3 _ _ ?_
 refine wp_block ?_
 obtain ⟨x4,hx4,hF⟩ := bnd_some hF
 let S4 : Int → Act → World → Prop := (fun (zz : Int) a w => Has 19 a [(0,.slice s__p s_.length s__c),(1,.func (.func 134) #[] #[.pointer (some ⟨b_,0,none⟩)]),(7,.int .i64 ((s_.length : Nat) : Int)),(8,.int .i64 zz)] ∧ Ctx G (.box b_ [.func (.func 101) #[] #[]] 191::Lf) w)
 have hr4 : ∀ (zz : Int) a w,x4 = .go zz → S4 zz a w → K2 a w := by
  rintro x a w rfl ⟨hf,hc⟩
  replace hF := exK_go hF
  refine h2 _ _ ?_
  refine wp_seq_k fun K5 h5 => cReg ?_
  refine stP hf rfl rfl rfl (pA rfl) fun a hf => cNil ?_
  refine h5 _ _ ?_
  refine wp_ret ?_
  obtain rfl := Option.some.inj hF
  exact fnOut1 (by simp) rfl Try.results105 hf hc (show look _ 4 = _ from rfl) ⟨rfl,hc⟩
 have ho4 : ∀ r,x4 = .out r → r = res := by
  rintro r rfl
  exact Option.some.inj hF
 refine cLoop N (loopW (S := S4) (x := x4) ?_ N 0 _ _ ⟨hf.keep ⟨rfl,rfl,rfl,rfl,trivial⟩,hc⟩ hx4)
 clear hF hf hc
 rintro x st4 a w KB4 ⟨hf,hc⟩ hF hfin4 hK4
 unfold slices_IndexFunc_Lshift_Mark_shift_Mark_b4 at hF
 refine wp_seq_k fun K6 h6 => cReg ?_
 refine stP hf rfl rfl rfl (pLt rfl rfl) fun a hf => cNil ?_
 refine h6 _ _ ?_
 refine wp_seq_k fun K7 h7 => cCond (b := (decide (x < ((s_.length : Nat) : Int)))) hf rfl (fun hb => ?_) (fun hb => ?_)
 ·replace hF := condT hb hF
  clear hb
  refine wp_skip ?_
  refine h7 _ _ ?_
  refine wp_seq_k fun K8 h8 => wp_block ?_
  refine wp_seq_k fun K9 h9 => cReg ?_
  refine stP hf rfl rfl rfl (pM rfl) fun a hf => stP hf rfl rfl rfl (pA rfl) fun a hf => cNil ?_
  refine h9 _ _ ?_
  refine wp_seq_k fun K10 h10 => cReg ?_
  refine stP hf rfl rfl rfl (pM rfl) fun a hf => stP hf rfl rfl rfl (pM rfl) fun a hf => stP hf rfl rfl rfl (pM rfl) fun a hf => ?_
  obtain ⟨e_1,he_1,hF⟩ := bnd_some hF
  obtain ⟨b_1,o,qa,qp⟩ := h_s_.atm he_1
  refine stP hf rfl rfl rfl (pIA Try.underlying22 sz_77 rfl rfl qa) fun a hf => stE hf hc rfl rfl rfl (eLdN (vs := [.int .i64 e_1.Stage,.int .i64 e_1.Flow]) ag_77 rfl rfl (cells_pc qp (n := 2) (o' := 0) rfl)) fun a w hf hc => stE hf hc rfl rfl rfl (eC (v := .bool (shift_every_shift_Mark_1 e_1)) (vs := [.agg #[.int .i64 e_1.Stage,.int .i64 e_1.Flow]]) (caps := [.pointer (some ⟨b_,0,none⟩)]) en_134 rfl rfl rfl rfl (fun w hc => (shift_every_shift_Mark_1_ok e_1 (hc.pick k0) rfl).mono fun e w h => ⟨h.1,(h.2.unpick k0)⟩)) fun a w hf hc => cNil ?_
  refine h10 _ _ ?_
  refine cCond (b := (shift_every_shift_Mark_1 e_1)) hf rfl (fun hb => ?_) (fun hb => ?_)
  ·replace hF := condT hb hF
   clear hb
   refine wp_seq_k fun K11 h11 => cReg ?_
   refine stP hf rfl rfl rfl (pM rfl) fun a hf => stP hf rfl rfl rfl (pA rfl) fun a hf => cNil ?_
   refine h11 _ _ ?_
   refine wp_ret ?_
   refine xBlkR ?_
   refine xThenR ?_
   refine xThenR ?_
   have he := Option.some.inj hF
   rw [← he] at hfin4
   replace hF := ho4 _ hfin4
   refine xBlkR ?_
   refine xThenR ?_
   obtain rfl := hF
   exact fnOut1 (by simp) rfl Try.results105 hf hc (show look _ 4 = _ from rfl) ⟨rfl,hc⟩
  ·replace hF := condF hb hF
   clear hb
   refine wp_skip ?_
   refine h8 _ _ ?_
   refine cReg ?_
   refine stP hf rfl rfl rfl (pAdd rfl rfl) fun a hf => stP hf rfl rfl rfl (pM rfl) fun a hf => cNil ?_
   exact hK4 (W (x + 1)) _ _ (Option.some.inj hF).symm ⟨hf.keep ⟨rfl,rfl,rfl,rfl,trivial⟩,hc⟩
 ·replace hF := condF hb hF
  clear hb
  refine wp_exit ?_
  refine xThen ?_
  refine xThen ?_
  have he := Option.some.inj hF
  rw [← he] at hfin4
  refine cHit ?_
  exact hr4 _ _ _ hfin4 ⟨hf.keep ⟨rfl,rfl,rfl,rfl,trivial⟩,hc⟩

def slices_ContainsFunc_Lshift_Mark_shift_Mark (N : Nat) (s_ : List shift_Mark) : Option (Bool) :=
 Option.bind (slices_IndexFunc_Lshift_Mark_shift_Mark N s_) fun r =>
 some (decide (0 ≤ r))
theorem slices_ContainsFunc_Lshift_Mark_shift_Mark_ok {N : Nat} {G : Pers} {Lf : List Ent} {w : World} (s_ : List shift_Mark) {s__p : Option Addr} {s__c : Nat} {b_ : Nat} (h_s_ : Rd G 2 s__p s__c (s_.map enc_shift_Mark)) (hc : Ctx G (.box b_ [.func (.func 101) #[] #[]] 191::Lf) w) {res : Bool} (hF : slices_ContainsFunc_Lshift_Mark_shift_Mark N s_ = some res) : Calls Try.prog 133 #[.slice s__p s_.length s__c,.func (.func 134) #[] #[.pointer (some ⟨b_,0,none⟩)]] w (fun e w => e = .returned (.bool res) ∧ Ctx G (.box b_ [.func (.func 101) #[] #[]] 191::Lf) w) := by
 unfold slices_ContainsFunc_Lshift_Mark_shift_Mark at hF
 refine fnIn (args := [.slice s__p s_.length s__c,.func (.func 134) #[] #[.pointer (some ⟨b_,0,none⟩)]]) Try.func133 rfl Try.ntmps133 rfl fun a hf => wp_seq_k fun K1 h1 => cReg ?_
 refine stP hf rfl rfl rfl (pA rfl) fun a hf => cNil ?_
 refine h1 _ _ ?_
 refine wp_seq_k fun K2 h2 => cReg ?_
 refine stP hf rfl rfl rfl (pM rfl) fun a hf => stP hf rfl rfl rfl (pM rfl) fun a hf => ?_
 obtain ⟨r,hr,hF⟩ := bnd_some hF
 refine stE hf hc rfl rfl rfl (eC (v := .int .i64 r) (vs := [.slice s__p s_.length s__c,.func (.func 134) #[] #[.pointer (some ⟨b_,0,none⟩)]]) (caps := []) en_105 rfl rfl rfl rfl (fun w hc => (slices_IndexFunc_Lshift_Mark_shift_Mark_ok s_ h_s_ (hc.pick k0) hr).mono fun e w h => ⟨h.1,(h.2.unpick k0)⟩)) fun a w hf hc => stP hf rfl rfl rfl (pGe rfl rfl) fun a hf => stP hf rfl rfl rfl (pA rfl) fun a hf => cNil ?_
 refine h2 _ _ ?_
 refine wp_ret ?_
 obtain rfl := Option.some.inj hF
 exact fnOut1 (by simp) rfl Try.results133 hf hc (show look _ 4 = _ from rfl) ⟨rfl,hc⟩

def shift_every_shift_Mark (N : Nat) (l : List shift_Mark) : Option (Bool) :=
 Option.bind (slices_ContainsFunc_Lshift_Mark_shift_Mark N l) fun r =>
 some (!r)
theorem shift_every_shift_Mark_ok {N : Nat} {G : Pers} {Lf : List Ent} {w : World} (l : List shift_Mark) {l_p : Option Addr} {l_c : Nat} (h_l : Rd G 2 l_p l_c (l.map enc_shift_Mark)) (hc : Ctx G (Lf) w) {res : Bool} (hF : shift_every_shift_Mark N l = some res) : Calls Try.prog 100 #[.slice l_p l.length l_c,.func (.func 101) #[] #[]] w (fun e w => e = .returned (.bool res) ∧ Ctx G (Lf) w) := by
 unfold shift_every_shift_Mark at hF
 refine fnIn (args := [.slice l_p l.length l_c,.func (.func 101) #[] #[]]) Try.func100 rfl Try.ntmps100 rfl fun a hf => wp_seq_k fun K1 h1 => cReg ?_
 refine stBx (cs := [.func (.func 101) #[] #[]]) hf hc rfl rfl rfl rfl fun b_1 a w hf hc => stP hf rfl rfl rfl (pA rfl) fun a hf => cNil ?_
 refine h1 _ _ ?_
 refine wp_seq_k fun K2 h2 => cReg ?_
 refine stP hf rfl rfl rfl (pM rfl) fun a hf => stP hf rfl rfl rfl (pMF (us := [.pointer (some ⟨b_1,0,none⟩)]) rfl rfl) fun a hf => ?_
 obtain ⟨r,hr,hF⟩ := bnd_some hF
 refine stE hf hc rfl rfl rfl (eC (v := .bool r) (vs := [.slice l_p l.length l_c,.func (.func 134) #[] #[.pointer (some ⟨b_1,0,none⟩)]]) (caps := []) en_133 rfl rfl rfl rfl (fun w hc => (slices_ContainsFunc_Lshift_Mark_shift_Mark_ok l h_l (hc.pick k0) hr).mono fun e w h => ⟨h.1,(h.2.unpick k0)⟩)) fun a w hf hc => stP hf rfl rfl rfl (pNot rfl) fun a hf => stP hf rfl rfl rfl (pA rfl) fun a hf => cNil ?_
 refine h2 _ _ ?_
 refine wp_ret ?_
 obtain rfl := Option.some.inj hF
 replace hc := hc.drop k0
 exact fnOut1 (by simp) rfl Try.results100 hf hc (show look _ 4 = _ from rfl) ⟨rfl,hc⟩

def shift_rated (N : Nat) (l : List shift_Mark) : Option (Int) :=
 cond (!(shift_in ((l.length : Nat) : Int) 2 12))
 (some 3)
 (Option.bind (shift_every_shift_Mark N l) fun r =>
 cond (!r)
 (some 60)
 (some 0))
theorem shift_rated_ok {N : Nat} {G : Pers} {Lf : List Ent} {w : World} (l : List shift_Mark) {l_p : Option Addr} {l_c : Nat} (h_l : Rd G 2 l_p l_c (l.map enc_shift_Mark)) (hc : Ctx G (Lf) w) {res : Int} (hF : shift_rated N l = some res) : Calls Try.prog 58 #[.slice l_p l.length l_c] w (fun e w => e = .returned (.int .i64 res) ∧ Ctx G (Lf) w) := by
 unfold shift_rated at hF
 refine fnIn (args := [.slice l_p l.length l_c]) Try.func58 rfl Try.ntmps58 rfl fun a hf => wp_seq_k fun K1 h1 => cReg ?_
 refine stP hf rfl rfl rfl (pA rfl) fun a hf => cNil ?_
 refine h1 _ _ ?_
 refine wp_seq_k fun K2 h2 => wp_block ?_
 refine wp_seq_k fun K3 h3 => cReg ?_
 refine stP hf rfl rfl rfl (pM rfl) fun a hf => stP hf rfl rfl rfl (pLenS Try.underlying22 rfl) fun a hf => stE hf hc rfl rfl rfl (eC (v := .bool (shift_in ((l.length : Nat) : Int) 2 12)) (vs := [.int .i64 ((l.length : Nat) : Int),.int .i64 2,.int .i64 12]) (caps := []) en_59 rfl rfl rfl rfl (fun w hc => shift_in_ok ((l.length : Nat) : Int) 2 12 hc rfl)) fun a w hf hc => stP hf rfl rfl rfl (pNot rfl) fun a hf => stP hf rfl rfl rfl (pA rfl) fun a hf => cNil ?_
 refine h3 _ _ ?_
 refine cCond (b := (!(shift_in ((l.length : Nat) : Int) 2 12))) hf rfl (fun hb => ?_) (fun hb => ?_)
 ·replace hF := condT hb hF
  clear hb
  refine wp_seq_k fun K4 h4 => cReg ?_
  refine stP hf rfl rfl rfl (pA rfl) fun a hf => cNil ?_
  refine h4 _ _ ?_
  refine wp_ret ?_
  refine xBlkR ?_
  refine xThenR ?_
  obtain rfl := Option.some.inj hF
  exact fnOut1 (by simp) rfl Try.results58 hf hc (show look _ 2 = _ from rfl) ⟨rfl,hc⟩
 ·replace hF := condF hb hF
  clear hb
  refine wp_seq_k fun K5 h5 => cReg ?_
  refine stP hf rfl rfl rfl (pM rfl) fun a hf => ?_
  obtain ⟨r,hr,hF⟩ := bnd_some hF
  refine stE hf hc rfl rfl rfl (eC (v := .bool r) (vs := [.slice l_p l.length l_c,.func (.func 101) #[] #[]]) (caps := []) en_100 rfl rfl rfl rfl (fun w hc => shift_every_shift_Mark_ok l h_l hc hr)) fun a w hf hc => stP hf rfl rfl rfl (pNot rfl) fun a hf => stP hf rfl rfl rfl (pA rfl) fun a hf => cNil ?_
  refine h5 _ _ ?_
  refine cCond (b := (!r)) hf rfl (fun hb => ?_) (fun hb => ?_)
  ·replace hF := condT hb hF
   clear hb
   refine wp_seq_k fun K6 h6 => cReg ?_
   refine stP hf rfl rfl rfl (pA rfl) fun a hf => cNil ?_
   refine h6 _ _ ?_
   refine wp_ret ?_
   refine xBlkR ?_
   refine xThenR ?_
   obtain rfl := Option.some.inj hF
   exact fnOut1 (by simp) rfl Try.results58 hf hc (show look _ 2 = _ from rfl) ⟨rfl,hc⟩
  ·replace hF := condF hb hF
   clear hb
   refine wp_skip ?_
   refine h2 _ _ ?_
   refine wp_seq_k fun K7 h7 => cReg ?_
   refine stP hf rfl rfl rfl (pA rfl) fun a hf => cNil ?_
   refine h7 _ _ ?_
   refine wp_ret ?_
   obtain rfl := Option.some.inj hF
   exact fnOut1 (by simp) rfl Try.results58 hf hc (show look _ 2 = _ from rfl) ⟨rfl,hc⟩

def shift_Check_1 (g : shift_Gauging) : Bool :=
 ((((shift_in g.Day 0 40000) && (shift_stage g.Stage)) && (shift_in g.Flow.Lo 0 g.Flow.Hi)) && (shift_flow g.Flow.Hi))
theorem shift_Check_1_ok {G : Pers} {Lf : List Ent} {w : World} (g : shift_Gauging)   (hc : Ctx G (Lf) w) {res : Bool} (hF : shift_Check_1 g = res) : Calls Try.prog 61 #[.agg #[.int .i64 g.Day,.int .i64 g.Stage,.int .i64 g.Flow.Lo,.int .i64 g.Flow.Hi]] w (fun e w => e = .returned (.bool res) ∧ Ctx G (Lf) w) := by
 unfold shift_Check_1 at hF
 refine fnIn (args := [.agg #[.int .i64 g.Day,.int .i64 g.Stage,.int .i64 g.Flow.Lo,.int .i64 g.Flow.Hi]]) Try.func61 rfl Try.ntmps61 rfl fun a hf => wp_seq_k fun K1 h1 => cReg ?_
 refine stBx (cs := [.int .i64 g.Day,.int .i64 g.Stage,.int .i64 g.Flow.Lo,.int .i64 g.Flow.Hi]) hf hc rfl rfl rfl rfl fun b_1 a w hf hc => stP hf rfl rfl rfl (pA rfl) fun a hf => cNil ?_
 refine h1 _ _ ?_
 refine wp_seq_k fun K2 h2 => cReg ?_
 refine stP hf rfl rfl rfl (pFA fa_71_0 rfl) fun a hf => stE hf hc rfl rfl rfl (eLd1 sc_3 rfl (cell_box m0 rfl)) fun a w hf hc => stE hf hc rfl rfl rfl (eC (v := .bool (shift_in g.Day 0 40000)) (vs := [.int .i64 g.Day,.int .i64 0,.int .i64 40000]) (caps := []) en_59 rfl rfl rfl rfl (fun w hc => shift_in_ok g.Day 0 40000 hc rfl)) fun a w hf hc => stP hf rfl rfl rfl (pM rfl) fun a hf => stCut 4 (fun a w => Has 26 a [(1,.pointer (some ⟨b_1,0,none⟩)),(2,.bool false),(3,.pointer (some ⟨b_1,0,none⟩)),(4,.int .i64 g.Day),(5,.bool (shift_in g.Day 0 40000)),(6,.bool (shift_in g.Day 0 40000)),(10,.bool ((shift_in g.Day 0 40000) && (shift_stage g.Stage)))] ∧ Ctx G (.box b_1 [.int .i64 g.Day,.int .i64 g.Stage,.int .i64 g.Flow.Lo,.int .i64 g.Flow.Hi] 71::Lf) w) ?_ ?_
 ·cases hb : (shift_in g.Day 0 40000)
  ·rw [hb] at hf
   refine stS hf rfl rfl rfl fun a hf => stS hf rfl rfl rfl fun a hf => stS hf rfl rfl rfl fun a hf => stP hf rfl rfl rfl (pPf rfl rfl) fun a hf => cNil ⟨hf.keep ⟨rfl,rfl,rfl,rfl,rfl,rfl,rfl,trivial⟩,hc⟩
  ·rw [hb] at hf
   refine stP hf rfl rfl rfl (pFA fa_71_1 rfl) fun a hf => stE hf hc rfl rfl rfl (eLd1 sc_3 rfl (cell_box m0 rfl)) fun a w hf hc => stE hf hc rfl rfl rfl (eC (v := .bool (shift_stage g.Stage)) (vs := [.int .i64 g.Stage]) (caps := []) en_62 rfl rfl rfl rfl (fun w hc => shift_stage_ok g.Stage hc rfl)) fun a w hf hc => stP hf rfl rfl rfl (pPt rfl rfl) fun a hf => cNil ⟨hf.keep ⟨rfl,rfl,rfl,rfl,rfl,rfl,rfl,trivial⟩,hc⟩
 intro a w ⟨hf,hc⟩
 refine stP hf rfl rfl rfl (pM rfl) fun a hf => stCut 8 (fun a w => Has 26 a [(1,.pointer (some ⟨b_1,0,none⟩)),(2,.bool false),(3,.pointer (some ⟨b_1,0,none⟩)),(4,.int .i64 g.Day),(5,.bool (shift_in g.Day 0 40000)),(6,.bool (shift_in g.Day 0 40000)),(10,.bool ((shift_in g.Day 0 40000) && (shift_stage g.Stage))),(11,.bool ((shift_in g.Day 0 40000) && (shift_stage g.Stage))),(19,.bool (((shift_in g.Day 0 40000) && (shift_stage g.Stage)) && (shift_in g.Flow.Lo 0 g.Flow.Hi)))] ∧ Ctx G (.box b_1 [.int .i64 g.Day,.int .i64 g.Stage,.int .i64 g.Flow.Lo,.int .i64 g.Flow.Hi] 71::Lf) w) ?_ ?_
 ·cases hb : ((shift_in g.Day 0 40000) && (shift_stage g.Stage))
  ·rw [hb] at hf
   refine stS hf rfl rfl rfl fun a hf => stS hf rfl rfl rfl fun a hf => stS hf rfl rfl rfl fun a hf => stS hf rfl rfl rfl fun a hf => stS hf rfl rfl rfl fun a hf => stS hf rfl rfl rfl fun a hf => stS hf rfl rfl rfl fun a hf => stP hf rfl rfl rfl (pPf rfl rfl) fun a hf => cNil ⟨hf.keep ⟨rfl,rfl,rfl,rfl,rfl,rfl,rfl,rfl,rfl,trivial⟩,hc⟩
  ·rw [hb] at hf
   refine stP hf rfl rfl rfl (pFA fa_71_2 rfl) fun a hf => stP hf rfl rfl rfl (pFA fa_50_0 rfl) fun a hf => stE hf hc rfl rfl rfl (eLd1 sc_3 rfl (cell_box m0 rfl)) fun a w hf hc => stP hf rfl rfl rfl (pFA fa_71_2 rfl) fun a hf => stP hf rfl rfl rfl (pFA fa_50_1 rfl) fun a hf => stE hf hc rfl rfl rfl (eLd1 sc_3 rfl (cell_box m0 rfl)) fun a w hf hc => stE hf hc rfl rfl rfl (eC (v := .bool (shift_in g.Flow.Lo 0 g.Flow.Hi)) (vs := [.int .i64 g.Flow.Lo,.int .i64 0,.int .i64 g.Flow.Hi]) (caps := []) en_59 rfl rfl rfl rfl (fun w hc => shift_in_ok g.Flow.Lo 0 g.Flow.Hi hc rfl)) fun a w hf hc => stP hf rfl rfl rfl (pPt rfl rfl) fun a hf => cNil ⟨hf.keep ⟨rfl,rfl,rfl,rfl,rfl,rfl,rfl,rfl,rfl,trivial⟩,hc⟩
 intro a w ⟨hf,hc⟩
 refine stP hf rfl rfl rfl (pM rfl) fun a hf => stCut 5 (fun a w => Has 26 a [(1,.pointer (some ⟨b_1,0,none⟩)),(2,.bool false),(3,.pointer (some ⟨b_1,0,none⟩)),(4,.int .i64 g.Day),(5,.bool (shift_in g.Day 0 40000)),(6,.bool (shift_in g.Day 0 40000)),(10,.bool ((shift_in g.Day 0 40000) && (shift_stage g.Stage))),(11,.bool ((shift_in g.Day 0 40000) && (shift_stage g.Stage))),(19,.bool (((shift_in g.Day 0 40000) && (shift_stage g.Stage)) && (shift_in g.Flow.Lo 0 g.Flow.Hi))),(20,.bool (((shift_in g.Day 0 40000) && (shift_stage g.Stage)) && (shift_in g.Flow.Lo 0 g.Flow.Hi))),(25,.bool ((((shift_in g.Day 0 40000) && (shift_stage g.Stage)) && (shift_in g.Flow.Lo 0 g.Flow.Hi)) && (shift_flow g.Flow.Hi)))] ∧ Ctx G (.box b_1 [.int .i64 g.Day,.int .i64 g.Stage,.int .i64 g.Flow.Lo,.int .i64 g.Flow.Hi] 71::Lf) w) ?_ ?_
 ·cases hb : (((shift_in g.Day 0 40000) && (shift_stage g.Stage)) && (shift_in g.Flow.Lo 0 g.Flow.Hi))
  ·rw [hb] at hf
   refine stS hf rfl rfl rfl fun a hf => stS hf rfl rfl rfl fun a hf => stS hf rfl rfl rfl fun a hf => stS hf rfl rfl rfl fun a hf => stP hf rfl rfl rfl (pPf rfl rfl) fun a hf => cNil ⟨hf.keep ⟨rfl,rfl,rfl,rfl,rfl,rfl,rfl,rfl,rfl,rfl,rfl,trivial⟩,hc⟩
  ·rw [hb] at hf
   refine stP hf rfl rfl rfl (pFA fa_71_2 rfl) fun a hf => stP hf rfl rfl rfl (pFA fa_50_1 rfl) fun a hf => stE hf hc rfl rfl rfl (eLd1 sc_3 rfl (cell_box m0 rfl)) fun a w hf hc => stE hf hc rfl rfl rfl (eC (v := .bool (shift_flow g.Flow.Hi)) (vs := [.int .i64 g.Flow.Hi]) (caps := []) en_63 rfl rfl rfl rfl (fun w hc => shift_flow_ok g.Flow.Hi hc rfl)) fun a w hf hc => stP hf rfl rfl rfl (pPt rfl rfl) fun a hf => cNil ⟨hf.keep ⟨rfl,rfl,rfl,rfl,rfl,rfl,rfl,rfl,rfl,rfl,rfl,trivial⟩,hc⟩
 intro a w ⟨hf,hc⟩
 refine stP hf rfl rfl rfl (pA rfl) fun a hf => cNil ?_
 refine h2 _ _ ?_
 refine wp_ret ?_
 obtain rfl := hF
 replace hc := hc.drop k0
 exact fnOut1 (by simp) rfl Try.results61 hf hc (show look _ 2 = _ from rfl) ⟨rfl,hc⟩

def shift_every_shift_Gauging_1 (x : shift_Gauging) : Bool :=
 (!(shift_Check_1 x))
theorem shift_every_shift_Gauging_1_ok {G : Pers} {Lf : List Ent} {w : World} (x : shift_Gauging) {b_ : Nat}  (hc : Ctx G (.box b_ [.func (.func 61) #[] #[]] 126::Lf) w) {res : Bool} (hF : shift_every_shift_Gauging_1 x = res) : Calls Try.prog 103 #[.agg #[.int .i64 x.Day,.int .i64 x.Stage,.int .i64 x.Flow.Lo,.int .i64 x.Flow.Hi],.pointer (some ⟨b_,0,none⟩)] w (fun e w => e = .returned (.bool res) ∧ Ctx G (.box b_ [.func (.func 61) #[] #[]] 126::Lf) w) := by
 unfold shift_every_shift_Gauging_1 at hF
 refine fnIn (args := [.agg #[.int .i64 x.Day,.int .i64 x.Stage,.int .i64 x.Flow.Lo,.int .i64 x.Flow.Hi],.pointer (some ⟨b_,0,none⟩)]) Try.func103 rfl Try.ntmps103 rfl fun a hf => wp_seq_k fun K1 h1 => cReg ?_
 refine stBx (cs := [.int .i64 x.Day,.int .i64 x.Stage,.int .i64 x.Flow.Lo,.int .i64 x.Flow.Hi]) hf hc rfl rfl rfl rfl fun b_1 a w hf hc => stP hf rfl rfl rfl (pA rfl) fun a hf => cNil ?_
 refine h1 _ _ ?_
 refine wp_seq_k fun K2 h2 => cReg ?_
 refine stE hf hc rfl rfl rfl (eLd1 sc_126 rfl (cell_box m1 rfl)) fun a w hf hc => stE hf hc rfl rfl rfl (eLdN (vs := [.int .i64 x.Day,.int .i64 x.Stage,.int .i64 x.Flow.Lo,.int .i64 x.Flow.Hi]) ag_71 rfl rfl (cells_box (n := 4) m0 rfl)) fun a w hf hc => stE hf hc rfl rfl rfl (eC (v := .bool (shift_Check_1 x)) (vs := [.agg #[.int .i64 x.Day,.int .i64 x.Stage,.int .i64 x.Flow.Lo,.int .i64 x.Flow.Hi]]) (caps := []) en_61 rfl rfl rfl rfl (fun w hc => shift_Check_1_ok x hc rfl)) fun a w hf hc => stP hf rfl rfl rfl (pNot rfl) fun a hf => stP hf rfl rfl rfl (pA rfl) fun a hf => cNil ?_
 refine h2 _ _ ?_
 refine wp_ret ?_
 obtain rfl := hF
 replace hc := hc.drop k0
 exact fnOut1 (by simp) rfl Try.results103 hf hc (show look _ 3 = _ from rfl) ⟨rfl,hc⟩

def slices_IndexFunc_Lshift_Gauging_shift_Gauging_b4 (N : Nat) (s_ : List shift_Gauging) (x : Int) : Option (Step (Int) (Int)) :=
 cond (decide (x < ((s_.length : Nat) : Int)))
 (Option.bind (getI s_ x) fun e_1 =>
 cond (shift_every_shift_Gauging_1 e_1)
 (some (.ret x))
 (some (.cont (W (x + 1)))))
 (some (.brk x))
def slices_IndexFunc_Lshift_Gauging_shift_Gauging (N : Nat) (s_ : List shift_Gauging) : Option (Int) :=
 Option.bind (loopO (fun s4 => slices_IndexFunc_Lshift_Gauging_shift_Gauging_b4 N s_ s4) N 0) fun x4 =>
 exK x4 (fun s4 => some (-1)) some
theorem slices_IndexFunc_Lshift_Gauging_shift_Gauging_ok {N : Nat} {G : Pers} {Lf : List Ent} {w : World} (s_ : List shift_Gauging) {s__p : Option Addr} {s__c : Nat} {b_ : Nat} (h_s_ : Rd G 4 s__p s__c (s_.map enc_shift_Gauging)) (hc : Ctx G (.box b_ [.func (.func 61) #[] #[]] 126::Lf) w) {res : Int} (hF : slices_IndexFunc_Lshift_Gauging_shift_Gauging N s_ = some res) : Calls Try.prog 135 #[.slice s__p s_.length s__c,.func (.func 103) #[] #[.pointer (some ⟨b_,0,none⟩)]] w (fun e w => e = .returned (.int .i64 res) ∧ Ctx G (.box b_ [.func (.func 61) #[] #[]] 126::Lf) w) := by
 unfold slices_IndexFunc_Lshift_Gauging_shift_Gauging at hF
 refine fnIn (args := [.slice s__p s_.length s__c,.func (.func 103) #[] #[.pointer (some ⟨b_,0,none⟩)]]) Try.func135 rfl Try.ntmps135 rfl fun a hf => wp_seq_k fun K1 h1 => cReg ?_
 refine stP hf rfl rfl rfl (pA rfl) fun a hf => cNil ?_
 refine h1 _ _ ?_
 refine wp_seq_k fun K2 h2 => wp_seq_k fun K3 h3 => cReg ?_
 refine stP hf rfl rfl rfl (pM rfl) fun a hf => stP hf rfl rfl rfl (pLenS Try.underlying23 rfl) fun a hf => stP hf rfl rfl rfl (pM rfl) fun a hf => cNil ?_
 refine h3 _ _ ?_
 refine wp_block ?_
 obtain ⟨x4,hx4,hF⟩ := bnd_some hF
 let S4 : Int → Act → World → Prop := (fun (zz : Int) a w => Has 19 a [(0,.slice s__p s_.length s__c),(1,.func (.func 103) #[] #[.pointer (some ⟨b_,0,none⟩)]),(7,.int .i64 ((s_.length : Nat) : Int)),(8,.int .i64 zz)] ∧ Ctx G (.box b_ [.func (.func 61) #[] #[]] 126::Lf) w)
 have hr4 : ∀ (zz : Int) a w,x4 = .go zz → S4 zz a w → K2 a w := by
  rintro x a w rfl ⟨hf,hc⟩
  replace hF := exK_go hF
  refine h2 _ _ ?_
  refine wp_seq_k fun K5 h5 => cReg ?_
  refine stP hf rfl rfl rfl (pA rfl) fun a hf => cNil ?_
  refine h5 _ _ ?_
  refine wp_ret ?_
  obtain rfl := Option.some.inj hF
  exact fnOut1 (by simp) rfl Try.results135 hf hc (show look _ 4 = _ from rfl) ⟨rfl,hc⟩
 have ho4 : ∀ r,x4 = .out r → r = res := by
  rintro r rfl
  exact Option.some.inj hF
 refine cLoop N (loopW (S := S4) (x := x4) ?_ N 0 _ _ ⟨hf.keep ⟨rfl,rfl,rfl,rfl,trivial⟩,hc⟩ hx4)
 clear hF hf hc
 rintro x st4 a w KB4 ⟨hf,hc⟩ hF hfin4 hK4
 unfold slices_IndexFunc_Lshift_Gauging_shift_Gauging_b4 at hF
 refine wp_seq_k fun K6 h6 => cReg ?_
 refine stP hf rfl rfl rfl (pLt rfl rfl) fun a hf => cNil ?_
 refine h6 _ _ ?_
 refine wp_seq_k fun K7 h7 => cCond (b := (decide (x < ((s_.length : Nat) : Int)))) hf rfl (fun hb => ?_) (fun hb => ?_)
 ·replace hF := condT hb hF
  clear hb
  refine wp_skip ?_
  refine h7 _ _ ?_
  refine wp_seq_k fun K8 h8 => wp_block ?_
  refine wp_seq_k fun K9 h9 => cReg ?_
  refine stP hf rfl rfl rfl (pM rfl) fun a hf => stP hf rfl rfl rfl (pA rfl) fun a hf => cNil ?_
  refine h9 _ _ ?_
  refine wp_seq_k fun K10 h10 => cReg ?_
  refine stP hf rfl rfl rfl (pM rfl) fun a hf => stP hf rfl rfl rfl (pM rfl) fun a hf => stP hf rfl rfl rfl (pM rfl) fun a hf => ?_
  obtain ⟨e_1,he_1,hF⟩ := bnd_some hF
  obtain ⟨b_1,o,qa,qp⟩ := h_s_.atm he_1
  refine stP hf rfl rfl rfl (pIA Try.underlying23 sz_71 rfl rfl qa) fun a hf => stE hf hc rfl rfl rfl (eLdN (vs := [.int .i64 e_1.Day,.int .i64 e_1.Stage,.int .i64 e_1.Flow.Lo,.int .i64 e_1.Flow.Hi]) ag_71 rfl rfl (cells_pc qp (n := 4) (o' := 0) rfl)) fun a w hf hc => stE hf hc rfl rfl rfl (eC (v := .bool (shift_every_shift_Gauging_1 e_1)) (vs := [.agg #[.int .i64 e_1.Day,.int .i64 e_1.Stage,.int .i64 e_1.Flow.Lo,.int .i64 e_1.Flow.Hi]]) (caps := [.pointer (some ⟨b_,0,none⟩)]) en_103 rfl rfl rfl rfl (fun w hc => (shift_every_shift_Gauging_1_ok e_1 (hc.pick k0) rfl).mono fun e w h => ⟨h.1,(h.2.unpick k0)⟩)) fun a w hf hc => cNil ?_
  refine h10 _ _ ?_
  refine cCond (b := (shift_every_shift_Gauging_1 e_1)) hf rfl (fun hb => ?_) (fun hb => ?_)
  ·replace hF := condT hb hF
   clear hb
   refine wp_seq_k fun K11 h11 => cReg ?_
   refine stP hf rfl rfl rfl (pM rfl) fun a hf => stP hf rfl rfl rfl (pA rfl) fun a hf => cNil ?_
   refine h11 _ _ ?_
   refine wp_ret ?_
   refine xBlkR ?_
   refine xThenR ?_
   refine xThenR ?_
   have he := Option.some.inj hF
   rw [← he] at hfin4
   replace hF := ho4 _ hfin4
   refine xBlkR ?_
   refine xThenR ?_
   obtain rfl := hF
   exact fnOut1 (by simp) rfl Try.results135 hf hc (show look _ 4 = _ from rfl) ⟨rfl,hc⟩
  ·replace hF := condF hb hF
   clear hb
   refine wp_skip ?_
   refine h8 _ _ ?_
   refine cReg ?_
   refine stP hf rfl rfl rfl (pAdd rfl rfl) fun a hf => stP hf rfl rfl rfl (pM rfl) fun a hf => cNil ?_
   exact hK4 (W (x + 1)) _ _ (Option.some.inj hF).symm ⟨hf.keep ⟨rfl,rfl,rfl,rfl,trivial⟩,hc⟩
 ·replace hF := condF hb hF
  clear hb
  refine wp_exit ?_
  refine xThen ?_
  refine xThen ?_
  have he := Option.some.inj hF
  rw [← he] at hfin4
  refine cHit ?_
  exact hr4 _ _ _ hfin4 ⟨hf.keep ⟨rfl,rfl,rfl,rfl,trivial⟩,hc⟩

def slices_ContainsFunc_Lshift_Gauging_shift_Gauging (N : Nat) (s_ : List shift_Gauging) : Option (Bool) :=
 Option.bind (slices_IndexFunc_Lshift_Gauging_shift_Gauging N s_) fun r =>
 some (decide (0 ≤ r))
theorem slices_ContainsFunc_Lshift_Gauging_shift_Gauging_ok {N : Nat} {G : Pers} {Lf : List Ent} {w : World} (s_ : List shift_Gauging) {s__p : Option Addr} {s__c : Nat} {b_ : Nat} (h_s_ : Rd G 4 s__p s__c (s_.map enc_shift_Gauging)) (hc : Ctx G (.box b_ [.func (.func 61) #[] #[]] 126::Lf) w) {res : Bool} (hF : slices_ContainsFunc_Lshift_Gauging_shift_Gauging N s_ = some res) : Calls Try.prog 102 #[.slice s__p s_.length s__c,.func (.func 103) #[] #[.pointer (some ⟨b_,0,none⟩)]] w (fun e w => e = .returned (.bool res) ∧ Ctx G (.box b_ [.func (.func 61) #[] #[]] 126::Lf) w) := by
 unfold slices_ContainsFunc_Lshift_Gauging_shift_Gauging at hF
 refine fnIn (args := [.slice s__p s_.length s__c,.func (.func 103) #[] #[.pointer (some ⟨b_,0,none⟩)]]) Try.func102 rfl Try.ntmps102 rfl fun a hf => wp_seq_k fun K1 h1 => cReg ?_
 refine stP hf rfl rfl rfl (pA rfl) fun a hf => cNil ?_
 refine h1 _ _ ?_
 refine wp_seq_k fun K2 h2 => cReg ?_
 refine stP hf rfl rfl rfl (pM rfl) fun a hf => stP hf rfl rfl rfl (pM rfl) fun a hf => ?_
 obtain ⟨r,hr,hF⟩ := bnd_some hF
 refine stE hf hc rfl rfl rfl (eC (v := .int .i64 r) (vs := [.slice s__p s_.length s__c,.func (.func 103) #[] #[.pointer (some ⟨b_,0,none⟩)]]) (caps := []) en_135 rfl rfl rfl rfl (fun w hc => (slices_IndexFunc_Lshift_Gauging_shift_Gauging_ok s_ h_s_ (hc.pick k0) hr).mono fun e w h => ⟨h.1,(h.2.unpick k0)⟩)) fun a w hf hc => stP hf rfl rfl rfl (pGe rfl rfl) fun a hf => stP hf rfl rfl rfl (pA rfl) fun a hf => cNil ?_
 refine h2 _ _ ?_
 refine wp_ret ?_
 obtain rfl := Option.some.inj hF
 exact fnOut1 (by simp) rfl Try.results102 hf hc (show look _ 4 = _ from rfl) ⟨rfl,hc⟩

def shift_every_shift_Gauging (N : Nat) (l : List shift_Gauging) : Option (Bool) :=
 Option.bind (slices_ContainsFunc_Lshift_Gauging_shift_Gauging N l) fun r =>
 some (!r)
theorem shift_every_shift_Gauging_ok {N : Nat} {G : Pers} {Lf : List Ent} {w : World} (l : List shift_Gauging) {l_p : Option Addr} {l_c : Nat} (h_l : Rd G 4 l_p l_c (l.map enc_shift_Gauging)) (hc : Ctx G (Lf) w) {res : Bool} (hF : shift_every_shift_Gauging N l = some res) : Calls Try.prog 60 #[.slice l_p l.length l_c,.func (.func 61) #[] #[]] w (fun e w => e = .returned (.bool res) ∧ Ctx G (Lf) w) := by
 unfold shift_every_shift_Gauging at hF
 refine fnIn (args := [.slice l_p l.length l_c,.func (.func 61) #[] #[]]) Try.func60 rfl Try.ntmps60 rfl fun a hf => wp_seq_k fun K1 h1 => cReg ?_
 refine stBx (cs := [.func (.func 61) #[] #[]]) hf hc rfl rfl rfl rfl fun b_1 a w hf hc => stP hf rfl rfl rfl (pA rfl) fun a hf => cNil ?_
 refine h1 _ _ ?_
 refine wp_seq_k fun K2 h2 => cReg ?_
 refine stP hf rfl rfl rfl (pM rfl) fun a hf => stP hf rfl rfl rfl (pMF (us := [.pointer (some ⟨b_1,0,none⟩)]) rfl rfl) fun a hf => ?_
 obtain ⟨r,hr,hF⟩ := bnd_some hF
 refine stE hf hc rfl rfl rfl (eC (v := .bool r) (vs := [.slice l_p l.length l_c,.func (.func 103) #[] #[.pointer (some ⟨b_1,0,none⟩)]]) (caps := []) en_102 rfl rfl rfl rfl (fun w hc => (slices_ContainsFunc_Lshift_Gauging_shift_Gauging_ok l h_l (hc.pick k0) hr).mono fun e w h => ⟨h.1,(h.2.unpick k0)⟩)) fun a w hf hc => stP hf rfl rfl rfl (pNot rfl) fun a hf => stP hf rfl rfl rfl (pA rfl) fun a hf => cNil ?_
 refine h2 _ _ ?_
 refine wp_ret ?_
 obtain rfl := Option.some.inj hF
 replace hc := hc.drop k0
 exact fnOut1 (by simp) rfl Try.results60 hf hc (show look _ 4 = _ from rfl) ⟨rfl,hc⟩

def shift_rises_b4 (N : Nat) (l : List shift_Mark) (sub : List shift_Mark) (x : Int) : Option (Step (Int) (Bool)) :=
 cond (decide (x < ((sub.length : Nat) : Int)))
 (Option.bind (getI l (W (x + 1))) fun e_1 =>
 Option.bind (getI l x) fun e_2 =>
 Option.bind (cond (decide (e_1.Stage ≤ e_2.Stage)) (some true) (Option.bind (getI l (W (x + 1))) fun e_3 =>
 Option.bind (getI l x) fun e_4 =>
 some (decide (e_3.Flow ≤ e_4.Flow)))) fun t_1 =>
 cond t_1
 (some (.ret false))
 (some (.cont (W (x + 1)))))
 (some (.brk x))
def shift_rises (N : Nat) (l : List shift_Mark) : Option (Bool) :=
 Option.bind (subO l 1 ((l.length : Nat) : Int)) fun sub =>
 Option.bind (loopO (fun s4 => shift_rises_b4 N l sub s4) N 0) fun x4 =>
 exK x4 (fun s4 => some true) some
theorem shift_rises_ok {N : Nat} {G : Pers} {Lf : List Ent} {w : World} (l : List shift_Mark) {l_p : Option Addr} {l_c : Nat} (h_l : Rd G 2 l_p l_c (l.map enc_shift_Mark)) (hc : Ctx G (Lf) w) {res : Bool} (hF : shift_rises N l = some res) : Calls Try.prog 64 #[.slice l_p l.length l_c] w (fun e w => e = .returned (.bool res) ∧ Ctx G (Lf) w) := by
 unfold shift_rises at hF
 refine fnIn (args := [.slice l_p l.length l_c]) Try.func64 rfl Try.ntmps64 rfl fun a hf => wp_seq_k fun K1 h1 => cReg ?_
 refine stP hf rfl rfl rfl (pA rfl) fun a hf => cNil ?_
 refine h1 _ _ ?_
 refine wp_seq_k fun K2 h2 => wp_seq_k fun K3 h3 => cReg ?_
 refine stP hf rfl rfl rfl (pM rfl) fun a hf => ?_
 obtain ⟨sub,hsub,hF⟩ := bnd_some hF
 have qs := Rd.sub h_l hsub
 refine stP hf rfl rfl rfl (pSl Try.underlying22 sz_77 rfl rfl (by simpa using h_l.1) rfl rfl hsub) fun a hf => stP hf rfl rfl rfl (pLenS Try.underlying22 rfl) fun a hf => stP hf rfl rfl rfl (pM rfl) fun a hf => cNil ?_
 refine h3 _ _ ?_
 refine wp_block ?_
 obtain ⟨x4,hx4,hF⟩ := bnd_some hF
 let S4 : Int → Act → World → Prop := (fun (zz : Int) a w => Has 37 a [(0,.slice l_p l.length l_c),(6,.int .i64 ((sub.length : Nat) : Int)),(7,.int .i64 zz)] ∧ Ctx G (Lf) w)
 have hr4 : ∀ (zz : Int) a w,x4 = .go zz → S4 zz a w → K2 a w := by
  rintro x a w rfl ⟨hf,hc⟩
  replace hF := exK_go hF
  refine h2 _ _ ?_
  refine wp_seq_k fun K5 h5 => cReg ?_
  refine stP hf rfl rfl rfl (pA rfl) fun a hf => cNil ?_
  refine h5 _ _ ?_
  refine wp_ret ?_
  obtain rfl := Option.some.inj hF
  exact fnOut1 (by simp) rfl Try.results64 hf hc (show look _ 2 = _ from rfl) ⟨rfl,hc⟩
 have ho4 : ∀ r,x4 = .out r → r = res := by
  rintro r rfl
  exact Option.some.inj hF
 refine cLoop N (loopW (S := S4) (x := x4) ?_ N 0 _ _ ⟨hf.keep ⟨rfl,rfl,rfl,trivial⟩,hc⟩ hx4)
 clear hF hf hc
 rintro x st4 a w KB4 ⟨hf,hc⟩ hF hfin4 hK4
 unfold shift_rises_b4 at hF
 refine wp_seq_k fun K6 h6 => cReg ?_
 refine stP hf rfl rfl rfl (pLt rfl rfl) fun a hf => cNil ?_
 refine h6 _ _ ?_
 refine wp_seq_k fun K7 h7 => cCond (b := (decide (x < ((sub.length : Nat) : Int)))) hf rfl (fun hb => ?_) (fun hb => ?_)
 ·replace hF := condT hb hF
  clear hb
  refine wp_skip ?_
  refine h7 _ _ ?_
  refine wp_seq_k fun K8 h8 => wp_block ?_
  refine wp_seq_k fun K9 h9 => cReg ?_
  refine stP hf rfl rfl rfl (pM rfl) fun a hf => stP hf rfl rfl rfl (pA rfl) fun a hf => cNil ?_
  refine h9 _ _ ?_
  refine wp_seq_k fun K10 h10 => ?_
  obtain ⟨e_1,he_1,hF⟩ := bnd_some hF
  obtain ⟨b_1,o,qa,qp⟩ := h_l.atm he_1
  obtain ⟨e_2,he_2,hF⟩ := bnd_some hF
  obtain ⟨b_2,o_1,qa_1,qp_1⟩ := h_l.atm he_2
  obtain ⟨t_1,ht_1,hF⟩ := bnd_some hF
  refine cQ hc follows_mx (by kernel_rfl) ?_
  refine qE hf rfl rfl rfl (Pu.ev (pM rfl)) fun a hf => qE hf rfl rfl rfl (Pu.ev (pM rfl)) fun a hf => qE hf rfl rfl rfl (Pu.ev (pAdd rfl rfl)) fun a hf => qE hf rfl rfl rfl (Pu.ev (pIA Try.underlying22 sz_77 rfl rfl qa)) fun a hf => qE hf rfl rfl rfl (Pu.ev (pFA fa_77_0 rfl)) fun a hf => qE hf rfl rfl rfl (eLd1 sc_3 rfl (cell_pc (j := 0) qp rfl)) fun a hf => qE hf rfl rfl rfl (Pu.ev (pM rfl)) fun a hf => qE hf rfl rfl rfl (Pu.ev (pM rfl)) fun a hf => qE hf rfl rfl rfl (Pu.ev (pIA Try.underlying22 sz_77 rfl rfl qa_1)) fun a hf => qE hf rfl rfl rfl (Pu.ev (pFA fa_77_0 rfl)) fun a hf => qE hf rfl rfl rfl (eLd1 sc_3 rfl (cell_pc (j := 0) qp_1 rfl)) fun a hf => qE hf rfl rfl rfl (Pu.ev (pLe rfl rfl)) fun a hf => qE hf rfl rfl rfl (Pu.ev (pM rfl)) fun a hf => ?_
  refine qCut 13 (fun a => Has 37 a [(0,.slice l_p l.length l_c),(6,.int .i64 ((sub.length : Nat) : Int)),(7,.int .i64 x),(3,.int .i64 x),(10,.slice l_p l.length l_c),(11,.int .i64 x),(12,.int .i64 (W (x + 1))),(13,.pointer (some ⟨b_1,o,none⟩)),(14,.pointer (some ⟨b_1,o + 0,none⟩)),(15,.int .i64 e_1.Stage),(16,.slice l_p l.length l_c),(17,.int .i64 x),(18,.pointer (some ⟨b_2,o_1,none⟩)),(19,.pointer (some ⟨b_2,o_1 + 0,none⟩)),(20,.int .i64 e_2.Stage),(21,.bool (decide (e_1.Stage ≤ e_2.Stage))),(22,.bool (decide (e_1.Stage ≤ e_2.Stage))),(35,.bool t_1)]) ?_ ?_
  ·cases hb : (decide (e_1.Stage ≤ e_2.Stage))
   ·rw [hb] at hf
    have hF := condF hb ht_1
    obtain ⟨e_3,he_3,hF⟩ := bnd_some hF
    obtain ⟨b_3,o_2,qa_2,qp_2⟩ := h_l.atm he_3
    obtain ⟨e_4,he_4,hF⟩ := bnd_some hF
    obtain ⟨b_4,o_3,qa_3,qp_3⟩ := h_l.atm he_4
    refine qE hf rfl rfl rfl (Pu.ev (pM rfl)) fun a hf => qE hf rfl rfl rfl (Pu.ev (pM rfl)) fun a hf => qE hf rfl rfl rfl (Pu.ev (pAdd rfl rfl)) fun a hf => qE hf rfl rfl rfl (Pu.ev (pIA Try.underlying22 sz_77 rfl rfl qa_2)) fun a hf => qE hf rfl rfl rfl (Pu.ev (pFA fa_77_1 rfl)) fun a hf => qE hf rfl rfl rfl (eLd1 sc_3 rfl (cell_pc (j := 1) qp_2 rfl)) fun a hf => qE hf rfl rfl rfl (Pu.ev (pM rfl)) fun a hf => qE hf rfl rfl rfl (Pu.ev (pM rfl)) fun a hf => qE hf rfl rfl rfl (Pu.ev (pIA Try.underlying22 sz_77 rfl rfl qa_3)) fun a hf => qE hf rfl rfl rfl (Pu.ev (pFA fa_77_1 rfl)) fun a hf => qE hf rfl rfl rfl (eLd1 sc_3 rfl (cell_pc (j := 1) qp_3 rfl)) fun a hf => qE hf rfl rfl rfl (Pu.ev (pLe rfl rfl)) fun a hf => qE hf rfl rfl rfl (Pu.ev (pPf rfl rfl)) fun a hf => ?_
    obtain rfl := Option.some.inj hF
    exact qNil (hf.keep ⟨rfl,rfl,rfl,rfl,rfl,rfl,rfl,rfl,rfl,rfl,rfl,rfl,rfl,rfl,rfl,rfl,rfl,rfl,trivial⟩)
   ·rw [hb] at hf
    have hF := condT hb ht_1
    obtain rfl := Option.some.inj hF
    refine qS hf rfl rfl rfl fun a hf => qS hf rfl rfl rfl fun a hf => qS hf rfl rfl rfl fun a hf => qS hf rfl rfl rfl fun a hf => qS hf rfl rfl rfl fun a hf => qS hf rfl rfl rfl fun a hf => qS hf rfl rfl rfl fun a hf => qS hf rfl rfl rfl fun a hf => qS hf rfl rfl rfl fun a hf => qS hf rfl rfl rfl fun a hf => qS hf rfl rfl rfl fun a hf => qS hf rfl rfl rfl fun a hf => qE hf rfl rfl rfl (Pu.ev (pPt rfl rfl)) fun a hf => ?_
    exact qNil (hf.keep ⟨rfl,rfl,rfl,rfl,rfl,rfl,rfl,rfl,rfl,rfl,rfl,rfl,rfl,rfl,rfl,rfl,rfl,rfl,trivial⟩)
  intro a hf
  intro w hc
  refine h10 _ _ ?_
  refine cCond (b := t_1) hf rfl (fun hb => ?_) (fun hb => ?_)
  ·replace hF := condT hb hF
   clear hb
   refine wp_seq_k fun K11 h11 => cReg ?_
   refine stP hf rfl rfl rfl (pA rfl) fun a hf => cNil ?_
   refine h11 _ _ ?_
   refine wp_ret ?_
   refine xBlkR ?_
   refine xThenR ?_
   refine xThenR ?_
   have he := Option.some.inj hF
   rw [← he] at hfin4
   replace hF := ho4 _ hfin4
   refine xBlkR ?_
   refine xThenR ?_
   obtain rfl := hF
   exact fnOut1 (by simp) rfl Try.results64 hf hc (show look _ 2 = _ from rfl) ⟨rfl,hc⟩
  ·replace hF := condF hb hF
   clear hb
   refine wp_skip ?_
   refine h8 _ _ ?_
   refine cReg ?_
   refine stP hf rfl rfl rfl (pAdd rfl rfl) fun a hf => stP hf rfl rfl rfl (pM rfl) fun a hf => cNil ?_
   exact hK4 (W (x + 1)) _ _ (Option.some.inj hF).symm ⟨hf.keep ⟨rfl,rfl,rfl,trivial⟩,hc⟩
 ·replace hF := condF hb hF
  clear hb
  refine wp_exit ?_
  refine xThen ?_
  refine xThen ?_
  have he := Option.some.inj hF
  rw [← he] at hfin4
  refine cHit ?_
  exact hr4 _ _ _ hfin4 ⟨hf.keep ⟨rfl,rfl,rfl,trivial⟩,hc⟩

def shift_Check_b14 (N : Nat) (r : shift_Record) (x : Int) : Option (Step (Int) (Int)) :=
 cond (decide (x < ((r.Gaugings.length : Nat) : Int)))
 (Option.bind (getI r.Gaugings x) fun e_1 =>
 Option.bind (cond (decide (0 < x)) (Option.bind (getI r.Gaugings (W (x - 1))) fun e_2 =>
 some (decide (e_1.Day ≤ e_2.Day))) (some false)) fun t_1 =>
 cond t_1
 (some (.ret 9))
 (some (.cont (W (x + 1)))))
 (some (.brk x))
def shift_Check (N : Nat) (r : shift_Record) : Option (Int) :=
 Option.bind (shift_rated N r.Rating) fun r_0 =>
 cond ((r_0 == 3) || (!(shift_in ((r.Gaugings.length : Nat) : Int) 1 30)))
 (some 3)
 (cond (r_0 != 0)
 (some r_0)
 (Option.bind (shift_every_shift_Gauging N r.Gaugings) fun r_1 =>
 cond (!r_1)
 (some 60)
 (Option.bind (shift_rises N r.Rating) fun r_2 =>
 cond (!r_2)
 (some 9)
 (Option.bind (loopO (fun s14 => shift_Check_b14 N r s14) N 0) fun x14 =>
 exK x14 (fun s14 => some 0) some))))
theorem shift_Check_ok {N : Nat} {G : Pers} {Lf : List Ent} {w : World} (r : shift_Record) {r_Rating_p : Option Addr} {r_Rating_c : Nat} {r_Gaugings_p : Option Addr} {r_Gaugings_c : Nat} (h_r_Rating : Rd G 2 r_Rating_p r_Rating_c (r.Rating.map enc_shift_Mark)) (h_r_Gaugings : Rd G 4 r_Gaugings_p r_Gaugings_c (r.Gaugings.map enc_shift_Gauging)) (hc : Ctx G (Lf) w) {res : Int} (hF : shift_Check N r = some res) : Calls Try.prog 14 #[.agg #[.slice r_Rating_p r.Rating.length r_Rating_c,.slice r_Gaugings_p r.Gaugings.length r_Gaugings_c]] w (fun e w => e = .returned (.int .i64 res) ∧ Ctx G (Lf) w) := by
 unfold shift_Check at hF
 refine fnIn (args := [.agg #[.slice r_Rating_p r.Rating.length r_Rating_c,.slice r_Gaugings_p r.Gaugings.length r_Gaugings_c]]) Try.func14 rfl Try.ntmps14 rfl fun a hf => wp_seq_k fun K1 h1 => cReg ?_
 refine stBx (cs := [.slice r_Rating_p r.Rating.length r_Rating_c,.slice r_Gaugings_p r.Gaugings.length r_Gaugings_c]) hf hc rfl rfl rfl rfl fun b_1 a w hf hc => stP hf rfl rfl rfl (pA rfl) fun a hf => cNil ?_
 refine h1 _ _ ?_
 refine wp_seq_k fun K2 h2 => cReg ?_
 refine stP hf rfl rfl rfl (pFA fa_25_0 rfl) fun a hf => stE hf hc rfl rfl rfl (eLd1 sc_22 rfl (cell_box m0 rfl)) fun a w hf hc => ?_
 obtain ⟨r_0,hr_0,hF⟩ := bnd_some hF
 refine stE hf hc rfl rfl rfl (eC (v := .int .i64 r_0) (vs := [.slice r_Rating_p r.Rating.length r_Rating_c]) (caps := []) en_58 rfl rfl rfl rfl (fun w hc => shift_rated_ok r.Rating h_r_Rating hc hr_0)) fun a w hf hc => stP hf rfl rfl rfl (pA rfl) fun a hf => cNil ?_
 refine h2 _ _ ?_
 refine wp_seq_k fun K3 h3 => wp_block ?_
 refine wp_seq_k fun K4 h4 => cReg ?_
 refine stP hf rfl rfl rfl (pM rfl) fun a hf => stP hf rfl rfl rfl (pEq rfl rfl) fun a hf => stP hf rfl rfl rfl (pM rfl) fun a hf => stCut 6 (fun a w => Has 56 a [(1,.pointer (some ⟨b_1,0,none⟩)),(3,.int .i64 r_0),(10,.int .i64 r_0),(11,.bool (r_0 == 3)),(12,.bool (r_0 == 3)),(18,.bool ((r_0 == 3) || (!(shift_in ((r.Gaugings.length : Nat) : Int) 1 30))))] ∧ Ctx G (.box b_1 [.slice r_Rating_p r.Rating.length r_Rating_c,.slice r_Gaugings_p r.Gaugings.length r_Gaugings_c] 25::Lf) w) ?_ ?_
 ·cases hb : (r_0 == 3)
  ·rw [hb] at hf
   refine stP hf rfl rfl rfl (pFA fa_25_1 rfl) fun a hf => stE hf hc rfl rfl rfl (eLd1 sc_23 rfl (cell_box m0 rfl)) fun a w hf hc => stP hf rfl rfl rfl (pLenS Try.underlying23 rfl) fun a hf => stE hf hc rfl rfl rfl (eC (v := .bool (shift_in ((r.Gaugings.length : Nat) : Int) 1 30)) (vs := [.int .i64 ((r.Gaugings.length : Nat) : Int),.int .i64 1,.int .i64 30]) (caps := []) en_59 rfl rfl rfl rfl (fun w hc => shift_in_ok ((r.Gaugings.length : Nat) : Int) 1 30 hc rfl)) fun a w hf hc => stP hf rfl rfl rfl (pNot rfl) fun a hf => stP hf rfl rfl rfl (pPf rfl rfl) fun a hf => cNil ⟨hf.keep ⟨rfl,rfl,rfl,rfl,rfl,rfl,trivial⟩,hc⟩
  ·rw [hb] at hf
   refine stS hf rfl rfl rfl fun a hf => stS hf rfl rfl rfl fun a hf => stS hf rfl rfl rfl fun a hf => stS hf rfl rfl rfl fun a hf => stS hf rfl rfl rfl fun a hf => stP hf rfl rfl rfl (pPt rfl rfl) fun a hf => cNil ⟨hf.keep ⟨rfl,rfl,rfl,rfl,rfl,rfl,trivial⟩,hc⟩
 intro a w ⟨hf,hc⟩
 refine stP hf rfl rfl rfl (pA rfl) fun a hf => cNil ?_
 refine h4 _ _ ?_
 refine cCond (b := ((r_0 == 3) || (!(shift_in ((r.Gaugings.length : Nat) : Int) 1 30)))) hf rfl (fun hb => ?_) (fun hb => ?_)
 ·replace hF := condT hb hF
  clear hb
  refine wp_seq_k fun K5 h5 => cReg ?_
  refine stP hf rfl rfl rfl (pA rfl) fun a hf => cNil ?_
  refine h5 _ _ ?_
  refine wp_ret ?_
  refine xBlkR ?_
  refine xThenR ?_
  obtain rfl := Option.some.inj hF
  replace hc := hc.drop k0
  exact fnOut1 (by simp) rfl Try.results14 hf hc (show look _ 2 = _ from rfl) ⟨rfl,hc⟩
 ·replace hF := condF hb hF
  clear hb
  refine wp_seq_k fun K6 h6 => cReg ?_
  refine stP hf rfl rfl rfl (pM rfl) fun a hf => stP hf rfl rfl rfl (pNe rfl rfl) fun a hf => stP hf rfl rfl rfl (pA rfl) fun a hf => cNil ?_
  refine h6 _ _ ?_
  refine cCond (b := (r_0 != 0)) hf rfl (fun hb => ?_) (fun hb => ?_)
  ·replace hF := condT hb hF
   clear hb
   refine wp_seq_k fun K7 h7 => cReg ?_
   refine stP hf rfl rfl rfl (pM rfl) fun a hf => stP hf rfl rfl rfl (pA rfl) fun a hf => cNil ?_
   refine h7 _ _ ?_
   refine wp_ret ?_
   refine xBlkR ?_
   refine xThenR ?_
   obtain rfl := Option.some.inj hF
   replace hc := hc.drop k0
   exact fnOut1 (by simp) rfl Try.results14 hf hc (show look _ 2 = _ from rfl) ⟨rfl,hc⟩
  ·replace hF := condF hb hF
   clear hb
   refine wp_seq_k fun K8 h8 => cReg ?_
   refine stP hf rfl rfl rfl (pFA fa_25_1 rfl) fun a hf => stE hf hc rfl rfl rfl (eLd1 sc_23 rfl (cell_box m0 rfl)) fun a w hf hc => ?_
   obtain ⟨r_1,hr_1,hF⟩ := bnd_some hF
   refine stE hf hc rfl rfl rfl (eC (v := .bool r_1) (vs := [.slice r_Gaugings_p r.Gaugings.length r_Gaugings_c,.func (.func 61) #[] #[]]) (caps := []) en_60 rfl rfl rfl rfl (fun w hc => shift_every_shift_Gauging_ok r.Gaugings h_r_Gaugings hc hr_1)) fun a w hf hc => stP hf rfl rfl rfl (pNot rfl) fun a hf => stP hf rfl rfl rfl (pA rfl) fun a hf => cNil ?_
   refine h8 _ _ ?_
   refine cCond (b := (!r_1)) hf rfl (fun hb => ?_) (fun hb => ?_)
   ·replace hF := condT hb hF
    clear hb
    refine wp_seq_k fun K9 h9 => cReg ?_
    refine stP hf rfl rfl rfl (pA rfl) fun a hf => cNil ?_
    refine h9 _ _ ?_
    refine wp_ret ?_
    refine xBlkR ?_
    refine xThenR ?_
    obtain rfl := Option.some.inj hF
    replace hc := hc.drop k0
    exact fnOut1 (by simp) rfl Try.results14 hf hc (show look _ 2 = _ from rfl) ⟨rfl,hc⟩
   ·replace hF := condF hb hF
    clear hb
    refine wp_seq_k fun K10 h10 => cReg ?_
    refine stP hf rfl rfl rfl (pFA fa_25_0 rfl) fun a hf => stE hf hc rfl rfl rfl (eLd1 sc_22 rfl (cell_box m0 rfl)) fun a w hf hc => ?_
    obtain ⟨r_2,hr_2,hF⟩ := bnd_some hF
    refine stE hf hc rfl rfl rfl (eC (v := .bool r_2) (vs := [.slice r_Rating_p r.Rating.length r_Rating_c]) (caps := []) en_64 rfl rfl rfl rfl (fun w hc => shift_rises_ok r.Rating h_r_Rating hc hr_2)) fun a w hf hc => stP hf rfl rfl rfl (pNot rfl) fun a hf => stP hf rfl rfl rfl (pA rfl) fun a hf => cNil ?_
    refine h10 _ _ ?_
    refine cCond (b := (!r_2)) hf rfl (fun hb => ?_) (fun hb => ?_)
    ·replace hF := condT hb hF
     clear hb
     refine wp_seq_k fun K11 h11 => cReg ?_
     refine stP hf rfl rfl rfl (pA rfl) fun a hf => cNil ?_
     refine h11 _ _ ?_
     refine wp_ret ?_
     refine xBlkR ?_
     refine xThenR ?_
     obtain rfl := Option.some.inj hF
     replace hc := hc.drop k0
     exact fnOut1 (by simp) rfl Try.results14 hf hc (show look _ 2 = _ from rfl) ⟨rfl,hc⟩
    ·replace hF := condF hb hF
     clear hb
     refine wp_skip ?_
     refine h3 _ _ ?_
     refine wp_seq_k fun K12 h12 => wp_seq_k fun K13 h13 => cReg ?_
     refine stP hf rfl rfl rfl (pFA fa_25_1 rfl) fun a hf => stE hf hc rfl rfl rfl (eLd1 sc_23 rfl (cell_box m0 rfl)) fun a w hf hc => stP hf rfl rfl rfl (pLenS Try.underlying23 rfl) fun a hf => stP hf rfl rfl rfl (pM rfl) fun a hf => cNil ?_
     refine h13 _ _ ?_
     refine wp_block ?_
     obtain ⟨x14,hx14,hF⟩ := bnd_some hF
     let S14 : Int → Act → World → Prop := (fun (zz : Int) a w => Has 56 a [(1,.pointer (some ⟨b_1,0,none⟩)),(34,.slice r_Gaugings_p r.Gaugings.length r_Gaugings_c),(35,.int .i64 ((r.Gaugings.length : Nat) : Int)),(36,.int .i64 zz)] ∧ Ctx G (.box b_1 [.slice r_Rating_p r.Rating.length r_Rating_c,.slice r_Gaugings_p r.Gaugings.length r_Gaugings_c] 25::Lf) w)
     have hr14 : ∀ (zz : Int) a w,x14 = .go zz → S14 zz a w → K12 a w := by
      rintro x a w rfl ⟨hf,hc⟩
      replace hF := exK_go hF
      refine h12 _ _ ?_
      refine wp_seq_k fun K15 h15 => cReg ?_
      refine stP hf rfl rfl rfl (pA rfl) fun a hf => cNil ?_
      refine h15 _ _ ?_
      refine wp_ret ?_
      obtain rfl := Option.some.inj hF
      replace hc := hc.drop k0
      exact fnOut1 (by simp) rfl Try.results14 hf hc (show look _ 2 = _ from rfl) ⟨rfl,hc⟩
     have ho14 : ∀ r,x14 = .out r → r = res := by
      rintro r rfl
      exact Option.some.inj hF
     refine cLoop N (loopW (S := S14) (x := x14) ?_ N 0 _ _ ⟨hf.keep ⟨rfl,rfl,rfl,rfl,trivial⟩,hc⟩ hx14)
     clear hF hf hc
     rintro x st14 a w KB14 ⟨hf,hc⟩ hF hfin14 hK14
     unfold shift_Check_b14 at hF
     refine wp_seq_k fun K16 h16 => cReg ?_
     refine stP hf rfl rfl rfl (pLt rfl rfl) fun a hf => cNil ?_
     refine h16 _ _ ?_
     refine wp_seq_k fun K17 h17 => cCond (b := (decide (x < ((r.Gaugings.length : Nat) : Int)))) hf rfl (fun hb => ?_) (fun hb => ?_)
     ·replace hF := condT hb hF
      clear hb
      refine wp_skip ?_
      refine h17 _ _ ?_
      refine wp_seq_k fun K18 h18 => wp_block ?_
      refine wp_seq_k fun K19 h19 => cReg ?_
      refine stP hf rfl rfl rfl (pM rfl) fun a hf => ?_
      obtain ⟨e_1,he_1,hF⟩ := bnd_some hF
      obtain ⟨b_2,o,qa,qp⟩ := h_r_Gaugings.atm he_1
      refine stP hf rfl rfl rfl (pIA Try.underlying23 sz_71 rfl rfl qa) fun a hf => stE hf hc rfl rfl rfl (eLdN (vs := [.int .i64 e_1.Day,.int .i64 e_1.Stage,.int .i64 e_1.Flow.Lo,.int .i64 e_1.Flow.Hi]) ag_71 rfl rfl (cells_pc qp (n := 4) (o' := 0) rfl)) fun a w hf hc => stAl (cs := [.int .i64 0,.int .i64 0,.int .i64 0,.int .i64 0]) hf hc rfl rfl zr_71 rfl fun b_3 a w hf hc => stP hf rfl rfl rfl (pA rfl) fun a hf => stSt (vs := [.int .i64 e_1.Day,.int .i64 e_1.Stage,.int .i64 e_1.Flow.Lo,.int .i64 e_1.Flow.Hi]) hf hc rfl rfl rfl rfl sz_71 rfl rfl u0 fun w hc => cNil ?_
      refine h19 _ _ ?_
      refine wp_seq_k fun K20 h20 => ?_
      obtain ⟨t_1,ht_1,hF⟩ := bnd_some hF
      refine cQ hc follows_mx (by kernel_rfl) ?_
      refine qE hf rfl rfl rfl (Pu.ev (pM rfl)) fun a hf => qE hf rfl rfl rfl (Pu.ev (pGt rfl rfl)) fun a hf => qE hf rfl rfl rfl (Pu.ev (pM rfl)) fun a hf => qCut 11 (fun a => Has 56 a [(1,.pointer (some ⟨b_1,0,none⟩)),(34,.slice r_Gaugings_p r.Gaugings.length r_Gaugings_c),(35,.int .i64 ((r.Gaugings.length : Nat) : Int)),(36,.int .i64 x),(5,.pointer (some ⟨b_3,0,none⟩)),(4,.int .i64 x),(41,.int .i64 x),(42,.bool (decide (0 < x))),(43,.bool (decide (0 < x))),(54,.bool t_1)]) ?_ ?_
      ·cases hb : (decide (0 < x))
       ·rw [hb] at hf
        have hF := condF hb ht_1
        obtain rfl := Option.some.inj hF
        refine qS hf rfl rfl rfl fun a hf => qS hf rfl rfl rfl fun a hf => qS hf rfl rfl rfl fun a hf => qS hf rfl rfl rfl fun a hf => qS hf rfl rfl rfl fun a hf => qS hf rfl rfl rfl fun a hf => qS hf rfl rfl rfl fun a hf => qS hf rfl rfl rfl fun a hf => qS hf rfl rfl rfl fun a hf => qS hf rfl rfl rfl fun a hf => qE hf rfl rfl rfl (Pu.ev (pPf rfl rfl)) fun a hf => qNil (hf.keep ⟨rfl,rfl,rfl,rfl,rfl,rfl,rfl,rfl,rfl,rfl,trivial⟩)
       ·rw [hb] at hf
        have hF := condT hb ht_1
        obtain ⟨e_2,he_2,hF⟩ := bnd_some hF
        obtain ⟨b_4,o_1,qa_1,qp_1⟩ := h_r_Gaugings.atm he_2
        refine qE hf rfl rfl rfl (Pu.ev (pFA fa_71_0 rfl)) fun a hf => qE hf rfl rfl rfl (eLd1 sc_3 rfl (cell_box m0 rfl)) fun a hf => qE hf rfl rfl rfl (Pu.ev (pFA fa_25_1 rfl)) fun a hf => qE hf rfl rfl rfl (eLd1 sc_23 rfl (cell_box m1 rfl)) fun a hf => qE hf rfl rfl rfl (Pu.ev (pM rfl)) fun a hf => qE hf rfl rfl rfl (Pu.ev (pSub rfl rfl)) fun a hf => qE hf rfl rfl rfl (Pu.ev (pIA Try.underlying23 sz_71 rfl rfl qa_1)) fun a hf => qE hf rfl rfl rfl (Pu.ev (pFA fa_71_0 rfl)) fun a hf => qE hf rfl rfl rfl (eLd1 sc_3 rfl (cell_pc (j := 0) qp_1 rfl)) fun a hf => qE hf rfl rfl rfl (Pu.ev (pLe rfl rfl)) fun a hf => qE hf rfl rfl rfl (Pu.ev (pPt rfl rfl)) fun a hf => ?_
        obtain rfl := Option.some.inj hF
        exact qNil (hf.keep ⟨rfl,rfl,rfl,rfl,rfl,rfl,rfl,rfl,rfl,rfl,trivial⟩)
      intro a hf
      intro w hc
      refine h20 _ _ ?_
      refine cCond (b := t_1) hf rfl (fun hb => ?_) (fun hb => ?_)
      ·replace hF := condT hb hF
       clear hb
       refine wp_seq_k fun K21 h21 => cReg ?_
       refine stP hf rfl rfl rfl (pA rfl) fun a hf => cNil ?_
       refine h21 _ _ ?_
       refine wp_ret ?_
       refine xBlkR ?_
       refine xThenR ?_
       refine xThenR ?_
       have he := Option.some.inj hF
       rw [← he] at hfin14
       replace hF := ho14 _ hfin14
       refine xBlkR ?_
       refine xThenR ?_
       obtain rfl := hF
       replace hc := hc.drop k1
       replace hc := hc.drop k0
       exact fnOut1 (by simp) rfl Try.results14 hf hc (show look _ 2 = _ from rfl) ⟨rfl,hc⟩
      ·replace hF := condF hb hF
       clear hb
       refine wp_skip ?_
       refine h18 _ _ ?_
       refine cReg ?_
       refine stP hf rfl rfl rfl (pAdd rfl rfl) fun a hf => stP hf rfl rfl rfl (pM rfl) fun a hf => cNil ?_
       replace hc := hc.drop k0
       exact hK14 (W (x + 1)) _ _ (Option.some.inj hF).symm ⟨hf.keep ⟨rfl,rfl,rfl,rfl,trivial⟩,hc⟩
     ·replace hF := condF hb hF
      clear hb
      refine wp_exit ?_
      refine xThen ?_
      refine xThen ?_
      have he := Option.some.inj hF
      rw [← he] at hfin14
      refine cHit ?_
      exact hr14 _ _ _ hfin14 ⟨hf.keep ⟨rfl,rfl,rfl,rfl,trivial⟩,hc⟩

def shift_shifts  : Unit :=
 ()
theorem shift_shifts_ok {G : Pers} {Lf : List Ent} {w : World}    (hc : Ctx G (Lf) w) {res : Unit} (hF : shift_shifts = res) : Calls Try.prog 82 #[] w (fun e w => e = .returned (.func (.func 113) #[] #[]) ∧ Ctx G (Lf) w) := by
 unfold shift_shifts at hF
 refine fnIn (args := []) Try.func82 rfl Try.ntmps82 rfl fun a hf => wp_seq_k fun K1 h1 => cReg ?_
 refine stP hf rfl rfl rfl (pA rfl) fun a hf => cNil ?_
 refine h1 _ _ ?_
 refine wp_seq_k fun K2 h2 => cReg ?_
 refine stP hf rfl rfl rfl (pA rfl) fun a hf => cNil ?_
 refine h2 _ _ ?_
 refine wp_ret ?_
 obtain rfl := hF
 exact fnOut1 (by simp) rfl Try.results82 hf hc (show look _ 0 = _ from rfl) ⟨rfl,hc⟩

def shift_shifts_1_b3 (N : Nat) {σ : Type} (y : σ → (Int × Int) → Option (σ × Bool)) (x : Int) (sg : σ) : Option (Step (Int × σ) (σ)) :=
 cond (decide (x < 601))
 (Option.bind (y sg (x,W (x - 300))) fun ry =>
 cond (!ry.2)
 (some (.ret ry.1))
 (some (.cont (W (x + 1),ry.1))))
 (some (.brk (x,sg)))
def shift_shifts_1 (N : Nat) {σ : Type} (y : σ → (Int × Int) → Option (σ × Bool)) (sg0 : σ) : Option (σ) :=
 Option.bind (loopO (fun s3 => shift_shifts_1_b3 N y s3.1 s3.2) N (0,sg0)) fun x3 =>
 exK x3 (fun s3 => some s3.2) some
theorem shift_shifts_1_ok {N : Nat} {G : Pers} {Lf : List Ent} {w : World} {σ : Type}    (J : σ → List Ent → Prop) (y : σ → (Int × Int) → Option (σ × Bool)) {l : Nat} (hy : YieldsTo Try.prog G l (fun x : (Int × Int) => [.int .i64 x.1,.int .i64 x.2]) J y) (sg0 : σ) {Ls0 : List Ent} (hJ0 : J sg0 Ls0) (hc : Ctx G ((Ls0 ++ Lf)) w) {res : σ} (hF : shift_shifts_1 N  y sg0 = some res) : Calls Try.prog 113 #[.func (.yield l) #[] #[]] w (fun e w => (∃ v,e = .returned v) ∧ ∃ L,J res L ∧ Ctx G ((L ++ Lf)) w) := by
 unfold shift_shifts_1 at hF
 refine fnIn (args := [.func (.yield l) #[] #[]]) Try.func113 rfl Try.ntmps113 rfl fun a hf => wp_seq_k fun K1 h1 => cReg ?_
 refine stP hf rfl rfl rfl (pM rfl) fun a hf => cNil ?_
 refine h1 _ _ ?_
 refine wp_thenK fun K2 h2 => wp_block ?_
 obtain ⟨x3,hx3,hF⟩ := bnd_some hF
 let S3 : (Int × σ) → Act → World → Prop := (fun (zz : Int × σ) a w => ∃ (Ls : List Ent),J zz.2 Ls ∧ Has 13 a [(0,.func (.yield l) #[] #[]),(3,.int .i64 zz.1)] ∧ Ctx G ((Ls ++ Lf)) w)
 have hr3 : ∀ (zz : Int × σ) a w,x3 = .go zz → S3 zz a w → K2 a w := by
  rintro ⟨x,sg⟩ a w rfl ⟨Ls,hJ,hf,hc⟩
  replace hF := exK_go hF
  refine h2 _ _ ?_
  obtain rfl := Option.some.inj hF
  exact fnOut0 (by simp) rfl Try.results113 hf ⟨⟨_,rfl⟩,Ls,hJ,hc⟩
 have ho3 : ∀ r,x3 = .out r → r = res := by
  rintro r rfl
  exact Option.some.inj hF
 refine cLoop N (loopW (S := S3) (x := x3) ?_ N (0,sg0) _ _ ⟨Ls0,hJ0,hf.keep ⟨rfl,rfl,trivial⟩,hc⟩ hx3)
 clear hF hf hc
 rintro ⟨x,sg⟩ st3 a w KB3 ⟨Ls,hJ,hf,hc⟩ hF hfin3 hK3
 unfold shift_shifts_1_b3 at hF
 refine wp_seq_k fun K4 h4 => cReg ?_
 refine stP hf rfl rfl rfl (pLt rfl rfl) fun a hf => cNil ?_
 refine h4 _ _ ?_
 refine wp_seq_k fun K5 h5 => cCond (b := (decide (x < 601))) hf rfl (fun hb => ?_) (fun hb => ?_)
 ·replace hF := condT hb hF
  clear hb
  refine wp_skip ?_
  refine h5 _ _ ?_
  refine wp_seq_k fun K6 h6 => wp_block ?_
  refine wp_seq_k fun K7 h7 => cReg ?_
  refine stP hf rfl rfl rfl (pM rfl) fun a hf => stP hf rfl rfl rfl (pA rfl) fun a hf => cNil ?_
  refine h7 _ _ ?_
  refine wp_seq_k fun K8 h8 => ?_
  obtain ⟨ry,hry,hF⟩ := bnd_some hF
  refine yReg 4 (fun a w => Has 13 a [(0,.func (.yield l) #[] #[]),(3,.int .i64 x),(2,.int .i64 x),(6,.func (.yield l) #[] #[]),(7,.int .i64 x),(8,.int .i64 x),(9,.int .i64 (W (x - 300)))] ∧ Ctx G ((Ls ++ Lf)) w) (fun _ _ h => by obtain ⟨⟨_,h⟩,_⟩ := h; cases h) ?_ ?_
  ·refine stP hf rfl rfl rfl (pM rfl) fun a hf => stP hf rfl rfl rfl (pM rfl) fun a hf => stP hf rfl rfl rfl (pM rfl) fun a hf => stP hf rfl rfl rfl (pSub rfl rfl) fun a hf => cNil ⟨hf.keep ⟨rfl,rfl,rfl,rfl,rfl,rfl,rfl,trivial⟩,hc⟩
  rintro a w ⟨hf,hc⟩
  refine stY (own := []) (v := (x,W (x - 300))) hy hJ hry hf hc rfl rfl rfl rfl rfl fun a w Ls_1 hJ_1 hf hc => ?_
  replace hc : Ctx G ((Ls_1 ++ Lf)) w := hc
  refine yRest (fun _ _ h => by obtain ⟨⟨_,h⟩,_⟩ := h; cases h) ?_
  refine stP hf rfl rfl rfl (pNot rfl) fun a hf => cNil ?_
  refine h8 _ _ ?_
  refine cCond (b := (!ry.2)) hf rfl (fun hb => ?_) (fun hb => ?_)
  ·replace hF := condT hb hF
   clear hb
   refine wp_ret ?_
   refine xBlkR ?_
   refine xThenR ?_
   refine xThenR ?_
   have he := Option.some.inj hF
   rw [← he] at hfin3
   replace hF := ho3 _ hfin3
   refine xBlkR ?_
   refine xThenR ?_
   obtain rfl := hF
   exact fnOut0 (by simp) rfl Try.results113 hf ⟨⟨_,rfl⟩,Ls_1,hJ_1,hc⟩
  ·replace hF := condF hb hF
   clear hb
   refine wp_skip ?_
   refine h6 _ _ ?_
   refine cReg ?_
   refine stP hf rfl rfl rfl (pAdd rfl rfl) fun a hf => stP hf rfl rfl rfl (pM rfl) fun a hf => cNil ?_
   exact hK3 (W (x + 1),ry.1) _ _ (Option.some.inj hF).symm ⟨Ls_1,hJ_1,hf.keep ⟨rfl,rfl,trivial⟩,hc⟩
 ·replace hF := condF hb hF
  clear hb
  refine wp_exit ?_
  refine xThen ?_
  refine xThen ?_
  have he := Option.some.inj hF
  rw [← he] at hfin3
  refine cHit ?_
  exact hr3 _ _ _ hfin3 ⟨Ls,hJ,hf.keep ⟨rfl,rfl,trivial⟩,hc⟩

def shift_means_2 (m : shift_Mark) (x : Int) : Bool :=
 (decide (x < m.Stage))
theorem shift_means_2_ok {G : Pers} {Lf : List Ent} {w : World} (m : shift_Mark) (x : Int) {b_ : Nat}  (hc : Ctx G (.box b_ [.int .i64 x] 3::Lf) w) {res : Bool} (hF : shift_means_2 m x = res) : Calls Try.prog 106 #[.agg #[.int .i64 m.Stage,.int .i64 m.Flow],.pointer (some ⟨b_,0,none⟩)] w (fun e w => e = .returned (.bool res) ∧ Ctx G (.box b_ [.int .i64 x] 3::Lf) w) := by
 unfold shift_means_2 at hF
 refine fnIn (args := [.agg #[.int .i64 m.Stage,.int .i64 m.Flow],.pointer (some ⟨b_,0,none⟩)]) Try.func106 rfl Try.ntmps106 rfl fun a hf => wp_seq_k fun K1 h1 => cReg ?_
 refine stBx (cs := [.int .i64 m.Stage,.int .i64 m.Flow]) hf hc rfl rfl rfl rfl fun b_1 a w hf hc => stP hf rfl rfl rfl (pA rfl) fun a hf => cNil ?_
 refine h1 _ _ ?_
 refine wp_seq_k fun K2 h2 => cReg ?_
 refine stP hf rfl rfl rfl (pFA fa_77_0 rfl) fun a hf => stE hf hc rfl rfl rfl (eLd1 sc_3 rfl (cell_box m0 rfl)) fun a w hf hc => stE hf hc rfl rfl rfl (eLd1 sc_3 rfl (cell_box m1 rfl)) fun a w hf hc => stP hf rfl rfl rfl (pGt rfl rfl) fun a hf => stP hf rfl rfl rfl (pA rfl) fun a hf => cNil ?_
 refine h2 _ _ ?_
 refine wp_ret ?_
 obtain rfl := hF
 replace hc := hc.drop k0
 exact fnOut1 (by simp) rfl Try.results106 hf hc (show look _ 3 = _ from rfl) ⟨rfl,hc⟩

def slices_IndexFunc_Lshift_Mark_shift_Mark_s2_b4 (N : Nat) (s_ : List shift_Mark) (f_ : Int) (x : Int) : Option (Step (Int) (Int)) :=
 cond (decide (x < ((s_.length : Nat) : Int)))
 (Option.bind (getI s_ x) fun e_1 =>
 cond (shift_means_2 e_1 f_)
 (some (.ret x))
 (some (.cont (W (x + 1)))))
 (some (.brk x))
def slices_IndexFunc_Lshift_Mark_shift_Mark_s2 (N : Nat) (s_ : List shift_Mark) (f_ : Int) : Option (Int) :=
 Option.bind (loopO (fun s4 => slices_IndexFunc_Lshift_Mark_shift_Mark_s2_b4 N s_ f_ s4) N 0) fun x4 =>
 exK x4 (fun s4 => some (-1)) some
theorem slices_IndexFunc_Lshift_Mark_shift_Mark_s2_ok {N : Nat} {G : Pers} {Lf : List Ent} {w : World} (s_ : List shift_Mark) (f_ : Int) {s__p : Option Addr} {s__c : Nat} {b_ : Nat} (h_s_ : Rd G 2 s__p s__c (s_.map enc_shift_Mark)) (hc : Ctx G (.box b_ [.int .i64 f_] 3::Lf) w) {res : Int} (hF : slices_IndexFunc_Lshift_Mark_shift_Mark_s2 N s_ f_ = some res) : Calls Try.prog 105 #[.slice s__p s_.length s__c,.func (.func 106) #[] #[.pointer (some ⟨b_,0,none⟩)]] w (fun e w => e = .returned (.int .i64 res) ∧ Ctx G (.box b_ [.int .i64 f_] 3::Lf) w) := by
 unfold slices_IndexFunc_Lshift_Mark_shift_Mark_s2 at hF
 refine fnIn (args := [.slice s__p s_.length s__c,.func (.func 106) #[] #[.pointer (some ⟨b_,0,none⟩)]]) Try.func105 rfl Try.ntmps105 rfl fun a hf => wp_seq_k fun K1 h1 => cReg ?_
 refine stP hf rfl rfl rfl (pA rfl) fun a hf => cNil ?_
 refine h1 _ _ ?_
 refine wp_seq_k fun K2 h2 => wp_seq_k fun K3 h3 => cReg ?_
 refine stP hf rfl rfl rfl (pM rfl) fun a hf => stP hf rfl rfl rfl (pLenS Try.underlying22 rfl) fun a hf => stP hf rfl rfl rfl (pM rfl) fun a hf => cNil ?_
 refine h3 _ _ ?_
 refine wp_block ?_
 obtain ⟨x4,hx4,hF⟩ := bnd_some hF
 let S4 : Int → Act → World → Prop := (fun (zz : Int) a w => Has 19 a [(0,.slice s__p s_.length s__c),(1,.func (.func 106) #[] #[.pointer (some ⟨b_,0,none⟩)]),(7,.int .i64 ((s_.length : Nat) : Int)),(8,.int .i64 zz)] ∧ Ctx G (.box b_ [.int .i64 f_] 3::Lf) w)
 have hr4 : ∀ (zz : Int) a w,x4 = .go zz → S4 zz a w → K2 a w := by
  rintro x a w rfl ⟨hf,hc⟩
  replace hF := exK_go hF
  refine h2 _ _ ?_
  refine wp_seq_k fun K5 h5 => cReg ?_
  refine stP hf rfl rfl rfl (pA rfl) fun a hf => cNil ?_
  refine h5 _ _ ?_
  refine wp_ret ?_
  obtain rfl := Option.some.inj hF
  exact fnOut1 (by simp) rfl Try.results105 hf hc (show look _ 4 = _ from rfl) ⟨rfl,hc⟩
 have ho4 : ∀ r,x4 = .out r → r = res := by
  rintro r rfl
  exact Option.some.inj hF
 refine cLoop N (loopW (S := S4) (x := x4) ?_ N 0 _ _ ⟨hf.keep ⟨rfl,rfl,rfl,rfl,trivial⟩,hc⟩ hx4)
 clear hF hf hc
 rintro x st4 a w KB4 ⟨hf,hc⟩ hF hfin4 hK4
 unfold slices_IndexFunc_Lshift_Mark_shift_Mark_s2_b4 at hF
 refine wp_seq_k fun K6 h6 => cReg ?_
 refine stP hf rfl rfl rfl (pLt rfl rfl) fun a hf => cNil ?_
 refine h6 _ _ ?_
 refine wp_seq_k fun K7 h7 => cCond (b := (decide (x < ((s_.length : Nat) : Int)))) hf rfl (fun hb => ?_) (fun hb => ?_)
 ·replace hF := condT hb hF
  clear hb
  refine wp_skip ?_
  refine h7 _ _ ?_
  refine wp_seq_k fun K8 h8 => wp_block ?_
  refine wp_seq_k fun K9 h9 => cReg ?_
  refine stP hf rfl rfl rfl (pM rfl) fun a hf => stP hf rfl rfl rfl (pA rfl) fun a hf => cNil ?_
  refine h9 _ _ ?_
  refine wp_seq_k fun K10 h10 => cReg ?_
  refine stP hf rfl rfl rfl (pM rfl) fun a hf => stP hf rfl rfl rfl (pM rfl) fun a hf => stP hf rfl rfl rfl (pM rfl) fun a hf => ?_
  obtain ⟨e_1,he_1,hF⟩ := bnd_some hF
  obtain ⟨b_1,o,qa,qp⟩ := h_s_.atm he_1
  refine stP hf rfl rfl rfl (pIA Try.underlying22 sz_77 rfl rfl qa) fun a hf => stE hf hc rfl rfl rfl (eLdN (vs := [.int .i64 e_1.Stage,.int .i64 e_1.Flow]) ag_77 rfl rfl (cells_pc qp (n := 2) (o' := 0) rfl)) fun a w hf hc => stE hf hc rfl rfl rfl (eC (v := .bool (shift_means_2 e_1 f_)) (vs := [.agg #[.int .i64 e_1.Stage,.int .i64 e_1.Flow]]) (caps := [.pointer (some ⟨b_,0,none⟩)]) en_106 rfl rfl rfl rfl (fun w hc => (shift_means_2_ok e_1 f_ (hc.pick k0) rfl).mono fun e w h => ⟨h.1,(h.2.unpick k0)⟩)) fun a w hf hc => cNil ?_
  refine h10 _ _ ?_
  refine cCond (b := (shift_means_2 e_1 f_)) hf rfl (fun hb => ?_) (fun hb => ?_)
  ·replace hF := condT hb hF
   clear hb
   refine wp_seq_k fun K11 h11 => cReg ?_
   refine stP hf rfl rfl rfl (pM rfl) fun a hf => stP hf rfl rfl rfl (pA rfl) fun a hf => cNil ?_
   refine h11 _ _ ?_
   refine wp_ret ?_
   refine xBlkR ?_
   refine xThenR ?_
   refine xThenR ?_
   have he := Option.some.inj hF
   rw [← he] at hfin4
   replace hF := ho4 _ hfin4
   refine xBlkR ?_
   refine xThenR ?_
   obtain rfl := hF
   exact fnOut1 (by simp) rfl Try.results105 hf hc (show look _ 4 = _ from rfl) ⟨rfl,hc⟩
  ·replace hF := condF hb hF
   clear hb
   refine wp_skip ?_
   refine h8 _ _ ?_
   refine cReg ?_
   refine stP hf rfl rfl rfl (pAdd rfl rfl) fun a hf => stP hf rfl rfl rfl (pM rfl) fun a hf => cNil ?_
   exact hK4 (W (x + 1)) _ _ (Option.some.inj hF).symm ⟨hf.keep ⟨rfl,rfl,rfl,rfl,trivial⟩,hc⟩
 ·replace hF := condF hb hF
  clear hb
  refine wp_exit ?_
  refine xThen ?_
  refine xThen ?_
  have he := Option.some.inj hF
  rw [← he] at hfin4
  refine cHit ?_
  exact hr4 _ _ _ hfin4 ⟨hf.keep ⟨rfl,rfl,rfl,rfl,trivial⟩,hc⟩

def shift_ratio_b4 (N : Nat) (a_1 : Int) (b_2 : Int) : Option (Step (Int × Int) (api_Ratio)) :=
 cond (b_2 != 0)
 (Option.bind (nz b_2) fun un_2 =>
 some (.cont (b_2,a_1.tmod b_2)))
 (some (.brk (a_1,b_2)))
def shift_ratio (N : Nat) (n : Int) (d : Int) : Option (api_Ratio) :=
 Option.bind (loopO (fun s4 => shift_ratio_b4 N s4.1 s4.2) N (max n (W (0 - n)),d)) fun x4 =>
 exK x4 (fun s4 => Option.bind (nz s4.1) fun un =>
 Option.bind (nz s4.1) fun un_1 =>
 some (⟨W (n.tdiv s4.1),W (d.tdiv s4.1)⟩ : api_Ratio)) some
theorem shift_ratio_ok {N : Nat} {G : Pers} {Lf : List Ent} {w : World} (n : Int) (d : Int)   (hc : Ctx G (Lf) w) {res : api_Ratio} (hF : shift_ratio N n d = some res) : Calls Try.prog 71 #[.int .i64 n,.int .i64 d] w (fun e w => e = .returned (.agg #[.int .i64 res.N,.int .i64 res.D]) ∧ Ctx G (Lf) w) := by
 unfold shift_ratio at hF
 refine fnIn (args := [.int .i64 n,.int .i64 d]) Try.func71 rfl Try.ntmps71 rfl fun a hf => wp_seq_k fun K1 h1 => cReg ?_
 refine stAl (cs := [.int .i64 0,.int .i64 0]) hf hc rfl rfl zr_37 rfl fun b_1 a w hf hc => cNil ?_
 refine h1 _ _ ?_
 refine wp_seq_k fun K2 h2 => cReg ?_
 refine stP hf rfl rfl rfl (pM rfl) fun a hf => stP hf rfl rfl rfl (pM rfl) fun a hf => stP hf rfl rfl rfl (pNeg rfl) fun a hf => stP hf rfl rfl rfl (pMax2 rfl rfl) fun a hf => stP hf rfl rfl rfl (pM rfl) fun a hf => stP hf rfl rfl rfl (pA rfl) fun a hf => stP hf rfl rfl rfl (pA rfl) fun a hf => cNil ?_
 refine h2 _ _ ?_
 refine wp_seq_k fun K3 h3 => wp_block ?_
 obtain ⟨x4,hx4,hF⟩ := bnd_some hF
 let S4 : (Int × Int) → Act → World → Prop := (fun (zz : Int × Int) a w => Has 25 a [(0,.int .i64 n),(1,.int .i64 d),(4,.pointer (some ⟨b_1,0,none⟩)),(5,.int .i64 zz.1),(6,.int .i64 zz.2)] ∧ Ctx G (.box b_1 [.int .i64 0,.int .i64 0] 37::Lf) w)
 have hr4 : ∀ (zz : Int × Int) a w,x4 = .go zz → S4 zz a w → K3 a w := by
  rintro ⟨a_1,b_2⟩ a w rfl ⟨hf,hc⟩
  replace hF := exK_go hF
  refine h3 _ _ ?_
  refine wp_seq_k fun K5 h5 => ?_
  obtain ⟨un,hun,hF⟩ := bnd_some hF
  obtain ⟨un_1,hun_1,hF⟩ := bnd_some hF
  refine regionE (fun θ => [⟨none,none,0,.int .i64 n⟩,⟨none,none,1,.int .i64 d⟩,⟨none,none,4,.pointer (some ⟨b_1,0,none⟩)⟩,⟨none,none,5,.int .i64 a_1⟩,⟨some 0,none,18,.int .i64 n⟩,⟨some 1,none,19,.int .i64 a_1⟩,⟨some 2,none,20,.int .i64 (W (n.tdiv a_1))⟩,⟨some 3,none,21,.int .i64 d⟩,⟨some 4,none,22,.int .i64 a_1⟩,⟨some 5,none,23,.int .i64 (W (d.tdiv a_1))⟩,⟨some 6,none,24,.agg #[.int .i64 (W (n.tdiv a_1)),.int .i64 (W (d.tdiv a_1))]⟩]) (fun E θ => (bif E 7 then .box b_1 [.int .i64 (W (n.tdiv a_1)),.int .i64 (W (d.tdiv a_1))] 37 else .box b_1 [.int .i64 0,.int .i64 0] 37)::Lf) [] (fun a w => Has 25 a [(4,.pointer (some ⟨b_1,0,none⟩))] ∧ Ctx G (.box b_1 [.int .i64 (W (n.tdiv a_1)),.int .i64 (W (d.tdiv a_1))] 37::Lf) w) follows_mx (by kernel_rfl) (by kernel_rfl) (HasE.of hf ⟨rfl,rfl,rfl,rfl,trivial,trivial,trivial,trivial,trivial,trivial,trivial,trivial⟩) hc ⟨?_,?_,?_,?_,?_,?_,?_,?_,trivial⟩ ?_ ?_
  ·intro E θ a w hD hi hp he hc
   have hf := he.h0
   replace hf := hf.more he 0 rfl onT
   refine stP hf rfl rfl rfl (pM rfl) fun a hf => cNil ?_
   refine xThenN ?_
   intro ds u hau
   refine ⟨θ,he.put0 hi hau hf rfl 4 rfl rfl,?_⟩
   exact hc
  ·intro E θ a w hD hi hp he hc
   have hf := he.h0
   replace hf := hf.more he 3 rfl onT
   refine stP hf rfl rfl rfl (pM rfl) fun a hf => cNil ?_
   refine xThenN ?_
   intro ds u hau
   refine ⟨θ,he.put0 hi hau hf rfl 5 rfl rfl,?_⟩
   exact hc
  ·intro E θ a w hD hi hp he hc
   have e0 := hp.of (k := 0) rfl
   have e1 := hp.of (k := 1) rfl
   have hf := he.h0
   replace hf := hf.more he 4 rfl (onP e0)
   replace hf := hf.more he 5 rfl (onP e1)
   refine stP hf rfl rfl rfl (pQuo rfl rfl (nz_spec hun)) fun a hf => cNil ?_
   refine xThenN ?_
   intro ds u hau
   refine ⟨θ,he.put0 hi hau hf rfl 6 rfl rfl,?_⟩
   exact hc
  ·intro E θ a w hD hi hp he hc
   have hf := he.h0
   replace hf := hf.more he 1 rfl onT
   refine stP hf rfl rfl rfl (pM rfl) fun a hf => cNil ?_
   refine xThenN ?_
   intro ds u hau
   refine ⟨θ,he.put0 hi hau hf rfl 7 rfl rfl,?_⟩
   exact hc
  ·intro E θ a w hD hi hp he hc
   have hf := he.h0
   replace hf := hf.more he 3 rfl onT
   refine stP hf rfl rfl rfl (pM rfl) fun a hf => cNil ?_
   refine xThenN ?_
   intro ds u hau
   refine ⟨θ,he.put0 hi hau hf rfl 8 rfl rfl,?_⟩
   exact hc
  ·intro E θ a w hD hi hp he hc
   have e3 := hp.of (k := 3) rfl
   have e4 := hp.of (k := 4) rfl
   have hf := he.h0
   replace hf := hf.more he 7 rfl (onP e3)
   replace hf := hf.more he 8 rfl (onP e4)
   refine stP hf rfl rfl rfl (pQuo rfl rfl (nz_spec hun_1)) fun a hf => cNil ?_
   refine xThenN ?_
   intro ds u hau
   refine ⟨θ,he.put0 hi hau hf rfl 9 rfl rfl,?_⟩
   exact hc
  ·intro E θ a w hD hi hp he hc
   have e2 := hp.of (k := 2) rfl
   have e5 := hp.of (k := 5) rfl
   have hf := he.h0
   replace hf := hf.more he 6 rfl (onP e2)
   replace hf := hf.more he 9 rfl (onP e5)
   refine stP hf rfl rfl rfl (pBuildS (cells := [.int .i64 (W (n.tdiv a_1)),.int .i64 (W (d.tdiv a_1))]) bt_37 rfl rfl) fun a hf => cNil ?_
   refine xThenN ?_
   intro ds u hau
   refine ⟨θ,he.put0 hi hau hf rfl 10 rfl rfl,?_⟩
   exact hc
  ·intro E θ a w hD hi hp he hc
   have e6 := hp.of (k := 6) rfl
   try dsimp only at hc
   rw [hi] at hc
   have hf := he.h0
   replace hf := hf.more he 2 rfl onT
   replace hf := hf.more he 10 rfl (onP e6)
   refine stSt (vs := [.int .i64 (W (n.tdiv a_1)),.int .i64 (W (d.tdiv a_1))]) hf hc rfl rfl rfl rfl sz_37 rfl rfl u0 fun w hc => cNil ?_
   refine xThenN ?_
   intro ds u hau
   refine ⟨θ,he.stay0 hi hau hf rfl,?_⟩
   try dsimp only
   rw [updE_self E 7]
   exact hc
  ·intro E θ a w hall he hc
   have hf := he.h0
   have e7 := hall 7 rfl
   replace hf := hf.more he 2 rfl (onT)
   try dsimp only at hc
   rw [e7] at hc
   exact ⟨hf.keep ⟨rfl,trivial⟩,hc⟩
  rintro a w ⟨hf,hc⟩
  refine h5 _ _ ?_
  refine wp_ret ?_
  obtain rfl := Option.some.inj hF
  exact fnOut1 (by simp) rfl Try.results71 hf hc (rv_cellN (vs := [.int .i64 (W (n.tdiv a_1)),.int .i64 (W (d.tdiv a_1))]) ag_37 rfl rfl (cells_box (n := 2) m0 rfl)) ⟨rfl,(hc.drop k0)⟩
 have ho4 : ∀ r,x4 = .out r → r = res := by
  rintro r rfl
  exact Option.some.inj hF
 refine cLoop N (loopW (S := S4) (x := x4) ?_ N (max n (W (0 - n)),d) _ _ ⟨hf.keep ⟨rfl,rfl,rfl,rfl,rfl,trivial⟩,hc⟩ hx4)
 clear hF hf hc
 rintro ⟨a_1,b_2⟩ st4 a w KB4 ⟨hf,hc⟩ hF hfin4 hK4
 unfold shift_ratio_b4 at hF
 refine wp_seq_k fun K6 h6 => wp_seq_k fun K7 h7 => cReg ?_
 refine stP hf rfl rfl rfl (pM rfl) fun a hf => stP hf rfl rfl rfl (pNe rfl rfl) fun a hf => cNil ?_
 refine h7 _ _ ?_
 refine cCond (b := (b_2 != 0)) hf rfl (fun hb => ?_) (fun hb => ?_)
 ·replace hF := condT hb hF
  clear hb
  refine wp_skip ?_
  refine h6 _ _ ?_
  refine wp_thenK fun K8 h8 => wp_block ?_
  obtain ⟨un_2,hun_2,hF⟩ := bnd_some hF
  refine cQ hc follows_mx (by kernel_rfl) ?_
  refine qE hf rfl rfl rfl (Pu.ev (pM rfl)) fun a hf => qE hf rfl rfl rfl (Pu.ev (pM rfl)) fun a hf => qE hf rfl rfl rfl (Pu.ev (pM rfl)) fun a hf => qE hf rfl rfl rfl (Pu.ev (pRem rfl rfl (nz_spec hun_2))) fun a hf => qE hf rfl rfl rfl (Pu.ev (pA rfl)) fun a hf => qE hf rfl rfl rfl (Pu.ev (pA rfl)) fun a hf => ?_
  intro w hc
  refine h8 _ _ ?_
  exact hK4 (b_2,a_1.tmod b_2) _ _ (Option.some.inj hF).symm ⟨hf.keep ⟨rfl,rfl,rfl,rfl,rfl,trivial⟩,hc⟩
 ·replace hF := condF hb hF
  clear hb
  refine wp_exit ?_
  refine xThen ?_
  refine xThen ?_
  have he := Option.some.inj hF
  rw [← he] at hfin4
  refine cHit ?_
  exact hr4 _ _ _ hfin4 ⟨hf.keep ⟨rfl,rfl,rfl,rfl,rfl,trivial⟩,hc⟩

def shift_means_1 (N : Nat) (a_ : shift_Mark) (b_ : shift_Mark) (x : Int) : Option (api_Ratio) :=
 Option.bind (shift_ratio N (W ((W (a_.Flow * (W (b_.Stage - a_.Stage)))) + (W ((W (b_.Flow - a_.Flow)) * (W (x - a_.Stage)))))) (W (b_.Stage - a_.Stage))) fun r =>
 some r
theorem shift_means_1_ok {N : Nat} {G : Pers} {Lf : List Ent} {w : World} (a_ : shift_Mark) (b_ : shift_Mark) (x : Int) {b__1 : Nat}  (hc : Ctx G (.box b__1 [.int .i64 x] 3::Lf) w) {res : api_Ratio} (hF : shift_means_1 N a_ b_ x = some res) : Calls Try.prog 104 #[.agg #[.int .i64 a_.Stage,.int .i64 a_.Flow],.agg #[.int .i64 b_.Stage,.int .i64 b_.Flow],.pointer (some ⟨b__1,0,none⟩)] w (fun e w => e = .returned (.agg #[.int .i64 res.N,.int .i64 res.D]) ∧ Ctx G (.box b__1 [.int .i64 x] 3::Lf) w) := by
 unfold shift_means_1 at hF
 refine fnIn (args := [.agg #[.int .i64 a_.Stage,.int .i64 a_.Flow],.agg #[.int .i64 b_.Stage,.int .i64 b_.Flow],.pointer (some ⟨b__1,0,none⟩)]) Try.func104 rfl Try.ntmps104 rfl fun a hf => wp_seq_k fun K1 h1 => cReg ?_
 refine stBx (cs := [.int .i64 a_.Stage,.int .i64 a_.Flow]) hf hc rfl rfl rfl rfl fun b_1 a w hf hc => stBx (cs := [.int .i64 b_.Stage,.int .i64 b_.Flow]) hf hc rfl rfl rfl rfl fun b_2 a w hf hc => stAl (cs := [.int .i64 0,.int .i64 0]) hf hc rfl rfl zr_37 rfl fun b_3 a w hf hc => cNil ?_
 refine h1 _ _ ?_
 refine wp_seq_k fun K2 h2 => cReg ?_
 refine stP hf rfl rfl rfl (pFA fa_77_0 rfl) fun a hf => stE hf hc rfl rfl rfl (eLd1 sc_3 rfl (cell_box m1 rfl)) fun a w hf hc => stP hf rfl rfl rfl (pFA fa_77_0 rfl) fun a hf => stE hf hc rfl rfl rfl (eLd1 sc_3 rfl (cell_box m2 rfl)) fun a w hf hc => stP hf rfl rfl rfl (pSub rfl rfl) fun a hf => stP hf rfl rfl rfl (pA rfl) fun a hf => cNil ?_
 refine h2 _ _ ?_
 refine wp_seq_k fun K3 h3 => cReg ?_
 refine stP hf rfl rfl rfl (pFA fa_77_1 rfl) fun a hf => stE hf hc rfl rfl rfl (eLd1 sc_3 rfl (cell_box m2 rfl)) fun a w hf hc => stP hf rfl rfl rfl (pM rfl) fun a hf => stP hf rfl rfl rfl (pMul rfl rfl) fun a hf => stP hf rfl rfl rfl (pFA fa_77_1 rfl) fun a hf => stE hf hc rfl rfl rfl (eLd1 sc_3 rfl (cell_box m1 rfl)) fun a w hf hc => stP hf rfl rfl rfl (pFA fa_77_1 rfl) fun a hf => stE hf hc rfl rfl rfl (eLd1 sc_3 rfl (cell_box m2 rfl)) fun a w hf hc => stP hf rfl rfl rfl (pSub rfl rfl) fun a hf => stE hf hc rfl rfl rfl (eLd1 sc_3 rfl (cell_box m3 rfl)) fun a w hf hc => stP hf rfl rfl rfl (pFA fa_77_0 rfl) fun a hf => stE hf hc rfl rfl rfl (eLd1 sc_3 rfl (cell_box m2 rfl)) fun a w hf hc => stP hf rfl rfl rfl (pSub rfl rfl) fun a hf => ?_
 refine stP hf rfl rfl rfl (pMul rfl rfl) fun a hf => stP hf rfl rfl rfl (pAdd rfl rfl) fun a hf => stP hf rfl rfl rfl (pM rfl) fun a hf => ?_
 obtain ⟨r,hr,hF⟩ := bnd_some hF
 refine stE hf hc rfl rfl rfl (eC (v := .agg #[.int .i64 r.N,.int .i64 r.D]) (vs := [.int .i64 (W ((W (a_.Flow * (W (b_.Stage - a_.Stage)))) + (W ((W (b_.Flow - a_.Flow)) * (W (x - a_.Stage)))))),.int .i64 (W (b_.Stage - a_.Stage))]) (caps := []) en_71 rfl rfl rfl rfl (fun w hc => shift_ratio_ok (W ((W (a_.Flow * (W (b_.Stage - a_.Stage)))) + (W ((W (b_.Flow - a_.Flow)) * (W (x - a_.Stage)))))) (W (b_.Stage - a_.Stage)) hc hr)) fun a w hf hc => stSt (vs := [.int .i64 r.N,.int .i64 r.D]) hf hc rfl rfl rfl rfl sz_37 rfl rfl u0 fun w hc => cNil ?_
 refine h3 _ _ ?_
 refine wp_ret ?_
 obtain rfl := Option.some.inj hF
 replace hc := hc.drop k2
 replace hc := hc.drop k1
 replace hc := hc.pick k0
 replace hc := hc.pick k1
 exact fnOut1 (by simp) rfl Try.results104 hf hc (rv_cellN (vs := [.int .i64 r.N,.int .i64 r.D]) ag_37 rfl rfl (cells_box (n := 2) m1 rfl)) ⟨rfl,(hc.drop k1)⟩

def shift_means (N : Nat) (l : List shift_Mark) (at_ : Int) : Option (api_Ratio) :=
 Option.bind (getI l (W (((l.length : Nat) : Int) - 1))) fun e_1 =>
 Option.bind (getI l 0) fun e_2 =>
 cond (decide (at_ ≤ e_2.Stage))
 (Option.bind (getI l 0) fun e_3 =>
 some (⟨e_3.Flow,1⟩ : api_Ratio))
 (cond (decide (e_1.Stage ≤ at_))
 (some (⟨e_1.Flow,1⟩ : api_Ratio))
 (Option.bind (slices_IndexFunc_Lshift_Mark_shift_Mark_s2 N l at_) fun r =>
 Option.bind (getI l (W (r - 1))) fun e_4 =>
 Option.bind (getI l r) fun e_5 =>
 Option.bind (shift_means_1 N e_4 e_5 at_) fun r_1 =>
 some r_1))
theorem shift_means_ok {N : Nat} {G : Pers} {Lf : List Ent} {w : World} (l : List shift_Mark) (at_ : Int) {l_p : Option Addr} {l_c : Nat} (h_l : Rd G 2 l_p l_c (l.map enc_shift_Mark)) (hc : Ctx G (Lf) w) {res : api_Ratio} (hF : shift_means N l at_ = some res) : Calls Try.prog 69 #[.slice l_p l.length l_c,.int .i64 at_] w (fun e w => e = .returned (.agg #[.int .i64 res.N,.int .i64 res.D]) ∧ Ctx G (Lf) w) := by
 unfold shift_means at hF
 refine fnIn (args := [.slice l_p l.length l_c,.int .i64 at_]) Try.func69 rfl Try.ntmps69 rfl fun a hf => wp_seq_k fun K1 h1 => cReg ?_
 refine stBx (cs := [.int .i64 at_]) hf hc rfl rfl rfl rfl fun b_1 a w hf hc => stAl (cs := [.int .i64 0,.int .i64 0]) hf hc rfl rfl zr_37 rfl fun b_2 a w hf hc => cNil ?_
 refine h1 _ _ ?_
 refine wp_seq_k fun K2 h2 => cReg ?_
 refine stP hf rfl rfl rfl (pM rfl) fun a hf => stP hf rfl rfl rfl (pM rfl) fun a hf => stP hf rfl rfl rfl (pLenS Try.underlying22 rfl) fun a hf => stP hf rfl rfl rfl (pSub rfl rfl) fun a hf => ?_
 obtain ⟨e_1,he_1,hF⟩ := bnd_some hF
 obtain ⟨b_3,o,qa,qp⟩ := h_l.atm he_1
 refine stP hf rfl rfl rfl (pIA Try.underlying22 sz_77 rfl rfl qa) fun a hf => stE hf hc rfl rfl rfl (eLdN (vs := [.int .i64 e_1.Stage,.int .i64 e_1.Flow]) ag_77 rfl rfl (cells_pc qp (n := 2) (o' := 0) rfl)) fun a w hf hc => stAl (cs := [.int .i64 0,.int .i64 0]) hf hc rfl rfl zr_77 rfl fun b_4 a w hf hc => stSt (vs := [.int .i64 e_1.Stage,.int .i64 e_1.Flow]) hf hc rfl rfl rfl rfl sz_77 rfl rfl u0 fun w hc => cNil ?_
 refine h2 _ _ ?_
 refine wp_seq_k fun K3 h3 => wp_block ?_
 refine wp_seq_k fun K4 h4 => ?_
 obtain ⟨e_2,he_2,hF⟩ := bnd_some hF
 obtain ⟨b_5,o_1,qa_1,qp_1⟩ := h_l.atm he_2
 refine cQ hc follows_mx (by kernel_rfl) ?_
 refine qE hf rfl rfl rfl (eLd1 sc_3 rfl (cell_box m2 rfl)) fun a hf => qE hf rfl rfl rfl (Pu.ev (pM rfl)) fun a hf => qE hf rfl rfl rfl (Pu.ev (pIA Try.underlying22 sz_77 rfl rfl qa_1)) fun a hf => qE hf rfl rfl rfl (Pu.ev (pFA fa_77_0 rfl)) fun a hf => qE hf rfl rfl rfl (eLd1 sc_3 rfl (cell_pc (j := 0) qp_1 rfl)) fun a hf => qE hf rfl rfl rfl (Pu.ev (pLe rfl rfl)) fun a hf => qE hf rfl rfl rfl (Pu.ev (pA rfl)) fun a hf => ?_
 intro w hc
 refine h4 _ _ ?_
 refine cCond (b := (decide (at_ ≤ e_2.Stage))) hf rfl (fun hb => ?_) (fun hb => ?_)
 ·replace hF := condT hb hF
  clear hb
  refine wp_seq_k fun K5 h5 => cReg ?_
  refine stP hf rfl rfl rfl (pM rfl) fun a hf => ?_
  obtain ⟨e_3,he_3,hF⟩ := bnd_some hF
  obtain ⟨b_6,o_2,qa_2,qp_2⟩ := h_l.atm he_3
  refine stP hf rfl rfl rfl (pIA Try.underlying22 sz_77 rfl rfl qa_2) fun a hf => stP hf rfl rfl rfl (pFA fa_77_1 rfl) fun a hf => stE hf hc rfl rfl rfl (eLd1 sc_3 rfl (cell_pc (j := 1) qp_2 rfl)) fun a w hf hc => stP hf rfl rfl rfl (pBuildS (cells := [.int .i64 e_3.Flow,.int .i64 1]) bt_37 rfl rfl) fun a hf => stSt (vs := [.int .i64 e_3.Flow,.int .i64 1]) hf hc rfl rfl rfl rfl sz_37 rfl rfl u1 fun w hc => cNil ?_
  refine h5 _ _ ?_
  refine wp_ret ?_
  refine xBlkR ?_
  refine xThenR ?_
  obtain rfl := Option.some.inj hF
  replace hc := hc.drop k2
  replace hc := hc.drop k0
  exact fnOut1 (by simp) rfl Try.results69 hf hc (rv_cellN (vs := [.int .i64 e_3.Flow,.int .i64 1]) ag_37 rfl rfl (cells_box (n := 2) m0 rfl)) ⟨rfl,(hc.drop k0)⟩
 ·replace hF := condF hb hF
  clear hb
  refine wp_seq_k fun K6 h6 => cReg ?_
  refine stE hf hc rfl rfl rfl (eLd1 sc_3 rfl (cell_box m2 rfl)) fun a w hf hc => stP hf rfl rfl rfl (pFA fa_77_0 rfl) fun a hf => stE hf hc rfl rfl rfl (eLd1 sc_3 rfl (cell_box m0 rfl)) fun a w hf hc => stP hf rfl rfl rfl (pGe rfl rfl) fun a hf => stP hf rfl rfl rfl (pA rfl) fun a hf => cNil ?_
  refine h6 _ _ ?_
  refine cCond (b := (decide (e_1.Stage ≤ at_))) hf rfl (fun hb => ?_) (fun hb => ?_)
  ·replace hF := condT hb hF
   clear hb
   refine wp_seq_k fun K7 h7 => cReg ?_
   refine stP hf rfl rfl rfl (pFA fa_77_1 rfl) fun a hf => stE hf hc rfl rfl rfl (eLd1 sc_3 rfl (cell_box m0 rfl)) fun a w hf hc => stP hf rfl rfl rfl (pBuildS (cells := [.int .i64 e_1.Flow,.int .i64 1]) bt_37 rfl rfl) fun a hf => stSt (vs := [.int .i64 e_1.Flow,.int .i64 1]) hf hc rfl rfl rfl rfl sz_37 rfl rfl u1 fun w hc => cNil ?_
   refine h7 _ _ ?_
   refine wp_ret ?_
   refine xBlkR ?_
   refine xThenR ?_
   obtain rfl := Option.some.inj hF
   replace hc := hc.drop k2
   replace hc := hc.drop k0
   exact fnOut1 (by simp) rfl Try.results69 hf hc (rv_cellN (vs := [.int .i64 e_1.Flow,.int .i64 1]) ag_37 rfl rfl (cells_box (n := 2) m0 rfl)) ⟨rfl,(hc.drop k0)⟩
  ·replace hF := condF hb hF
   clear hb
   refine wp_skip ?_
   refine h3 _ _ ?_
   refine wp_seq_k fun K8 h8 => cReg ?_
   refine stP hf rfl rfl rfl (pMF (us := [.pointer (some ⟨b_1,0,none⟩)]) rfl rfl) fun a hf => stP hf rfl rfl rfl (pA rfl) fun a hf => cNil ?_
   refine h8 _ _ ?_
   refine wp_seq_k fun K9 h9 => cReg ?_
   refine stP hf rfl rfl rfl (pM rfl) fun a hf => stP hf rfl rfl rfl (pMF (us := [.pointer (some ⟨b_1,0,none⟩)]) rfl rfl) fun a hf => ?_
   obtain ⟨r,hr,hF⟩ := bnd_some hF
   refine stE hf hc rfl rfl rfl (eC (v := .int .i64 r) (vs := [.slice l_p l.length l_c,.func (.func 106) #[] #[.pointer (some ⟨b_1,0,none⟩)]]) (caps := []) en_105 rfl rfl rfl rfl (fun w hc => (slices_IndexFunc_Lshift_Mark_shift_Mark_s2_ok l at_ h_l (hc.pick k2) hr).mono fun e w h => ⟨h.1,(h.2.unpick k2)⟩)) fun a w hf hc => stP hf rfl rfl rfl (pA rfl) fun a hf => cNil ?_
   refine h9 _ _ ?_
   refine wp_seq_k fun K10 h10 => ?_
   obtain ⟨e_4,he_4,hF⟩ := bnd_some hF
   obtain ⟨b_7,o_3,qa_3,qp_3⟩ := h_l.atm he_4
   obtain ⟨e_5,he_5,hF⟩ := bnd_some hF
   obtain ⟨b_8,o_4,qa_4,qp_4⟩ := h_l.atm he_5
   obtain ⟨r_1,hr_1,hF⟩ := bnd_some hF
   refine regionE (fun θ => [⟨none,none,0,.slice l_p l.length l_c⟩,⟨none,none,4,.pointer (some ⟨b_2,0,none⟩)⟩,⟨none,none,6,.func (.func 104) #[] #[.pointer (some ⟨b_1,0,none⟩)]⟩,⟨none,none,7,.int .i64 r⟩,⟨some 0,none,38,.func (.func 104) #[] #[.pointer (some ⟨b_1,0,none⟩)]⟩,⟨some 1,none,39,.slice l_p l.length l_c⟩,⟨some 2,none,40,.int .i64 r⟩,⟨some 3,none,41,.int .i64 (W (r - 1))⟩,⟨some 4,none,42,.pointer (some ⟨b_7,o_3,none⟩)⟩,⟨some 5,none,43,.agg #[.int .i64 e_4.Stage,.int .i64 e_4.Flow]⟩,⟨some 6,none,44,.slice l_p l.length l_c⟩,⟨some 7,none,45,.int .i64 r⟩,⟨some 8,none,46,.pointer (some ⟨b_8,o_4,none⟩)⟩,⟨some 9,none,47,.agg #[.int .i64 e_5.Stage,.int .i64 e_5.Flow]⟩,⟨some 10,none,48,.agg #[.int .i64 r_1.N,.int .i64 r_1.D]⟩]) (fun E θ => .box b_4 [.int .i64 e_1.Stage,.int .i64 e_1.Flow] 77::(bif E 11 then .box b_2 [.int .i64 r_1.N,.int .i64 r_1.D] 37 else .box b_2 [.int .i64 0,.int .i64 0] 37)::.box b_1 [.int .i64 at_] 3::Lf) [] (fun a w => Has 49 a [(4,.pointer (some ⟨b_2,0,none⟩))] ∧ Ctx G (.box b_4 [.int .i64 e_1.Stage,.int .i64 e_1.Flow] 77::.box b_2 [.int .i64 r_1.N,.int .i64 r_1.D] 37::.box b_1 [.int .i64 at_] 3::Lf) w) follows_mx (by kernel_rfl) (by kernel_rfl) (HasE.of hf ⟨rfl,rfl,rfl,rfl,trivial,trivial,trivial,trivial,trivial,trivial,trivial,trivial,trivial,trivial,trivial,trivial⟩) hc ⟨?_,?_,?_,?_,?_,?_,?_,?_,?_,?_,?_,?_,trivial⟩ ?_ ?_
   ·intro E θ a w hD hi hp he hc
    have hf := he.h0
    replace hf := hf.more he 2 rfl onT
    refine stP hf rfl rfl rfl (pM rfl) fun a hf => cNil ?_
    refine xThenN ?_
    intro ds u hau
    refine ⟨θ,he.put0 hi hau hf rfl 4 rfl rfl,?_⟩
    exact hc
   ·intro E θ a w hD hi hp he hc
    have hf := he.h0
    replace hf := hf.more he 0 rfl onT
    refine stP hf rfl rfl rfl (pM rfl) fun a hf => cNil ?_
    refine xThenN ?_
    intro ds u hau
    refine ⟨θ,he.put0 hi hau hf rfl 5 rfl rfl,?_⟩
    exact hc
   ·intro E θ a w hD hi hp he hc
    have hf := he.h0
    replace hf := hf.more he 3 rfl onT
    refine stP hf rfl rfl rfl (pM rfl) fun a hf => cNil ?_
    refine xThenN ?_
    intro ds u hau
    refine ⟨θ,he.put0 hi hau hf rfl 6 rfl rfl,?_⟩
    exact hc
   ·intro E θ a w hD hi hp he hc
    have e2 := hp.of (k := 2) rfl
    have hf := he.h0
    replace hf := hf.more he 6 rfl (onP e2)
    refine stP hf rfl rfl rfl (pSub rfl rfl) fun a hf => cNil ?_
    refine xThenN ?_
    intro ds u hau
    refine ⟨θ,he.put0 hi hau hf rfl 7 rfl rfl,?_⟩
    exact hc
   ·intro E θ a w hD hi hp he hc
    have e1 := hp.of (k := 1) rfl
    have e3 := hp.of (k := 3) rfl
    have hf := he.h0
    replace hf := hf.more he 5 rfl (onP e1)
    replace hf := hf.more he 7 rfl (onP e3)
    refine stP hf rfl rfl rfl (pIA Try.underlying22 sz_77 rfl rfl qa_3) fun a hf => cNil ?_
    refine xThenN ?_
    intro ds u hau
    refine ⟨θ,he.put0 hi hau hf rfl 8 rfl rfl,?_⟩
    exact hc
   ·intro E θ a w hD hi hp he hc
    have e4 := hp.of (k := 4) rfl
    have hf := he.h0
    replace hf := hf.more he 8 rfl (onP e4)
    refine stE hf hc rfl rfl rfl (eLdN (vs := [.int .i64 e_4.Stage,.int .i64 e_4.Flow]) ag_77 rfl rfl (cells_pc qp_3 (n := 2) (o' := 0) rfl)) fun a w hf hc => cNil ?_
    refine xThenN ?_
    intro ds u hau
    refine ⟨θ,he.put0 hi hau hf rfl 9 rfl rfl,?_⟩
    exact hc
   ·intro E θ a w hD hi hp he hc
    have hf := he.h0
    replace hf := hf.more he 0 rfl onT
    refine stP hf rfl rfl rfl (pM rfl) fun a hf => cNil ?_
    refine xThenN ?_
    intro ds u hau
    refine ⟨θ,he.put0 hi hau hf rfl 10 rfl rfl,?_⟩
    exact hc
   ·intro E θ a w hD hi hp he hc
    have hf := he.h0
    replace hf := hf.more he 3 rfl onT
    refine stP hf rfl rfl rfl (pM rfl) fun a hf => cNil ?_
    refine xThenN ?_
    intro ds u hau
    refine ⟨θ,he.put0 hi hau hf rfl 11 rfl rfl,?_⟩
    exact hc
   ·intro E θ a w hD hi hp he hc
    have e6 := hp.of (k := 6) rfl
    have e7 := hp.of (k := 7) rfl
    have hf := he.h0
    replace hf := hf.more he 10 rfl (onP e6)
    replace hf := hf.more he 11 rfl (onP e7)
    refine stP hf rfl rfl rfl (pIA Try.underlying22 sz_77 rfl rfl qa_4) fun a hf => cNil ?_
    refine xThenN ?_
    intro ds u hau
    refine ⟨θ,he.put0 hi hau hf rfl 12 rfl rfl,?_⟩
    exact hc
   ·intro E θ a w hD hi hp he hc
    have e8 := hp.of (k := 8) rfl
    have hf := he.h0
    replace hf := hf.more he 12 rfl (onP e8)
    refine stE hf hc rfl rfl rfl (eLdN (vs := [.int .i64 e_5.Stage,.int .i64 e_5.Flow]) ag_77 rfl rfl (cells_pc qp_4 (n := 2) (o' := 0) rfl)) fun a w hf hc => cNil ?_
    refine xThenN ?_
    intro ds u hau
    refine ⟨θ,he.put0 hi hau hf rfl 13 rfl rfl,?_⟩
    exact hc
   ·intro E θ a w hD hi hp he hc
    have e0 := hp.of (k := 0) rfl
    have e5 := hp.of (k := 5) rfl
    have e9 := hp.of (k := 9) rfl
    have hf := he.h0
    replace hf := hf.more he 4 rfl (onP e0)
    replace hf := hf.more he 9 rfl (onP e5)
    replace hf := hf.more he 13 rfl (onP e9)
    refine stE hf hc rfl rfl rfl (eC (v := .agg #[.int .i64 r_1.N,.int .i64 r_1.D]) (vs := [.agg #[.int .i64 e_4.Stage,.int .i64 e_4.Flow],.agg #[.int .i64 e_5.Stage,.int .i64 e_5.Flow]]) (caps := [.pointer (some ⟨b_1,0,none⟩)]) en_104 rfl rfl rfl rfl (fun w hc => (shift_means_1_ok e_4 e_5 at_ (hc.pick k2) hr_1).mono fun e w h => ⟨h.1,(h.2.unpick k2)⟩)) fun a w hf hc => cNil ?_
    refine xThenN ?_
    intro ds u hau
    refine ⟨θ,he.put0 hi hau hf rfl 14 rfl rfl,?_⟩
    exact hc
   ·intro E θ a w hD hi hp he hc
    have e10 := hp.of (k := 10) rfl
    try dsimp only at hc
    rw [hi] at hc
    have hf := he.h0
    replace hf := hf.more he 1 rfl onT
    replace hf := hf.more he 14 rfl (onP e10)
    refine stSt (vs := [.int .i64 r_1.N,.int .i64 r_1.D]) hf hc rfl rfl rfl rfl sz_37 rfl rfl u1 fun w hc => cNil ?_
    refine xThenN ?_
    intro ds u hau
    refine ⟨θ,he.stay0 hi hau hf rfl,?_⟩
    try dsimp only
    rw [updE_self E 11]
    exact hc
   ·intro E θ a w hall he hc
    have hf := he.h0
    have e11 := hall 11 rfl
    replace hf := hf.more he 1 rfl (onT)
    try dsimp only at hc
    rw [e11] at hc
    exact ⟨hf.keep ⟨rfl,trivial⟩,hc⟩
   rintro a w ⟨hf,hc⟩
   refine h10 _ _ ?_
   refine wp_ret ?_
   obtain rfl := Option.some.inj hF
   replace hc := hc.drop k2
   replace hc := hc.drop k0
   exact fnOut1 (by simp) rfl Try.results69 hf hc (rv_cellN (vs := [.int .i64 r_1.N,.int .i64 r_1.D]) ag_37 rfl rfl (cells_box (n := 2) m0 rfl)) ⟨rfl,(hc.drop k0)⟩

def shift_book_passed (N : Nat) (w_ : shift_book) (g : shift_Gauging) (shift : Int) : Option (Bool) :=
 Option.bind (shift_means N w_.Record.Rating (W (g.Stage - shift))) fun r =>
 some ((decide ((W (g.Flow.Lo * r.D)) ≤ r.N)) && (decide (r.N ≤ (W (g.Flow.Hi * r.D)))))
theorem shift_book_passed_ok {N : Nat} {G : Pers} {Lf : List Ent} {w : World} (w_ : shift_book) (g : shift_Gauging) (shift : Int) {b_ : Nat} {w__Record_Rating_p : Option Addr} {w__Record_Rating_c : Nat} {w__Record_Gaugings_p : Option Addr} {w__Record_Gaugings_c : Nat} {w__passes_p : Option Addr} {w__passes_c : Nat} (h_w__Record_Rating : Rd G 2 w__Record_Rating_p w__Record_Rating_c (w_.Record.Rating.map enc_shift_Mark)) (h_w__Record_Gaugings : Rd G 4 w__Record_Gaugings_p w__Record_Gaugings_c (w_.Record.Gaugings.map enc_shift_Gauging)) (h_w__passes : Rd G 2 w__passes_p w__passes_c (w_.passes.map enc_api_Span)) (hc : Ctx G (.box b_ [.slice w__Record_Rating_p w_.Record.Rating.length w__Record_Rating_c,.slice w__Record_Gaugings_p w_.Record.Gaugings.length w__Record_Gaugings_c,.slice w__passes_p w_.passes.length w__passes_c] 140::Lf) w) {res : Bool} (hF : shift_book_passed N w_ g shift = some res) : Calls Try.prog 107 #[.pointer (some ⟨b_,0,none⟩),.agg #[.int .i64 g.Day,.int .i64 g.Stage,.int .i64 g.Flow.Lo,.int .i64 g.Flow.Hi],.int .i64 shift] w (fun e w => e = .returned (.bool res) ∧ Ctx G (.box b_ [.slice w__Record_Rating_p w_.Record.Rating.length w__Record_Rating_c,.slice w__Record_Gaugings_p w_.Record.Gaugings.length w__Record_Gaugings_c,.slice w__passes_p w_.passes.length w__passes_c] 140::Lf) w) := by
 unfold shift_book_passed at hF
 refine fnIn (args := [.pointer (some ⟨b_,0,none⟩),.agg #[.int .i64 g.Day,.int .i64 g.Stage,.int .i64 g.Flow.Lo,.int .i64 g.Flow.Hi],.int .i64 shift]) Try.func107 rfl Try.ntmps107 rfl fun a hf => wp_seq_k fun K1 h1 => cReg ?_
 refine stBx (cs := [.int .i64 g.Day,.int .i64 g.Stage,.int .i64 g.Flow.Lo,.int .i64 g.Flow.Hi]) hf hc rfl rfl rfl rfl fun b_1 a w hf hc => stP hf rfl rfl rfl (pA rfl) fun a hf => cNil ?_
 refine h1 _ _ ?_
 refine wp_seq_k fun K2 h2 => ?_
 obtain ⟨r,hr,hF⟩ := bnd_some hF
 replace hc := hc.nilRow 0 0
 refine regionE (fun θ => [⟨none,none,0,.pointer (some ⟨b_,0,none⟩)⟩,⟨none,none,2,.int .i64 shift⟩,⟨none,none,4,.pointer (some ⟨b_1,0,none⟩)⟩,⟨some 0,none,8,.pointer (some ⟨b_,0,none⟩)⟩,⟨some 1,none,9,.pointer (some ⟨b_,0,none⟩)⟩,⟨some 2,none,10,.pointer (some ⟨b_,0,none⟩)⟩,⟨some 3,none,11,.pointer (some ⟨b_,0,none⟩)⟩,⟨some 4,none,12,.slice w__Record_Rating_p w_.Record.Rating.length w__Record_Rating_c⟩,⟨some 5,none,13,.pointer (some ⟨b_1,1,none⟩)⟩,⟨some 6,none,14,.int .i64 g.Stage⟩,⟨some 7,none,15,.int .i64 shift⟩,⟨some 8,none,16,.int .i64 (W (g.Stage - shift))⟩,⟨some 9,none,17,.agg #[.int .i64 r.N,.int .i64 r.D]⟩,⟨some 10,none,7,.pointer (some ⟨(θ 80).b,0,none⟩)⟩]) (fun E θ => (bif E 11 then .box (θ 80).b [.int .i64 r.N,.int .i64 r.D] 37 else bif E 10 then .box (θ 80).b [.int .i64 0,.int .i64 0] 37 else .row none 0 [] 0 0)::.box b_1 [.int .i64 g.Day,.int .i64 g.Stage,.int .i64 g.Flow.Lo,.int .i64 g.Flow.Hi] 71::.box b_ [.slice w__Record_Rating_p w_.Record.Rating.length w__Record_Rating_c,.slice w__Record_Gaugings_p w_.Record.Gaugings.length w__Record_Gaugings_c,.slice w__passes_p w_.passes.length w__passes_c] 140::Lf) [(11,10)] (fun a w => ∃ (b_3 : Nat),Has 38 a [(4,.pointer (some ⟨b_1,0,none⟩)),(7,.pointer (some ⟨b_3,0,none⟩))] ∧ Ctx G (.box b_3 [.int .i64 r.N,.int .i64 r.D] 37::.box b_1 [.int .i64 g.Day,.int .i64 g.Stage,.int .i64 g.Flow.Lo,.int .i64 g.Flow.Hi] 71::.box b_ [.slice w__Record_Rating_p w_.Record.Rating.length w__Record_Rating_c,.slice w__Record_Gaugings_p w_.Record.Gaugings.length w__Record_Gaugings_c,.slice w__passes_p w_.passes.length w__passes_c] 140::Lf) w) follows_mx (by kernel_rfl) (by kernel_rfl) (HasE.of hf ⟨rfl,rfl,rfl,trivial,trivial,trivial,trivial,trivial,trivial,trivial,trivial,trivial,trivial,trivial,trivial⟩) hc ⟨?_,?_,?_,?_,?_,?_,?_,?_,?_,?_,?_,?_,trivial⟩ ?_ ?_
 ·intro E θ a w hD hi hp he hc
  have hf := he.h0
  replace hf := hf.more he 0 rfl onT
  refine stP hf rfl rfl rfl (pM rfl) fun a hf => cNil ?_
  refine xThenN ?_
  intro ds u hau
  refine ⟨θ,he.put0 hi hau hf rfl 3 rfl rfl,?_⟩
  exact hc
 ·intro E θ a w hD hi hp he hc
  have e0 := hp.of (k := 0) rfl
  have hf := he.h0
  replace hf := hf.more he 3 rfl (onP e0)
  refine stP hf rfl rfl rfl (pNC rfl) fun a hf => cNil ?_
  refine xThenN ?_
  intro ds u hau
  refine ⟨θ,he.put0 hi hau hf rfl 4 rfl rfl,?_⟩
  exact hc
 ·intro E θ a w hD hi hp he hc
  have e1 := hp.of (k := 1) rfl
  have hf := he.h0
  replace hf := hf.more he 4 rfl (onP e1)
  refine stP hf rfl rfl rfl (pFA fa_140_0 rfl) fun a hf => cNil ?_
  refine xThenN ?_
  intro ds u hau
  refine ⟨θ,he.put0 hi hau hf rfl 5 rfl rfl,?_⟩
  exact hc
 ·intro E θ a w hD hi hp he hc
  have e2 := hp.of (k := 2) rfl
  have hf := he.h0
  replace hf := hf.more he 5 rfl (onP e2)
  refine stP hf rfl rfl rfl (pFA fa_25_0 rfl) fun a hf => cNil ?_
  refine xThenN ?_
  intro ds u hau
  refine ⟨θ,he.put0 hi hau hf rfl 6 rfl rfl,?_⟩
  exact hc
 ·intro E θ a w hD hi hp he hc
  have e3 := hp.of (k := 3) rfl
  have hf := he.h0
  replace hf := hf.more he 6 rfl (onP e3)
  refine stE hf hc rfl rfl rfl (eLd1 sc_22 rfl (cell_box m2 rfl)) fun a w hf hc => cNil ?_
  refine xThenN ?_
  intro ds u hau
  refine ⟨θ,he.put0 hi hau hf rfl 7 rfl rfl,?_⟩
  exact hc
 ·intro E θ a w hD hi hp he hc
  have hf := he.h0
  replace hf := hf.more he 2 rfl onT
  refine stP hf rfl rfl rfl (pFA fa_71_1 rfl) fun a hf => cNil ?_
  refine xThenN ?_
  intro ds u hau
  refine ⟨θ,he.put0 hi hau hf rfl 8 rfl rfl,?_⟩
  exact hc
 ·intro E θ a w hD hi hp he hc
  have e5 := hp.of (k := 5) rfl
  have hf := he.h0
  replace hf := hf.more he 8 rfl (onP e5)
  refine stE hf hc rfl rfl rfl (eLd1 sc_3 rfl (cell_box m1 rfl)) fun a w hf hc => cNil ?_
  refine xThenN ?_
  intro ds u hau
  refine ⟨θ,he.put0 hi hau hf rfl 9 rfl rfl,?_⟩
  exact hc
 ·intro E θ a w hD hi hp he hc
  have hf := he.h0
  replace hf := hf.more he 1 rfl onT
  refine stP hf rfl rfl rfl (pM rfl) fun a hf => cNil ?_
  refine xThenN ?_
  intro ds u hau
  refine ⟨θ,he.put0 hi hau hf rfl 10 rfl rfl,?_⟩
  exact hc
 ·intro E θ a w hD hi hp he hc
  have e6 := hp.of (k := 6) rfl
  have e7 := hp.of (k := 7) rfl
  have hf := he.h0
  replace hf := hf.more he 9 rfl (onP e6)
  replace hf := hf.more he 10 rfl (onP e7)
  refine stP hf rfl rfl rfl (pSub rfl rfl) fun a hf => cNil ?_
  refine xThenN ?_
  intro ds u hau
  refine ⟨θ,he.put0 hi hau hf rfl 11 rfl rfl,?_⟩
  exact hc
 ·intro E θ a w hD hi hp he hc
  have e4 := hp.of (k := 4) rfl
  have e8 := hp.of (k := 8) rfl
  have hf := he.h0
  replace hf := hf.more he 7 rfl (onP e4)
  replace hf := hf.more he 11 rfl (onP e8)
  refine stE hf hc rfl rfl rfl (eC (v := .agg #[.int .i64 r.N,.int .i64 r.D]) (vs := [.slice w__Record_Rating_p w_.Record.Rating.length w__Record_Rating_c,.int .i64 (W (g.Stage - shift))]) (caps := []) en_69 rfl rfl rfl rfl (fun w hc => shift_means_ok w_.Record.Rating (W (g.Stage - shift)) h_w__Record_Rating hc hr)) fun a w hf hc => cNil ?_
  refine xThenN ?_
  intro ds u hau
  refine ⟨θ,he.put0 hi hau hf rfl 12 rfl rfl,?_⟩
  exact hc
 ·intro E θ a w hD hi hp he hc
  have e11 := hD.f 0 rfl hi
  try dsimp only at hc
  rw [hi,e11] at hc
  have hf := he.h0
  refine stAl (cs := [.int .i64 0,.int .i64 0]) hf hc rfl rfl zr_37 rfl fun b_2 a w hf hc => cNil ?_
  refine xThenN ?_
  intro ds u hau
  replace hc := hc.drop k1
  refine ⟨(setT θ 80 ⟨b_2,none,0⟩),he.put hi hau hf rfl [] trivial ⟨qq,qq,qq,qq,qq,qq,qq,qq,qq,qq,qq,qq,qq,qq,trivial⟩,?_⟩
  try dsimp only
  rw [updE_self E 10,updE_fls 10 e11 rfl]
  exact hc
 ·intro E θ a w hD hi hp he hc
  have e9 := hp.of (k := 9) rfl
  have e10 := hp.of (k := 10) rfl
  try dsimp only at hc
  rw [e10,hi] at hc
  have hf := he.h0
  replace hf := hf.more he 12 rfl (onP e9)
  replace hf := hf.more he 13 rfl (onP e10)
  refine stSt (vs := [.int .i64 r.N,.int .i64 r.D]) hf hc rfl rfl rfl rfl sz_37 rfl rfl u0 fun w hc => cNil ?_
  refine xThenN ?_
  intro ds u hau
  refine ⟨θ,he.stay0 hi hau hf rfl,?_⟩
  try dsimp only
  rw [updE_tru 11 e10,updE_self E 11]
  exact hc
 ·intro E θ a w hall he hc
  have hf := he.h0
  have e10 := hall 10 rfl
  have e11 := hall 11 rfl
  replace hf := hf.more he 13 rfl (onP e10)
  replace hf := hf.more he 2 rfl (onT)
  try dsimp only at hc
  rw [e10,e11] at hc
  exact ⟨(θ 80).b,hf.keep ⟨rfl,rfl,trivial⟩,hc⟩
 rintro a w ⟨b_3,hf,hc⟩
 refine h2 _ _ ?_
 refine wp_seq_k fun K3 h3 => cReg ?_
 refine stP hf rfl rfl rfl (pFA fa_37_0 rfl) fun a hf => stE hf hc rfl rfl rfl (eLd1 sc_3 rfl (cell_box m0 rfl)) fun a w hf hc => stP hf rfl rfl rfl (pFA fa_71_2 rfl) fun a hf => stP hf rfl rfl rfl (pFA fa_50_0 rfl) fun a hf => stE hf hc rfl rfl rfl (eLd1 sc_3 rfl (cell_box m1 rfl)) fun a w hf hc => stP hf rfl rfl rfl (pFA fa_37_1 rfl) fun a hf => stE hf hc rfl rfl rfl (eLd1 sc_3 rfl (cell_box m0 rfl)) fun a w hf hc => stP hf rfl rfl rfl (pMul rfl rfl) fun a hf => stP hf rfl rfl rfl (pGe rfl rfl) fun a hf => stP hf rfl rfl rfl (pM rfl) fun a hf => stCut 10 (fun a w => Has 38 a [(4,.pointer (some ⟨b_1,0,none⟩)),(7,.pointer (some ⟨b_3,0,none⟩)),(18,.pointer (some ⟨b_3,0,none⟩)),(19,.int .i64 r.N),(20,.pointer (some ⟨b_1,2,none⟩)),(21,.pointer (some ⟨b_1,2,none⟩)),(22,.int .i64 g.Flow.Lo),(23,.pointer (some ⟨b_3,1,none⟩)),(24,.int .i64 r.D),(25,.int .i64 (W (g.Flow.Lo * r.D))),(26,.bool (decide ((W (g.Flow.Lo * r.D)) ≤ r.N))),(27,.bool (decide ((W (g.Flow.Lo * r.D)) ≤ r.N))),(37,.bool ((decide ((W (g.Flow.Lo * r.D)) ≤ r.N)) && (decide (r.N ≤ (W (g.Flow.Hi * r.D))))))] ∧ Ctx G (.box b_3 [.int .i64 r.N,.int .i64 r.D] 37::.box b_1 [.int .i64 g.Day,.int .i64 g.Stage,.int .i64 g.Flow.Lo,.int .i64 g.Flow.Hi] 71::.box b_ [.slice w__Record_Rating_p w_.Record.Rating.length w__Record_Rating_c,.slice w__Record_Gaugings_p w_.Record.Gaugings.length w__Record_Gaugings_c,.slice w__passes_p w_.passes.length w__passes_c] 140::Lf) w) ?_ ?_
 ·cases hb : (decide ((W (g.Flow.Lo * r.D)) ≤ r.N))
  ·rw [hb] at hf
   refine stS hf rfl rfl rfl fun a hf => stS hf rfl rfl rfl fun a hf => stS hf rfl rfl rfl fun a hf => stS hf rfl rfl rfl fun a hf => stS hf rfl rfl rfl fun a hf => stS hf rfl rfl rfl fun a hf => stS hf rfl rfl rfl fun a hf => stS hf rfl rfl rfl fun a hf => stS hf rfl rfl rfl fun a hf => stP hf rfl rfl rfl (pPf rfl rfl) fun a hf => cNil ⟨hf.keep ⟨rfl,rfl,rfl,rfl,rfl,rfl,rfl,rfl,rfl,rfl,rfl,rfl,rfl,trivial⟩,hc⟩
  ·rw [hb] at hf
   refine stP hf rfl rfl rfl (pFA fa_37_0 rfl) fun a hf => stE hf hc rfl rfl rfl (eLd1 sc_3 rfl (cell_box m0 rfl)) fun a w hf hc => stP hf rfl rfl rfl (pFA fa_71_2 rfl) fun a hf => stP hf rfl rfl rfl (pFA fa_50_1 rfl) fun a hf => stE hf hc rfl rfl rfl (eLd1 sc_3 rfl (cell_box m1 rfl)) fun a w hf hc => stP hf rfl rfl rfl (pFA fa_37_1 rfl) fun a hf => stE hf hc rfl rfl rfl (eLd1 sc_3 rfl (cell_box m0 rfl)) fun a w hf hc => stP hf rfl rfl rfl (pMul rfl rfl) fun a hf => stP hf rfl rfl rfl (pLe rfl rfl) fun a hf => stP hf rfl rfl rfl (pPt rfl rfl) fun a hf => cNil ⟨hf.keep ⟨rfl,rfl,rfl,rfl,rfl,rfl,rfl,rfl,rfl,rfl,rfl,rfl,rfl,trivial⟩,hc⟩
 intro a w ⟨hf,hc⟩
 refine stP hf rfl rfl rfl (pA rfl) fun a hf => cNil ?_
 refine h3 _ _ ?_
 refine wp_ret ?_
 obtain rfl := Option.some.inj hF
 replace hc := hc.drop k1
 replace hc := hc.drop k0
 exact fnOut1 (by simp) rfl Try.results107 hf hc (show look _ 6 = _ from rfl) ⟨rfl,hc⟩

def shift_opened_j24 (N : Nat) (xv_1 : Int) (x_4 : Int) : Option (Rs (Int × Int)) :=
 some (.go (x_4,xv_1))
def shift_opened_r21 (N : Nat) (r : shift_Record) (x_1 : List api_Span) (e_2 : shift_Gauging) (x_2 : Int) (x_3 : Int) (xv : Int) (xv_1 : Int) : Option (Rs (Int × Int)) :=
 Option.bind (shift_book_passed N (⟨r,x_1⟩ : shift_book) e_2 xv_1) fun r_1 =>
 cond r_1
 (cond (decide (x_3 < x_2))
 (shift_opened_j24 N xv_1 xv_1)
 (shift_opened_j24 N xv_1 x_2))
 (some (.go (x_2,x_3)))
def shift_opened_b12 (N : Nat) (r : shift_Record) (e_1 : Int) (x : Int) (x_1 : List api_Span) : Option (Step (Int × Int × (List api_Span)) ((Int) ⊕ ((List api_Span) × Int))) :=
 cond (decide (x < ((r.Gaugings.length : Nat) : Int)))
 (Option.bind (getI r.Gaugings x) fun e_2 =>
 Option.bind (shift_shifts_1 N (rY (fun (zz : Int × Int) (ix_ : (Int × Int)) => shift_opened_r21 N r x_1 e_2 zz.1 zz.2 ix_.1 ix_.2)) (.go (1,0))) fun x21 =>
 rsK x21 (fun zz21 => cond (decide (zz21.2 < zz21.1))
 (some (.brk (6,x,x_1)))
 (Option.bind (room ((x_1 ++ [(⟨zz21.1,zz21.2⟩ : api_Span)])).length) fun un =>
 some (.cont (e_1,W (x + 1),(x_1 ++ [(⟨zz21.1,zz21.2⟩ : api_Span)]))))) (fun zz21 => none))
 (some (.brk (e_1,x,x_1)))
def shift_opened (N : Nat) (r : shift_Record) : Option ((Int) ⊕ ((List api_Span) × Int)) :=
 Option.bind (shift_Check N r) fun r_0 =>
 cond (r_0 != 0)
 (some (.inl r_0))
 (Option.bind (loopO (fun s12 => shift_opened_b12 N r s12.1 s12.2.1 s12.2.2) N (0,0,([] : List api_Span))) fun x12 =>
 exK x12 (fun s12 => some (.inr (s12.2.2,s12.1))) some)
theorem shift_opened_ok {N : Nat} {G : Pers} {Lf : List Ent} {w : World} (r : shift_Record) {r_Rating_p : Option Addr} {r_Rating_c : Nat} {r_Gaugings_p : Option Addr} {r_Gaugings_c : Nat} (h_r_Rating : Rd G 2 r_Rating_p r_Rating_c (r.Rating.map enc_shift_Mark)) (h_r_Gaugings : Rd G 4 r_Gaugings_p r_Gaugings_c (r.Gaugings.map enc_shift_Gauging)) (hc : Ctx G (Lf) w) {res : (Int) ⊕ ((List api_Span) × Int)} (hF : shift_opened N r = some res) : Calls Try.prog 73 #[.agg #[.slice r_Rating_p r.Rating.length r_Rating_c,.slice r_Gaugings_p r.Gaugings.length r_Gaugings_c]] w (fun e w => sumK (fun rr => e = .returned (.tuple #[.pointer none,.int .i64 rr]) ∧ Ctx G (Lf) w) (fun rr => ∃ (b'1 : Nat) (p'1 : Option Addr) (c'1 : Nat),e = .returned (.tuple #[.pointer (some ⟨b'1,0,none⟩),.int .i64 rr.2]) ∧ Ctx G (.row p'1 c'1 (rr.1.map enc_api_Span) 50 2::.box b'1 [.slice r_Rating_p r.Rating.length r_Rating_c,.slice r_Gaugings_p r.Gaugings.length r_Gaugings_c,.slice p'1 rr.1.length c'1] 140::Lf) w) res) := by
 unfold shift_opened at hF
 refine fnInM (args := [.agg #[.slice r_Rating_p r.Rating.length r_Rating_c,.slice r_Gaugings_p r.Gaugings.length r_Gaugings_c]]) Try.func73 rfl Try.ntmps73 rfl fun a hf => wp_seq_k fun K1 h1 => cReg ?_
 refine stBx (cs := [.slice r_Rating_p r.Rating.length r_Rating_c,.slice r_Gaugings_p r.Gaugings.length r_Gaugings_c]) hf hc rfl rfl rfl rfl fun b_1 a w hf hc => stP hf rfl rfl rfl (pA rfl) fun a hf => stP hf rfl rfl rfl (pA rfl) fun a hf => cNil ?_
 refine h1 _ _ ?_
 refine wp_scope_straight ?_
 refine wp_seq_k fun K2 h2 => wp_seq_k fun K3 h3 => cReg ?_
 refine stE hf hc rfl rfl rfl (eLdN (vs := [.slice r_Rating_p r.Rating.length r_Rating_c,.slice r_Gaugings_p r.Gaugings.length r_Gaugings_c]) ag_25 rfl rfl (cells_box (n := 2) m0 rfl)) fun a w hf hc => ?_
 obtain ⟨r_0,hr_0,hF⟩ := bnd_some hF
 refine stE hf hc rfl rfl rfl (eC (v := .int .i64 r_0) (vs := [.agg #[.slice r_Rating_p r.Rating.length r_Rating_c,.slice r_Gaugings_p r.Gaugings.length r_Gaugings_c]]) (caps := []) en_14 rfl rfl rfl rfl (fun w hc => shift_Check_ok r h_r_Rating h_r_Gaugings hc hr_0)) fun a w hf hc => stP hf rfl rfl rfl (pA rfl) fun a hf => cNil ?_
 refine h3 _ _ ?_
 refine wp_seq_k fun K4 h4 => cReg ?_
 refine stP hf rfl rfl rfl (pM rfl) fun a hf => stP hf rfl rfl rfl (pNe rfl rfl) fun a hf => cNil ?_
 refine h4 _ _ ?_
 refine cCond (b := (r_0 != 0)) hf rfl (fun hb => ?_) (fun hb => ?_)
 ·replace hF := condT hb hF
  clear hb
  refine wp_seq_k fun K5 h5 => cReg ?_
  refine stP hf rfl rfl rfl (pM rfl) fun a hf => stP hf rfl rfl rfl (pA rfl) fun a hf => stP hf rfl rfl rfl (pA rfl) fun a hf => cNil ?_
  refine h5 _ _ ?_
  refine wp_ret ?_
  refine xThenR ?_
  refine xScopeR ?_
  obtain rfl := Option.some.inj hF
  replace hc := hc.drop k0
  refine outM hf ?_
  exact outM2 Try.results73 hf hc (show look _ 2 = _ from rfl) (show look _ 3 = _ from rfl) ⟨rfl,hc⟩
 ·replace hF := condF hb hF
  clear hb
  refine wp_skip ?_
  refine h2 _ _ ?_
  refine wp_seq_k fun K6 h6 => cReg ?_
  refine stE hf hc rfl rfl rfl (eLdN (vs := [.slice r_Rating_p r.Rating.length r_Rating_c,.slice r_Gaugings_p r.Gaugings.length r_Gaugings_c]) ag_25 rfl rfl (cells_box (n := 2) m0 rfl)) fun a w hf hc => stP hf rfl rfl rfl (pBuildS (cells := [.slice r_Rating_p r.Rating.length r_Rating_c,.slice r_Gaugings_p r.Gaugings.length r_Gaugings_c,.slice none 0 0]) bt_140 rfl rfl) fun a hf => stBx (cs := [.slice r_Rating_p r.Rating.length r_Rating_c,.slice r_Gaugings_p r.Gaugings.length r_Gaugings_c,.slice none 0 0]) hf hc rfl rfl rfl rfl fun b_2 a w hf hc => stP hf rfl rfl rfl (pA rfl) fun a hf => cNil ?_
  refine h6 _ _ ?_
  refine wp_seq_k fun K7 h7 => cReg ?_
  refine stP hf rfl rfl rfl (pA rfl) fun a hf => cNil ?_
  refine h7 _ _ ?_
  refine wp_seq_k fun K8 h8 => cReg ?_
  refine stP hf rfl rfl rfl (pM rfl) fun a hf => stP hf rfl rfl rfl (pMF (vs := [.pointer (some ⟨b_2,0,none⟩)]) (us := []) rfl rfl) fun a hf => stAl (cs := [.nilFunc]) hf hc rfl rfl zr_194 rfl fun b_3 a w hf hc => stSt (vs := [.func (.func 107) #[.pointer (some ⟨b_2,0,none⟩)] #[]]) hf hc rfl rfl rfl rfl sz_194 rfl rfl u0 fun w hc => cNil ?_
  refine h8 _ _ ?_
  refine wp_seq_k fun K9 h9 => wp_label ?_
  refine h9 _ _ ?_
  refine wp_seq_k fun K10 h10 => wp_seq_k fun K11 h11 => cReg ?_
  refine stP hf rfl rfl rfl (pFA fa_25_1 rfl) fun a hf => stE hf hc rfl rfl rfl (eLd1 sc_23 rfl (cell_box m2 rfl)) fun a w hf hc => stP hf rfl rfl rfl (pLenS Try.underlying23 rfl) fun a hf => stP hf rfl rfl rfl (pM rfl) fun a hf => cNil ?_
  refine h11 _ _ ?_
  refine wp_block ?_
  obtain ⟨x12,hx12,hF⟩ := bnd_some hF
  let S12 : (Int × Int × (List api_Span)) → Act → World → Prop := (fun (zz : Int × Int × (List api_Span)) a w => ∃ (p_1 : Option Addr) (c_1 : Nat) (Ds : List Nat),Has ⟨65,markL Ds⟩ a [(5,.pointer (some ⟨b_2,0,none⟩)),(6,.int .i64 zz.1),(7,.pointer (some ⟨b_3,0,none⟩)),(24,.slice r_Gaugings_p r.Gaugings.length r_Gaugings_c),(25,.int .i64 ((r.Gaugings.length : Nat) : Int)),(26,.int .i64 zz.2.1)] ∧ Ctx G (.row p_1 c_1 (zz.2.2.map enc_api_Span) 50 2::.box b_3 [.func (.func 107) #[.pointer (some ⟨b_2,0,none⟩)] #[]] 194::.box b_2 [.slice r_Rating_p r.Rating.length r_Rating_c,.slice r_Gaugings_p r.Gaugings.length r_Gaugings_c,.slice p_1 zz.2.2.length c_1] 140::(raws Ds ++ Lf)) w)
  have hr12 : ∀ (zz : Int × Int × (List api_Span)) a w,x12 = .go zz → S12 zz a w → K10 a w := by
   rintro ⟨e_1,x,x_1⟩ a w rfl ⟨p_1,c_1,Ds,hf,hc⟩
   replace hF := exK_go hF
   refine h10 _ _ ?_
   refine wp_seq_k fun K13 h13 => cReg ?_
   refine stP hf rfl rfl rfl (pM rfl) fun a hf => stP hf rfl rfl rfl (pM rfl) fun a hf => stP hf rfl rfl rfl (pA rfl) fun a hf => stP hf rfl rfl rfl (pA rfl) fun a hf => cNil ?_
   refine h13 _ _ ?_
   refine wp_ret ?_
   refine xScopeR ?_
   obtain rfl := Option.some.inj hF
   replace hc := hc.drop k1
   refine outM hf ?_
   refine outML [.row p_1 c_1 (x_1.map enc_api_Span) 50 2,.box b_2 [.slice r_Rating_p r.Rating.length r_Rating_c,.slice r_Gaugings_p r.Gaugings.length r_Gaugings_c,.slice p_1 x_1.length c_1] 140] Ds hc fun w hc => ?_
   replace hc : Ctx G (.row p_1 c_1 (x_1.map enc_api_Span) 50 2::.box b_2 [.slice r_Rating_p r.Rating.length r_Rating_c,.slice r_Gaugings_p r.Gaugings.length r_Gaugings_c,.slice p_1 x_1.length c_1] 140::Lf) w := hc
   exact outM2 Try.results73 hf hc (show look _ 2 = _ from rfl) (show look _ 3 = _ from rfl) ⟨b_2,p_1,c_1,rfl,hc⟩
  have ho12 : ∀ r,x12 = .out r → r = res := by
   rintro r rfl
   exact Option.some.inj hF
  replace hf := markZ hf
  replace hc : Ctx G (.box b_3 [.func (.func 107) #[.pointer (some ⟨b_2,0,none⟩)] #[]] 194::.box b_2 [.slice r_Rating_p r.Rating.length r_Rating_c,.slice r_Gaugings_p r.Gaugings.length r_Gaugings_c,.slice none 0 0] 140::.box b_1 [.slice r_Rating_p r.Rating.length r_Rating_c,.slice r_Gaugings_p r.Gaugings.length r_Gaugings_c] 25::(raws [] ++ Lf)) w := hc
  replace hc := hc.nilRow 50 2
  replace hc := hc.drop k3
  refine cLoop N (loopW (S := S12) (x := x12) ?_ N (0,0,([] : List api_Span)) _ _ ⟨none,0,[],hf.keep ⟨rfl,rfl,rfl,rfl,rfl,rfl,trivial⟩,hc⟩ hx12)
  clear hF hf hc
  rintro ⟨e_1,x,x_1⟩ st12 a w KB12 ⟨p_1,c_1,Ds,hf,hc⟩ hF hfin12 hK12
  unfold shift_opened_b12 at hF
  refine wp_seq_k fun K14 h14 => cReg ?_
  refine stP hf rfl rfl rfl (pLt rfl rfl) fun a hf => cNil ?_
  refine h14 _ _ ?_
  refine wp_seq_k fun K15 h15 => cCond (b := (decide (x < ((r.Gaugings.length : Nat) : Int)))) hf rfl (fun hb => ?_) (fun hb => ?_)
  ·replace hF := condT hb hF
   clear hb
   refine wp_skip ?_
   refine h15 _ _ ?_
   refine wp_seq_k fun K16 h16 => wp_block ?_
   refine wp_seq_k fun K17 h17 => cReg ?_
   obtain ⟨e_2,he_2,hF⟩ := bnd_some hF
   obtain ⟨b_4,o,qa,qp⟩ := h_r_Gaugings.atm he_2
   refine stP hf rfl rfl rfl (pIA Try.underlying23 sz_71 rfl rfl qa) fun a hf => stE hf hc rfl rfl rfl (eLdN (vs := [.int .i64 e_2.Day,.int .i64 e_2.Stage,.int .i64 e_2.Flow.Lo,.int .i64 e_2.Flow.Hi]) ag_71 rfl rfl (cells_pc qp (n := 4) (o' := 0) rfl)) fun a w hf hc => stAl (cs := [.int .i64 0,.int .i64 0,.int .i64 0,.int .i64 0]) hf hc rfl rfl zr_71 rfl fun b_5 a w hf hc => stSt (vs := [.int .i64 e_2.Day,.int .i64 e_2.Stage,.int .i64 e_2.Flow.Lo,.int .i64 e_2.Flow.Hi]) hf hc rfl rfl rfl rfl sz_71 rfl rfl u0 fun w hc => cNil ?_
   refine h17 _ _ ?_
   refine wp_seq_k fun K18 h18 => cReg ?_
   refine stP hf rfl rfl rfl (pBuildS (cells := [.int .i64 1,.int .i64 0]) bt_50 rfl rfl) fun a hf => stAl (cs := [.int .i64 0,.int .i64 0]) hf hc rfl rfl zr_50 rfl fun b_6 a w hf hc => stSt (vs := [.int .i64 1,.int .i64 0]) hf hc rfl rfl rfl rfl sz_50 rfl rfl u0 fun w hc => cNil ?_
   refine h18 _ _ ?_
   refine wp_seq_k fun K19 h19 => wp_seq_k fun K20 h20 => cReg ?_
   refine stE hf hc rfl rfl rfl (eC (v := .func (.func 113) #[] #[]) (vs := []) (caps := []) en_82 rfl rfl rfl rfl (fun w hc => shift_shifts_ok hc rfl)) fun a w hf hc => cNil ?_
   refine h20 _ _ ?_
   obtain ⟨x21,hx21,hF⟩ := bnd_some hF
   refine cRange (C := []) (C2 := []) (L0 := [.box b_6 [.int .i64 1,.int .i64 0] 50,.box b_5 [.int .i64 e_2.Day,.int .i64 e_2.Stage,.int .i64 e_2.Flow.Lo,.int .i64 e_2.Flow.Hi] 71,.row p_1 c_1 (x_1.map enc_api_Span) 50 2,.box b_3 [.func (.func 107) #[.pointer (some ⟨b_2,0,none⟩)] #[]] 194,.box b_2 [.slice r_Rating_p r.Rating.length r_Rating_c,.slice r_Gaugings_p r.Gaugings.length r_Gaugings_c,.slice p_1 x_1.length c_1] 140]) (Lf := (raws Ds ++ Lf)) (encs := fun x : (Int × Int) => [.int .i64 x.1,.int .i64 x.2]) (fun (zz : Int × Int) L => L = [.box b_6 [.int .i64 zz.1,.int .i64 zz.2] 50,.box b_5 [.int .i64 e_2.Day,.int .i64 e_2.Stage,.int .i64 e_2.Flow.Lo,.int .i64 e_2.Flow.Hi] 71,.row p_1 c_1 (x_1.map enc_api_Span) 50 2,.box b_3 [.func (.func 107) #[.pointer (some ⟨b_2,0,none⟩)] #[]] 194,.box b_2 [.slice r_Rating_p r.Rating.length r_Rating_c,.slice r_Gaugings_p r.Gaugings.length r_Gaugings_c,.slice p_1 x_1.length c_1] 140]) (fun (zz : Int × Int) (ix_ : (Int × Int)) => shift_opened_r21 N r x_1 e_2 zz.1 zz.2 ix_.1 ix_.2) (1,0) x21 hf hc rfl en_113 (fun _ => rfl) rfl rfl ?_ ?_ ?_ ?_
   ·intro lq mq J L Lx w hy hJ hc
    exact shift_shifts_1_ok  J _ hy _ hJ hc hx21
   ·clear hF hf hc
    rintro lq mq ⟨x_2,x_3⟩ ⟨xv,xv_1⟩ oq _ Lr Lb a w hK0 rfl hF hf hc hK
    replace hf : Has 65 a [(5,.pointer (some ⟨b_2,0,none⟩)),(6,.int .i64 e_1),(7,.pointer (some ⟨b_3,0,none⟩)),(9,.pointer (some ⟨b_5,0,none⟩)),(10,.pointer (some ⟨b_6,0,none⟩)),(24,.slice r_Gaugings_p r.Gaugings.length r_Gaugings_c),(25,.int .i64 ((r.Gaugings.length : Nat) : Int)),(26,.int .i64 x),(32,.int .i64 xv),(33,.int .i64 xv_1)] := hf.keep ⟨rfl,rfl,rfl,rfl,rfl,rfl,rfl,rfl,rfl,rfl,trivial⟩
    replace hc : Ctx G (.box b_6 [.int .i64 x_2,.int .i64 x_3] 50::.box b_5 [.int .i64 e_2.Day,.int .i64 e_2.Stage,.int .i64 e_2.Flow.Lo,.int .i64 e_2.Flow.Hi] 71::.row p_1 c_1 (x_1.map enc_api_Span) 50 2::.box b_3 [.func (.func 107) #[.pointer (some ⟨b_2,0,none⟩)] #[]] 194::.box b_2 [.slice r_Rating_p r.Rating.length r_Rating_c,.slice r_Gaugings_p r.Gaugings.length r_Gaugings_c,.slice p_1 x_1.length c_1] 140::Lr) w := hc
    replace hF : shift_opened_r21 N r x_1 e_2 x_2 x_3 xv xv_1 = some oq := hF
    unfold shift_opened_r21 at hF
    refine rReg (fun _ _ h => h) rfl ?_
    refine stP hf rfl rfl rfl (pA rfl) fun a hf => cNil ?_
    refine hK _ _ [.box b_6 [.int .i64 x_2,.int .i64 x_3] 50,.box b_5 [.int .i64 e_2.Day,.int .i64 e_2.Stage,.int .i64 e_2.Flow.Lo,.int .i64 e_2.Flow.Hi] 71,.row p_1 c_1 (x_1.map enc_api_Span) 50 2,.box b_3 [.func (.func 107) #[.pointer (some ⟨b_2,0,none⟩)] #[]] 194,.box b_2 [.slice r_Rating_p r.Rating.length r_Rating_c,.slice r_Gaugings_p r.Gaugings.length r_Gaugings_c,.slice p_1 x_1.length c_1] 140] hc fun w hc => ?_
    replace hc : Ctx G (.box b_6 [.int .i64 x_2,.int .i64 x_3] 50::.box b_5 [.int .i64 e_2.Day,.int .i64 e_2.Stage,.int .i64 e_2.Flow.Lo,.int .i64 e_2.Flow.Hi] 71::.row p_1 c_1 (x_1.map enc_api_Span) 50 2::.box b_3 [.func (.func 107) #[.pointer (some ⟨b_2,0,none⟩)] #[]] 194::.box b_2 [.slice r_Rating_p r.Rating.length r_Rating_c,.slice r_Gaugings_p r.Gaugings.length r_Gaugings_c,.slice p_1 x_1.length c_1] 140::Lb) w := hc
    refine rThenK fun K22 h22 => rBlock ?_
    refine rSeq fun K23 h23 => rReg (fun _ _ h => h) rfl ?_
    refine stE hf hc rfl rfl rfl (eLd1 sc_194 rfl (cell_box m3 rfl)) fun a w hf hc => stE hf hc rfl rfl rfl (eLdN (vs := [.int .i64 e_2.Day,.int .i64 e_2.Stage,.int .i64 e_2.Flow.Lo,.int .i64 e_2.Flow.Hi]) ag_71 rfl rfl (cells_box (n := 4) m1 rfl)) fun a w hf hc => stP hf rfl rfl rfl (pM rfl) fun a hf => ?_
    obtain ⟨r_1,hr_1,hF⟩ := bnd_some hF
    refine stE hf hc rfl rfl rfl (eCB (v := .bool r_1) (bs := [.pointer (some ⟨b_2,0,none⟩)]) (vs := [.agg #[.int .i64 e_2.Day,.int .i64 e_2.Stage,.int .i64 e_2.Flow.Lo,.int .i64 e_2.Flow.Hi],.int .i64 xv_1]) (caps := []) en_107 rfl rfl rfl rfl (fun w hc => by obtain ⟨G1,hle1,hrd1,hc,hth1⟩ := lend hc k2; exact (shift_book_passed_ok (⟨r,x_1⟩ : shift_book) e_2 xv_1 (h_r_Rating.mono hle1) (h_r_Gaugings.mono hle1) hrd1 (hc.pick k3) hr_1).mono fun e w h => ⟨h.1,((hth1 _ _ (h.2.unpick k3)).unpick k2)⟩)) fun a w hf hc => cNil ?_
    refine h23 _ _ ?_
    refine rCond (b := r_1) hf rfl (fun hb => ?_) (fun hb => ?_)
    ·replace hF := condT hb hF
     clear hb
     refine rSeq fun K24 h24 => ?_
     have hj24 : ∀ (x_4 : Int) a w,Has 65 a [(5,.pointer (some ⟨b_2,0,none⟩)),(6,.int .i64 e_1),(7,.pointer (some ⟨b_3,0,none⟩)),(9,.pointer (some ⟨b_5,0,none⟩)),(10,.pointer (some ⟨b_6,0,none⟩)),(12,.int .i64 xv_1),(24,.slice r_Gaugings_p r.Gaugings.length r_Gaugings_c),(25,.int .i64 ((r.Gaugings.length : Nat) : Int)),(26,.int .i64 x)] → Ctx G (.box b_6 [.int .i64 x_4,.int .i64 x_3] 50::.box b_5 [.int .i64 e_2.Day,.int .i64 e_2.Stage,.int .i64 e_2.Flow.Lo,.int .i64 e_2.Flow.Hi] 71::.row p_1 c_1 (x_1.map enc_api_Span) 50 2::.box b_3 [.func (.func 107) #[.pointer (some ⟨b_2,0,none⟩)] #[]] 194::.box b_2 [.slice r_Rating_p r.Rating.length r_Rating_c,.slice r_Gaugings_p r.Gaugings.length r_Gaugings_c,.slice p_1 x_1.length c_1] 140::Lb) w → shift_opened_j24 N xv_1 x_4 = some oq → K24 a w := by
      repeat (clear hF)
      repeat (clear hc)
      repeat (clear hf)
      intro x_4 a w hf hc hF
      unfold shift_opened_j24 at hF
      refine h24 _ _ ?_
      refine rReg (fun _ _ h => h) rfl ?_
      refine stP hf rfl rfl rfl (pM rfl) fun a hf => stP hf rfl rfl rfl (pFA fa_50_1 rfl) fun a hf => stSt (vs := [.int .i64 xv_1]) hf hc rfl rfl rfl rfl sz_3 rfl rfl u0 fun w hc => cNil ?_
      refine h22 _ _ ?_
      exact ⟨(x_4,xv_1),_,(Option.some.inj hF).symm,rfl,hc⟩
     refine rSeq fun K25 h25 => rReg (fun _ _ h => h) rfl ?_
     refine stP hf rfl rfl rfl (pFA fa_50_0 rfl) fun a hf => stE hf hc rfl rfl rfl (eLd1 sc_3 rfl (cell_box m0 rfl)) fun a w hf hc => stP hf rfl rfl rfl (pFA fa_50_1 rfl) fun a hf => stE hf hc rfl rfl rfl (eLd1 sc_3 rfl (cell_box m0 rfl)) fun a w hf hc => stP hf rfl rfl rfl (pGt rfl rfl) fun a hf => cNil ?_
     refine h25 _ _ ?_
     refine rCond (b := (decide (x_3 < x_2))) hf rfl (fun hb => ?_) (fun hb => ?_)
     ·replace hF := condT hb hF
      clear hb
      refine rReg (fun _ _ h => h) rfl ?_
      refine stP hf rfl rfl rfl (pM rfl) fun a hf => stP hf rfl rfl rfl (pFA fa_50_0 rfl) fun a hf => stSt (vs := [.int .i64 xv_1]) hf hc rfl rfl rfl rfl sz_3 rfl rfl u0 fun w hc => cNil ?_
      exact hj24 xv_1 _ _  (hf.keep ⟨rfl,rfl,rfl,rfl,rfl,rfl,rfl,rfl,rfl,trivial⟩) hc hF
     ·replace hF := condF hb hF
      clear hb
      refine rSkip ?_
      exact hj24 x_2 _ _  (hf.keep ⟨rfl,rfl,rfl,rfl,rfl,rfl,rfl,rfl,rfl,trivial⟩) hc hF
    ·replace hF := condF hb hF
     clear hb
     refine rSkip ?_
     refine h22 _ _ ?_
     exact ⟨(x_2,x_3),_,(Option.some.inj hF).symm,rfl,hc⟩
   ·rintro D_1 ⟨x_2,x_3⟩ _ a w hsF rfl hf hc
    replace hf : Has ⟨65,markL (D_1::Ds)⟩ a [(5,.pointer (some ⟨b_2,0,none⟩)),(6,.int .i64 e_1),(7,.pointer (some ⟨b_3,0,none⟩)),(9,.pointer (some ⟨b_5,0,none⟩)),(10,.pointer (some ⟨b_6,0,none⟩)),(24,.slice r_Gaugings_p r.Gaugings.length r_Gaugings_c),(25,.int .i64 ((r.Gaugings.length : Nat) : Int)),(26,.int .i64 x)] := hf.keep ⟨rfl,rfl,rfl,rfl,rfl,rfl,rfl,rfl,trivial⟩
    replace hc : Ctx G (.box b_6 [.int .i64 x_2,.int .i64 x_3] 50::.box b_5 [.int .i64 e_2.Day,.int .i64 e_2.Stage,.int .i64 e_2.Flow.Lo,.int .i64 e_2.Flow.Hi] 71::.row p_1 c_1 (x_1.map enc_api_Span) 50 2::.box b_3 [.func (.func 107) #[.pointer (some ⟨b_2,0,none⟩)] #[]] 194::.box b_2 [.slice r_Rating_p r.Rating.length r_Rating_c,.slice r_Gaugings_p r.Gaugings.length r_Gaugings_c,.slice p_1 x_1.length c_1] 140::(raws (D_1::Ds) ++ Lf)) w := rawsIn (C := []) (L := [.box b_6 [.int .i64 x_2,.int .i64 x_3] 50,.box b_5 [.int .i64 e_2.Day,.int .i64 e_2.Stage,.int .i64 e_2.Flow.Lo,.int .i64 e_2.Flow.Hi] 71,.row p_1 c_1 (x_1.map enc_api_Span) 50 2,.box b_3 [.func (.func 107) #[.pointer (some ⟨b_2,0,none⟩)] #[]] 194,.box b_2 [.slice r_Rating_p r.Rating.length r_Rating_c,.slice r_Gaugings_p r.Gaugings.length r_Gaugings_c,.slice p_1 x_1.length c_1] 140]) hc
    replace hF : (cond (decide (x_3 < x_2)) (some (.brk (6,x,x_1))) (Option.bind (room ((x_1 ++ [(⟨x_2,x_3⟩ : api_Span)])).length) fun un => some (.cont (e_1,W (x + 1),(x_1 ++ [(⟨x_2,x_3⟩ : api_Span)]))))) = some st12 := by rcases hsF with rfl | rfl <;> exact hF
    refine h19 _ _ ?_
    refine wp_seq_k fun K26 h26 => wp_seq_k fun K27 h27 => cReg ?_
    refine stP hf rfl rfl rfl (pFA fa_50_0 rfl) fun a hf => stE hf hc rfl rfl rfl (eLd1 sc_3 rfl (cell_box m0 rfl)) fun a w hf hc => stP hf rfl rfl rfl (pFA fa_50_1 rfl) fun a hf => stE hf hc rfl rfl rfl (eLd1 sc_3 rfl (cell_box m0 rfl)) fun a w hf hc => stP hf rfl rfl rfl (pGt rfl rfl) fun a hf => cNil ?_
    refine h27 _ _ ?_
    refine cCond (b := (decide (x_3 < x_2))) hf rfl (fun hb => ?_) (fun hb => ?_)
    ·replace hF := condT hb hF
     clear hb
     refine wp_seq_k fun K28 h28 => cReg ?_
     refine stP hf rfl rfl rfl (pA rfl) fun a hf => cNil ?_
     refine h28 _ _ ?_
     refine wp_exit ?_
     refine xThen ?_
     refine cMiss rfl ?_
     refine xThen ?_
     refine xThen ?_
     replace hc := hc.drop k1
     replace hc := hc.drop k0
     have he := Option.some.inj hF
     rw [← he] at hfin12
     refine cHit ?_
     exact hr12 _ _ _ hfin12 ⟨p_1,c_1,(D_1::Ds),hf.keep ⟨rfl,rfl,rfl,rfl,rfl,rfl,trivial⟩,hc⟩
    ·replace hF := condF hb hF
     clear hb
     refine wp_skip ?_
     refine h26 _ _ ?_
     obtain ⟨un,hun,hF⟩ := bnd_some hF
     replace hc := hc.nilRow 0 0
     refine regionE (fun θ => [⟨none,none,5,.pointer (some ⟨b_2,0,none⟩)⟩,⟨none,none,6,.int .i64 e_1⟩,⟨none,none,7,.pointer (some ⟨b_3,0,none⟩)⟩,⟨none,none,10,.pointer (some ⟨b_6,0,none⟩)⟩,⟨none,none,24,.slice r_Gaugings_p r.Gaugings.length r_Gaugings_c⟩,⟨none,none,25,.int .i64 ((r.Gaugings.length : Nat) : Int)⟩,⟨none,none,26,.int .i64 x⟩,⟨some 0,none,52,.pointer (some ⟨b_2,0,none⟩)⟩,⟨some 1,none,53,.pointer (some ⟨b_2,0,none⟩)⟩,⟨some 2,none,54,.pointer (some ⟨b_2,0,none⟩)⟩,⟨some 3,none,55,.pointer (some ⟨b_2,2,none⟩)⟩,⟨some 4,none,56,.slice p_1 x_1.length c_1⟩,⟨some 5,none,57,.agg #[.int .i64 x_2,.int .i64 x_3]⟩,⟨some 6,none,58,.slice (some ⟨(θ 48).b,0,none⟩) 1 1⟩,⟨some 7,none,59,.slice ((θ 56).p) ((x_1 ++ [(⟨x_2,x_3⟩ : api_Span)]).length) ((θ 56).c)⟩,⟨some 8,none,60,.pointer (some ⟨b_2,0,none⟩)⟩,⟨some 9,none,61,.pointer (some ⟨b_2,2,none⟩)⟩]) (fun E θ => (bif E 6 then .row (some ⟨(θ 48).b,0,none⟩) 1 (([(⟨x_2,x_3⟩ : api_Span)] : List api_Span).map enc_api_Span) 50 2 else .row none 0 [] 0 0)::.box b_6 [.int .i64 x_2,.int .i64 x_3] 50::.box b_5 [.int .i64 e_2.Day,.int .i64 e_2.Stage,.int .i64 e_2.Flow.Lo,.int .i64 e_2.Flow.Hi] 71::(bif E 7 then .row ((θ 56).p) ((θ 56).c) ((x_1 ++ [(⟨x_2,x_3⟩ : api_Span)]).map enc_api_Span) 50 2 else .row p_1 c_1 (x_1.map enc_api_Span) 50 2)::.box b_3 [.func (.func 107) #[.pointer (some ⟨b_2,0,none⟩)] #[]] 194::(bif E 10 then .box b_2 [.slice r_Rating_p r.Rating.length r_Rating_c,.slice r_Gaugings_p r.Gaugings.length r_Gaugings_c,.slice ((θ 56).p) ((x_1 ++ [(⟨x_2,x_3⟩ : api_Span)]).length) ((θ 56).c)] 140 else .box b_2 [.slice r_Rating_p r.Rating.length r_Rating_c,.slice r_Gaugings_p r.Gaugings.length r_Gaugings_c,.slice p_1 x_1.length c_1] 140)::(raws (D_1::Ds) ++ Lf)) [(10,4),(10,7)] (fun a w => ∃ (b_8 : Nat) (p_3 : Option Addr) (c_3 : Nat),Has ⟨65,markL (D_1::Ds)⟩ a [(5,.pointer (some ⟨b_2,0,none⟩)),(6,.int .i64 e_1),(7,.pointer (some ⟨b_3,0,none⟩)),(24,.slice r_Gaugings_p r.Gaugings.length r_Gaugings_c),(25,.int .i64 ((r.Gaugings.length : Nat) : Int)),(26,.int .i64 x)] ∧ Ctx G (.row (some ⟨b_8,0,none⟩) 1 (([(⟨x_2,x_3⟩ : api_Span)] : List api_Span).map enc_api_Span) 50 2::.box b_6 [.int .i64 x_2,.int .i64 x_3] 50::.box b_5 [.int .i64 e_2.Day,.int .i64 e_2.Stage,.int .i64 e_2.Flow.Lo,.int .i64 e_2.Flow.Hi] 71::.row p_3 c_3 ((x_1 ++ [(⟨x_2,x_3⟩ : api_Span)]).map enc_api_Span) 50 2::.box b_3 [.func (.func 107) #[.pointer (some ⟨b_2,0,none⟩)] #[]] 194::.box b_2 [.slice r_Rating_p r.Rating.length r_Rating_c,.slice r_Gaugings_p r.Gaugings.length r_Gaugings_c,.slice p_3 ((x_1 ++ [(⟨x_2,x_3⟩ : api_Span)]).length) c_3] 140::(raws (D_1::Ds) ++ Lf)) w) follows_mx (by kernel_rfl) (by kernel_rfl) (HasE.of hf ⟨rfl,rfl,rfl,rfl,rfl,rfl,rfl,trivial,trivial,trivial,trivial,trivial,trivial,trivial,trivial,trivial,trivial,trivial⟩) hc ⟨?_,?_,?_,?_,?_,?_,?_,?_,?_,?_,?_,trivial⟩ ?_ ?_
     ·intro E θ a w hD hi hp he hc
      have hf := he.h0
      replace hf := hf.more he 0 rfl onT
      refine stP hf rfl rfl rfl (pM rfl) fun a hf => cNil ?_
      refine xThenN ?_
      intro ds u hau
      refine ⟨θ,he.put0 hi hau hf rfl 7 rfl rfl,?_⟩
      exact hc
     ·intro E θ a w hD hi hp he hc
      have hf := he.h0
      replace hf := hf.more he 0 rfl onT
      refine stP hf rfl rfl rfl (pM rfl) fun a hf => cNil ?_
      refine xThenN ?_
      intro ds u hau
      refine ⟨θ,he.put0 hi hau hf rfl 8 rfl rfl,?_⟩
      exact hc
     ·intro E θ a w hD hi hp he hc
      have e1 := hp.of (k := 1) rfl
      have hf := he.h0
      replace hf := hf.more he 8 rfl (onP e1)
      refine stP hf rfl rfl rfl (pNC rfl) fun a hf => cNil ?_
      refine xThenN ?_
      intro ds u hau
      refine ⟨θ,he.put0 hi hau hf rfl 9 rfl rfl,?_⟩
      exact hc
     ·intro E θ a w hD hi hp he hc
      have e2 := hp.of (k := 2) rfl
      have hf := he.h0
      replace hf := hf.more he 9 rfl (onP e2)
      refine stP hf rfl rfl rfl (pFA fa_140_1 rfl) fun a hf => cNil ?_
      refine xThenN ?_
      intro ds u hau
      refine ⟨θ,he.put0 hi hau hf rfl 10 rfl rfl,?_⟩
      exact hc
     ·intro E θ a w hD hi hp he hc
      have e3 := hp.of (k := 3) rfl
      have e10 := hD.f 0 rfl hi
      try dsimp only at hc
      rw [e10] at hc
      have hf := he.h0
      replace hf := hf.more he 10 rfl (onP e3)
      refine stE hf hc rfl rfl rfl (eLd1 sc_44 rfl (cell_box m5 rfl)) fun a w hf hc => cNil ?_
      refine xThenN ?_
      intro ds u hau
      refine ⟨θ,he.put0 hi hau hf rfl 11 rfl rfl,?_⟩
      try dsimp only
      rw [updE_fls 4 e10 rfl]
      exact hc
     ·intro E θ a w hD hi hp he hc
      have hf := he.h0
      replace hf := hf.more he 3 rfl onT
      refine stE hf hc rfl rfl rfl (eLdN (vs := [.int .i64 x_2,.int .i64 x_3]) ag_50 rfl rfl (cells_box (n := 2) m1 rfl)) fun a w hf hc => cNil ?_
      refine xThenN ?_
      intro ds u hau
      refine ⟨θ,he.put0 hi hau hf rfl 12 rfl rfl,?_⟩
      exact hc
     ·intro E θ a w hD hi hp he hc
      have e5 := hp.of (k := 5) rfl
      try dsimp only at hc
      rw [hi] at hc
      have hf := he.h0
      replace hf := hf.more he 12 rfl (onP e5)
      refine stBS (rows := ([(⟨x_2,x_3⟩ : api_Span)] : List api_Span).map enc_api_Span) (vs := [(0,.agg #[.int .i64 x_2,.int .i64 x_3])]) hf hc rfl rfl sl_44 rfl ⟨rfl,rfl,rfl,trivial⟩ rfl rfl fun b_7 a w hf hc => cNil ?_
      refine xThenN ?_
      intro ds u hau
      replace hc := hc.drop k1
      refine ⟨(setT θ 48 ⟨b_7,none,0⟩),he.put hi hau hf rfl [] trivial ⟨qq,qq,qq,qq,qq,qq,qq,qq,qq,qq,qq,qq,qq,qq,qq,qq,qq,trivial⟩,?_⟩
      try dsimp only
      rw [updE_self E 6]
      exact hc
     ·intro E θ a w hD hi hp he hc
      have e4 := hp.of (k := 4) rfl
      have e6 := hp.of (k := 6) rfl
      have e10 := hD.f 1 rfl hi
      try dsimp only at hc
      rw [e6,hi,e10] at hc
      have hf := he.h0
      replace hf := hf.more he 11 rfl (onP e4)
      replace hf := hf.more he 13 rfl (onP e6)
      refine stApm (xs := x_1) (ys := ([(⟨x_2,x_3⟩ : api_Span)] : List api_Span)) hf hc rfl rfl sl_44 rfl rfl rfl rfl rfl one_enc_api_Span (src_row hc m0) (fun _ _ => u3) (by simpa using room_spec hun) fun p_2 c_2 a w hf hc => cNil ?_
      refine xThenN ?_
      intro ds u hau
      refine ⟨(setT θ 56 ⟨0,p_2,c_2⟩),he.put hi hau hf rfl [] trivial ⟨qq,qq,qq,qq,qq,qq,qq,qq,qq,qq,qq,qq,qq,qq,qq,qq,qq,trivial⟩,?_⟩
      try dsimp only
      rw [updE_tru 7 e6,updE_self E 7,updE_fls 7 e10 rfl]
      exact hc
     ·intro E θ a w hD hi hp he hc
      have e0 := hp.of (k := 0) rfl
      have hf := he.h0
      replace hf := hf.more he 7 rfl (onP e0)
      refine stP hf rfl rfl rfl (pNC rfl) fun a hf => cNil ?_
      refine xThenN ?_
      intro ds u hau
      refine ⟨θ,he.put0 hi hau hf rfl 15 rfl rfl,?_⟩
      exact hc
     ·intro E θ a w hD hi hp he hc
      have e8 := hp.of (k := 8) rfl
      have hf := he.h0
      replace hf := hf.more he 15 rfl (onP e8)
      refine stP hf rfl rfl rfl (pFA fa_140_1 rfl) fun a hf => cNil ?_
      refine xThenN ?_
      intro ds u hau
      refine ⟨θ,he.put0 hi hau hf rfl 16 rfl rfl,?_⟩
      exact hc
     ·intro E θ a w hD hi hp he hc
      have e7 := hp.of (k := 7) rfl
      have e9 := hp.of (k := 9) rfl
      try dsimp only at hc
      rw [hi] at hc
      have hf := he.h0
      replace hf := hf.more he 14 rfl (onP e7)
      replace hf := hf.more he 16 rfl (onP e9)
      refine stSt (vs := [.slice ((θ 56).p) ((x_1 ++ [(⟨x_2,x_3⟩ : api_Span)]).length) ((θ 56).c)]) hf hc rfl rfl rfl rfl sz_44 rfl rfl u5 fun w hc => cNil ?_
      refine xThenN ?_
      intro ds u hau
      refine ⟨θ,he.stay0 hi hau hf rfl,?_⟩
      try dsimp only
      rw [updE_self E 10]
      exact hc
     ·intro E θ a w hall he hc
      have hf := he.h0
      have e6 := hall 6 rfl
      have e7 := hall 7 rfl
      have e10 := hall 10 rfl
      replace hf := hf.more he 6 rfl (onT)
      replace hf := hf.more he 5 rfl (onT)
      replace hf := hf.more he 4 rfl (onT)
      replace hf := hf.more he 2 rfl (onT)
      replace hf := hf.more he 1 rfl (onT)
      replace hf := hf.more he 0 rfl (onT)
      try dsimp only at hc
      rw [e6,e7,e10] at hc
      exact ⟨(θ 48).b,(θ 56).p,(θ 56).c,hf.keep ⟨rfl,rfl,rfl,rfl,rfl,rfl,trivial⟩,hc⟩
     rintro a w ⟨b_8,p_3,c_3,hf,hc⟩
     refine h16 _ _ ?_
     refine cReg ?_
     refine stP hf rfl rfl rfl (pAdd rfl rfl) fun a hf => stP hf rfl rfl rfl (pM rfl) fun a hf => cNil ?_
     replace hc := hc.drop k2
     replace hc := hc.drop k1
     replace hc := hc.drop k0
     exact hK12 (e_1,W (x + 1),(x_1 ++ [(⟨x_2,x_3⟩ : api_Span)])) _ _ (Option.some.inj hF).symm ⟨p_3,c_3,(D_1::Ds),hf.keep ⟨rfl,rfl,rfl,rfl,rfl,rfl,trivial⟩,hc⟩
   ·rintro D_1 ⟨x_2,x_3⟩ _ a w hsF rfl hf hc
    replace hf : Has ⟨65,markL (D_1::Ds)⟩ a [(5,.pointer (some ⟨b_2,0,none⟩)),(6,.int .i64 e_1),(7,.pointer (some ⟨b_3,0,none⟩)),(9,.pointer (some ⟨b_5,0,none⟩)),(10,.pointer (some ⟨b_6,0,none⟩)),(24,.slice r_Gaugings_p r.Gaugings.length r_Gaugings_c),(25,.int .i64 ((r.Gaugings.length : Nat) : Int)),(26,.int .i64 x)] := hf.keep ⟨rfl,rfl,rfl,rfl,rfl,rfl,rfl,rfl,trivial⟩
    replace hc : Ctx G (.box b_6 [.int .i64 x_2,.int .i64 x_3] 50::.box b_5 [.int .i64 e_2.Day,.int .i64 e_2.Stage,.int .i64 e_2.Flow.Lo,.int .i64 e_2.Flow.Hi] 71::.row p_1 c_1 (x_1.map enc_api_Span) 50 2::.box b_3 [.func (.func 107) #[.pointer (some ⟨b_2,0,none⟩)] #[]] 194::.box b_2 [.slice r_Rating_p r.Rating.length r_Rating_c,.slice r_Gaugings_p r.Gaugings.length r_Gaugings_c,.slice p_1 x_1.length c_1] 140::(raws (D_1::Ds) ++ Lf)) w := rawsIn (C := []) (L := [.box b_6 [.int .i64 x_2,.int .i64 x_3] 50,.box b_5 [.int .i64 e_2.Day,.int .i64 e_2.Stage,.int .i64 e_2.Flow.Lo,.int .i64 e_2.Flow.Hi] 71,.row p_1 c_1 (x_1.map enc_api_Span) 50 2,.box b_3 [.func (.func 107) #[.pointer (some ⟨b_2,0,none⟩)] #[]] 194,.box b_2 [.slice r_Rating_p r.Rating.length r_Rating_c,.slice r_Gaugings_p r.Gaugings.length r_Gaugings_c,.slice p_1 x_1.length c_1] 140]) hc
    replace hF : (none) = some st12 := by subst hsF; exact hF
    cases hF
  ·replace hF := condF hb hF
   clear hb
   refine wp_exit ?_
   refine xThen ?_
   refine xThen ?_
   have he := Option.some.inj hF
   rw [← he] at hfin12
   refine cHit ?_
   exact hr12 _ _ _ hfin12 ⟨p_1,c_1,Ds,hf.keep ⟨rfl,rfl,rfl,rfl,rfl,rfl,trivial⟩,hc⟩

def shift_Passes (N : Nat) (r : shift_Record) : Option ((List api_Span) × Int) :=
 Option.bind (shift_opened N r) (sumK (fun r_0 => cond (r_0 != 0)
 (some (([] : List api_Span),r_0))
 (none))
 (fun r_1 => cond (r_1.2 != 0)
 (some (([] : List api_Span),r_1.2))
 (some (r_1.1,0))))
theorem shift_Passes_ok {N : Nat} {G : Pers} {Lf : List Ent} {w : World} (r : shift_Record) {r_Rating_p : Option Addr} {r_Rating_c : Nat} {r_Gaugings_p : Option Addr} {r_Gaugings_c : Nat} (h_r_Rating : Rd G 2 r_Rating_p r_Rating_c (r.Rating.map enc_shift_Mark)) (h_r_Gaugings : Rd G 4 r_Gaugings_p r_Gaugings_c (r.Gaugings.map enc_shift_Gauging)) (hc : Ctx G (Lf) w) {res : (List api_Span) × Int} (hF : shift_Passes N r = some res) : Calls Try.prog 22 #[.agg #[.slice r_Rating_p r.Rating.length r_Rating_c,.slice r_Gaugings_p r.Gaugings.length r_Gaugings_c]] w (fun e w => ∃ (p'1 : Option Addr) (c'1 : Nat),e = .returned (.tuple #[.slice p'1 res.1.length c'1,.int .i64 res.2]) ∧ Ctx G (.row p'1 c'1 (res.1.map enc_api_Span) 50 2::Lf) w) := by
 unfold shift_Passes at hF
 refine fnIn (args := [.agg #[.slice r_Rating_p r.Rating.length r_Rating_c,.slice r_Gaugings_p r.Gaugings.length r_Gaugings_c]]) Try.func22 rfl Try.ntmps22 rfl fun a hf => wp_seq_k fun K1 h1 => cReg ?_
 refine stBx (cs := [.slice r_Rating_p r.Rating.length r_Rating_c,.slice r_Gaugings_p r.Gaugings.length r_Gaugings_c]) hf hc rfl rfl rfl rfl fun b_1 a w hf hc => stP hf rfl rfl rfl (pA rfl) fun a hf => stP hf rfl rfl rfl (pA rfl) fun a hf => cNil ?_
 refine h1 _ _ ?_
 refine wp_seq_k fun K2 h2 => cReg ?_
 refine stE hf hc rfl rfl rfl (eLdN (vs := [.slice r_Rating_p r.Rating.length r_Rating_c,.slice r_Gaugings_p r.Gaugings.length r_Gaugings_c]) ag_25 rfl rfl (cells_box (n := 2) m0 rfl)) fun a w hf hc => ?_
 obtain ⟨r_0,hr_0,hF⟩ := bnd_some hF
 cases r_0 with
 | inl r_0 =>
  replace hF := sumKl hF
  refine stC (vs := [.agg #[.slice r_Rating_p r.Rating.length r_Rating_c,.slice r_Gaugings_p r.Gaugings.length r_Gaugings_c]]) (caps := []) hf rfl rfl rfl en_73 rfl rfl rfl rfl (shift_opened_ok r h_r_Rating h_r_Gaugings hc hr_0) ?_
  rintro _ w ⟨rfl,hc⟩
  refine ⟨_,rfl,fun a hf => ?_⟩
  refine stP hf rfl rfl rfl (pM rfl) fun a hf => stP hf rfl rfl rfl (pX rfl rfl) fun a hf => stP hf rfl rfl rfl (pX rfl rfl) fun a hf => stP hf rfl rfl rfl (pA rfl) fun a hf => stP hf rfl rfl rfl (pA rfl) fun a hf => cNil ?_
  refine h2 _ _ ?_
  refine wp_seq_k fun K3 h3 => wp_seq_k fun K4 h4 => cReg ?_
  refine stP hf rfl rfl rfl (pM rfl) fun a hf => stP hf rfl rfl rfl (pNe rfl rfl) fun a hf => cNil ?_
  refine h4 _ _ ?_
  refine cCond (b := (r_0 != 0)) hf rfl (fun hb => ?_) (fun hb => ?_)
  ·replace hF := condT hb hF
   clear hb
   refine wp_seq_k fun K5 h5 => cReg ?_
   refine stP hf rfl rfl rfl (pM rfl) fun a hf => stP hf rfl rfl rfl (pA rfl) fun a hf => stP hf rfl rfl rfl (pA rfl) fun a hf => cNil ?_
   refine h5 _ _ ?_
   refine wp_ret ?_
   refine xThenR ?_
   obtain rfl := Option.some.inj hF
   replace hc := hc.nilRow 50 2
   replace hc := hc.drop k1
   exact fnOut2 (by simp) rfl Try.results22 hf hc (show look _ 2 = _ from rfl) (show look _ 3 = _ from rfl) ⟨none,0,rfl,hc⟩
  ·replace hF := condF hb hF
   clear hb
   refine wp_skip ?_
   refine h3 _ _ ?_
   refine wp_seq_k fun K6 h6 => noneO hF
 | inr r_1 =>
  replace hF := sumKr hF
  have hr_1 := hr_0
  refine stC (vs := [.agg #[.slice r_Rating_p r.Rating.length r_Rating_c,.slice r_Gaugings_p r.Gaugings.length r_Gaugings_c]]) (caps := []) hf rfl rfl rfl en_73 rfl rfl rfl rfl (shift_opened_ok r h_r_Rating h_r_Gaugings hc hr_1) ?_
  rintro _ w ⟨b_2,p_1,c_1,rfl,hc⟩
  refine ⟨_,rfl,fun a hf => ?_⟩
  refine stP hf rfl rfl rfl (pM rfl) fun a hf => stP hf rfl rfl rfl (pX rfl rfl) fun a hf => stP hf rfl rfl rfl (pX rfl rfl) fun a hf => stP hf rfl rfl rfl (pA rfl) fun a hf => stP hf rfl rfl rfl (pA rfl) fun a hf => cNil ?_
  refine h2 _ _ ?_
  refine wp_seq_k fun K7 h7 => wp_seq_k fun K8 h8 => cReg ?_
  refine stP hf rfl rfl rfl (pM rfl) fun a hf => stP hf rfl rfl rfl (pNe rfl rfl) fun a hf => cNil ?_
  refine h8 _ _ ?_
  refine cCond (b := (r_1.2 != 0)) hf rfl (fun hb => ?_) (fun hb => ?_)
  ·replace hF := condT hb hF
   clear hb
   refine wp_seq_k fun K9 h9 => cReg ?_
   refine stP hf rfl rfl rfl (pM rfl) fun a hf => stP hf rfl rfl rfl (pA rfl) fun a hf => stP hf rfl rfl rfl (pA rfl) fun a hf => cNil ?_
   refine h9 _ _ ?_
   refine wp_ret ?_
   refine xThenR ?_
   obtain rfl := Option.some.inj hF
   replace hc := hc.nilRow 50 2
   replace hc := hc.drop k3
   replace hc := hc.drop k2
   replace hc := hc.drop k1
   exact fnOut2 (by simp) rfl Try.results22 hf hc (show look _ 2 = _ from rfl) (show look _ 3 = _ from rfl) ⟨none,0,rfl,hc⟩
  ·replace hF := condF hb hF
   clear hb
   refine wp_skip ?_
   refine h7 _ _ ?_
   refine wp_seq_k fun K10 h10 => cReg ?_
   refine stP hf rfl rfl rfl (pM rfl) fun a hf => stP hf rfl rfl rfl (pNC rfl) fun a hf => stP hf rfl rfl rfl (pFA fa_140_1 rfl) fun a hf => stE hf hc rfl rfl rfl (eLd1 sc_44 rfl (cell_box m1 rfl)) fun a w hf hc => stP hf rfl rfl rfl (pA rfl) fun a hf => stP hf rfl rfl rfl (pA rfl) fun a hf => cNil ?_
   refine h10 _ _ ?_
   refine wp_ret ?_
   obtain rfl := Option.some.inj hF
   replace hc := hc.drop k2
   replace hc := hc.drop k1
   exact fnOut2 (by simp) rfl Try.results22 hf hc (show look _ 2 = _ from rfl) (show look _ 3 = _ from rfl) ⟨p_1,c_1,rfl,hc⟩

def law05_Three (N : Nat)  : Option (shift_Record) :=
 Option.bind (law05_span N 90 130) fun r =>
 Option.bind (law05_span N 95 100) fun r_1 =>
 Option.bind (law05_span N 70 160) fun r_2 =>
 some (⟨([(⟨0,0⟩ : shift_Mark),(⟨10,100⟩ : shift_Mark),(⟨20,400⟩ : shift_Mark)] : List shift_Mark),([(⟨1,13,r⟩ : shift_Gauging),(⟨5,10,r_1⟩ : shift_Gauging),(⟨9,15,r_2⟩ : shift_Gauging)] : List shift_Gauging)⟩ : shift_Record)
theorem law05_Three_ok {N : Nat} {G : Pers} {Lf : List Ent} {w : World}    (hc : Ctx G (Lf) w) {res : shift_Record} (hF : law05_Three N = some res) : Calls Try.prog 55 #[] w (fun e w => ∃ (p'1 : Option Addr) (c'1 : Nat) (p'2 : Option Addr) (c'2 : Nat),e = .returned (.agg #[.slice p'1 res.Rating.length c'1,.slice p'2 res.Gaugings.length c'2]) ∧ Ctx G (.row p'1 c'1 (res.Rating.map enc_shift_Mark) 77 2::.row p'2 c'2 (res.Gaugings.map enc_shift_Gauging) 71 4::Lf) w) := by
 unfold law05_Three at hF
 refine fnIn (args := []) Try.func55 rfl Try.ntmps55 rfl fun a hf => wp_seq_k fun K1 h1 => cReg ?_
 refine stAl (cs := [.slice none 0 0,.slice none 0 0]) hf hc rfl rfl zr_25 rfl fun b_1 a w hf hc => cNil ?_
 refine h1 _ _ ?_
 refine wp_seq_k fun K2 h2 => cReg ?_
 refine stP hf rfl rfl rfl (pBuildS (cells := [.int .i64 0,.int .i64 0]) bt_77 rfl rfl) fun a hf => stP hf rfl rfl rfl (pBuildS (cells := [.int .i64 10,.int .i64 100]) bt_77 rfl rfl) fun a hf => stP hf rfl rfl rfl (pBuildS (cells := [.int .i64 20,.int .i64 400]) bt_77 rfl rfl) fun a hf => stBS (rows := ([(⟨0,0⟩ : shift_Mark),(⟨10,100⟩ : shift_Mark),(⟨20,400⟩ : shift_Mark)] : List shift_Mark).map enc_shift_Mark) (vs := [(0,.agg #[.int .i64 0,.int .i64 0]),(1,.agg #[.int .i64 10,.int .i64 100]),(2,.agg #[.int .i64 20,.int .i64 400])]) hf hc rfl rfl sl_22 rfl ⟨rfl,rfl,rfl,rfl,rfl,rfl,rfl,rfl,rfl,trivial⟩ rfl rfl fun b_2 a w hf hc => ?_
 obtain ⟨r,hr,hF⟩ := bnd_some hF
 refine stE hf hc rfl rfl rfl (eC (v := .agg #[.int .i64 r.Lo,.int .i64 r.Hi]) (vs := [.int .i64 90,.int .i64 130]) (caps := []) en_47 rfl rfl rfl rfl (fun w hc => law05_span_ok 90 130 hc hr)) fun a w hf hc => stP hf rfl rfl rfl (pBuildS (cells := [.int .i64 1,.int .i64 13,.int .i64 r.Lo,.int .i64 r.Hi]) bt_71 rfl rfl) fun a hf => ?_
 obtain ⟨r_1,hr_1,hF⟩ := bnd_some hF
 refine stE hf hc rfl rfl rfl (eC (v := .agg #[.int .i64 r_1.Lo,.int .i64 r_1.Hi]) (vs := [.int .i64 95,.int .i64 100]) (caps := []) en_47 rfl rfl rfl rfl (fun w hc => law05_span_ok 95 100 hc hr_1)) fun a w hf hc => stP hf rfl rfl rfl (pBuildS (cells := [.int .i64 5,.int .i64 10,.int .i64 r_1.Lo,.int .i64 r_1.Hi]) bt_71 rfl rfl) fun a hf => ?_
 obtain ⟨r_2,hr_2,hF⟩ := bnd_some hF
 refine stE hf hc rfl rfl rfl (eC (v := .agg #[.int .i64 r_2.Lo,.int .i64 r_2.Hi]) (vs := [.int .i64 70,.int .i64 160]) (caps := []) en_47 rfl rfl rfl rfl (fun w hc => law05_span_ok 70 160 hc hr_2)) fun a w hf hc => stP hf rfl rfl rfl (pBuildS (cells := [.int .i64 9,.int .i64 15,.int .i64 r_2.Lo,.int .i64 r_2.Hi]) bt_71 rfl rfl) fun a hf => stBS (rows := ([(⟨1,13,r⟩ : shift_Gauging),(⟨5,10,r_1⟩ : shift_Gauging),(⟨9,15,r_2⟩ : shift_Gauging)] : List shift_Gauging).map enc_shift_Gauging) (vs := [(0,.agg #[.int .i64 1,.int .i64 13,.int .i64 r.Lo,.int .i64 r.Hi]),(1,.agg #[.int .i64 5,.int .i64 10,.int .i64 r_1.Lo,.int .i64 r_1.Hi]),(2,.agg #[.int .i64 9,.int .i64 15,.int .i64 r_2.Lo,.int .i64 r_2.Hi])]) hf hc rfl rfl sl_23 rfl ⟨rfl,rfl,rfl,rfl,rfl,rfl,rfl,rfl,rfl,trivial⟩ rfl rfl fun b_3 a w hf hc => stP hf rfl rfl rfl (pBuildS (cells := [.slice (some ⟨b_2,0,none⟩) 3 3,.slice (some ⟨b_3,0,none⟩) 3 3]) bt_25 rfl rfl) fun a hf => stSt (vs := [.slice (some ⟨b_2,0,none⟩) 3 3,.slice (some ⟨b_3,0,none⟩) 3 3]) hf hc rfl rfl rfl rfl sz_25 rfl rfl u2 fun w hc => cNil ?_
 refine h2 _ _ ?_
 refine wp_ret ?_
 obtain rfl := Option.some.inj hF
 replace hc := hc.pick k0
 replace hc := hc.pick k1
 exact fnOut1 (by simp) rfl Try.results55 hf hc (rv_cellN (vs := [.slice (some ⟨b_2,0,none⟩) 3 3,.slice (some ⟨b_3,0,none⟩) 3 3]) ag_25 rfl rfl (cells_box (n := 2) m2 rfl)) ⟨(some ⟨b_2,0,none⟩),3,(some ⟨b_3,0,none⟩),3,rfl,(hc.drop k2)⟩

def shift_asked (N : Nat) (l : List shift_Mark) (at_ : Int) (shift : Int) : Option (Int) :=
 Option.bind (shift_rated N l) fun r =>
 cond (r != 0)
 (some r)
 (Option.bind (shift_rises N l) fun r_1 =>
 cond (!r_1)
 (some 9)
 (cond ((!(shift_stage at_)) || (!(shift_in shift (-300) 300)))
 (some 4)
 (some 0)))
theorem shift_asked_ok {N : Nat} {G : Pers} {Lf : List Ent} {w : World} (l : List shift_Mark) (at_ : Int) (shift : Int) {l_p : Option Addr} {l_c : Nat} (h_l : Rd G 2 l_p l_c (l.map enc_shift_Mark)) (hc : Ctx G (Lf) w) {res : Int} (hF : shift_asked N l at_ shift = some res) : Calls Try.prog 68 #[.slice l_p l.length l_c,.int .i64 at_,.int .i64 shift] w (fun e w => e = .returned (.int .i64 res) ∧ Ctx G (Lf) w) := by
 unfold shift_asked at hF
 refine fnIn (args := [.slice l_p l.length l_c,.int .i64 at_,.int .i64 shift]) Try.func68 rfl Try.ntmps68 rfl fun a hf => wp_seq_k fun K1 h1 => cReg ?_
 refine stP hf rfl rfl rfl (pA rfl) fun a hf => cNil ?_
 refine h1 _ _ ?_
 refine wp_seq_k fun K2 h2 => cReg ?_
 refine stP hf rfl rfl rfl (pM rfl) fun a hf => ?_
 obtain ⟨r,hr,hF⟩ := bnd_some hF
 refine stE hf hc rfl rfl rfl (eC (v := .int .i64 r) (vs := [.slice l_p l.length l_c]) (caps := []) en_58 rfl rfl rfl rfl (fun w hc => shift_rated_ok l h_l hc hr)) fun a w hf hc => stP hf rfl rfl rfl (pA rfl) fun a hf => cNil ?_
 refine h2 _ _ ?_
 refine wp_seq_k fun K3 h3 => wp_block ?_
 refine wp_seq_k fun K4 h4 => cReg ?_
 refine stP hf rfl rfl rfl (pM rfl) fun a hf => stP hf rfl rfl rfl (pNe rfl rfl) fun a hf => stP hf rfl rfl rfl (pA rfl) fun a hf => cNil ?_
 refine h4 _ _ ?_
 refine cCond (b := (r != 0)) hf rfl (fun hb => ?_) (fun hb => ?_)
 ·replace hF := condT hb hF
  clear hb
  refine wp_seq_k fun K5 h5 => cReg ?_
  refine stP hf rfl rfl rfl (pM rfl) fun a hf => stP hf rfl rfl rfl (pA rfl) fun a hf => cNil ?_
  refine h5 _ _ ?_
  refine wp_ret ?_
  refine xBlkR ?_
  refine xThenR ?_
  obtain rfl := Option.some.inj hF
  exact fnOut1 (by simp) rfl Try.results68 hf hc (show look _ 6 = _ from rfl) ⟨rfl,hc⟩
 ·replace hF := condF hb hF
  clear hb
  refine wp_seq_k fun K6 h6 => cReg ?_
  refine stP hf rfl rfl rfl (pM rfl) fun a hf => ?_
  obtain ⟨r_1,hr_1,hF⟩ := bnd_some hF
  refine stE hf hc rfl rfl rfl (eC (v := .bool r_1) (vs := [.slice l_p l.length l_c]) (caps := []) en_64 rfl rfl rfl rfl (fun w hc => shift_rises_ok l h_l hc hr_1)) fun a w hf hc => stP hf rfl rfl rfl (pNot rfl) fun a hf => stP hf rfl rfl rfl (pA rfl) fun a hf => cNil ?_
  refine h6 _ _ ?_
  refine cCond (b := (!r_1)) hf rfl (fun hb => ?_) (fun hb => ?_)
  ·replace hF := condT hb hF
   clear hb
   refine wp_seq_k fun K7 h7 => cReg ?_
   refine stP hf rfl rfl rfl (pA rfl) fun a hf => cNil ?_
   refine h7 _ _ ?_
   refine wp_ret ?_
   refine xBlkR ?_
   refine xThenR ?_
   obtain rfl := Option.some.inj hF
   exact fnOut1 (by simp) rfl Try.results68 hf hc (show look _ 6 = _ from rfl) ⟨rfl,hc⟩
  ·replace hF := condF hb hF
   clear hb
   refine wp_seq_k fun K8 h8 => cReg ?_
   refine stP hf rfl rfl rfl (pM rfl) fun a hf => stE hf hc rfl rfl rfl (eC (v := .bool (shift_stage at_)) (vs := [.int .i64 at_]) (caps := []) en_62 rfl rfl rfl rfl (fun w hc => shift_stage_ok at_ hc rfl)) fun a w hf hc => stP hf rfl rfl rfl (pNot rfl) fun a hf => stP hf rfl rfl rfl (pM rfl) fun a hf => stCut 4 (fun a w => Has 27 a [(1,.int .i64 at_),(2,.int .i64 shift),(19,.int .i64 at_),(20,.bool (shift_stage at_)),(21,.bool (!(shift_stage at_))),(22,.bool (!(shift_stage at_))),(26,.bool ((!(shift_stage at_)) || (!(shift_in shift (-300) 300))))] ∧ Ctx G (Lf) w) ?_ ?_
   ·cases hb : (!(shift_stage at_))
    ·rw [hb] at hf
     refine stP hf rfl rfl rfl (pM rfl) fun a hf => stE hf hc rfl rfl rfl (eC (v := .bool (shift_in shift (-300) 300)) (vs := [.int .i64 shift,.int .i64 (-300),.int .i64 300]) (caps := []) en_59 rfl rfl rfl rfl (fun w hc => shift_in_ok shift (-300) 300 hc rfl)) fun a w hf hc => stP hf rfl rfl rfl (pNot rfl) fun a hf => stP hf rfl rfl rfl (pPf rfl rfl) fun a hf => cNil ⟨hf.keep ⟨rfl,rfl,rfl,rfl,rfl,rfl,rfl,trivial⟩,hc⟩
    ·rw [hb] at hf
     refine stS hf rfl rfl rfl fun a hf => stS hf rfl rfl rfl fun a hf => stS hf rfl rfl rfl fun a hf => stP hf rfl rfl rfl (pPt rfl rfl) fun a hf => cNil ⟨hf.keep ⟨rfl,rfl,rfl,rfl,rfl,rfl,rfl,trivial⟩,hc⟩
   intro a w ⟨hf,hc⟩
   refine stP hf rfl rfl rfl (pA rfl) fun a hf => cNil ?_
   refine h8 _ _ ?_
   refine cCond (b := ((!(shift_stage at_)) || (!(shift_in shift (-300) 300)))) hf rfl (fun hb => ?_) (fun hb => ?_)
   ·replace hF := condT hb hF
    clear hb
    refine wp_seq_k fun K9 h9 => cReg ?_
    refine stP hf rfl rfl rfl (pA rfl) fun a hf => cNil ?_
    refine h9 _ _ ?_
    refine wp_ret ?_
    refine xBlkR ?_
    refine xThenR ?_
    obtain rfl := Option.some.inj hF
    exact fnOut1 (by simp) rfl Try.results68 hf hc (show look _ 6 = _ from rfl) ⟨rfl,hc⟩
   ·replace hF := condF hb hF
    clear hb
    refine wp_skip ?_
    refine h3 _ _ ?_
    refine wp_seq_k fun K10 h10 => cReg ?_
    refine stP hf rfl rfl rfl (pA rfl) fun a hf => cNil ?_
    refine h10 _ _ ?_
    refine wp_ret ?_
    obtain rfl := Option.some.inj hF
    exact fnOut1 (by simp) rfl Try.results68 hf hc (show look _ 6 = _ from rfl) ⟨rfl,hc⟩

def shift_Means (N : Nat) (rating : List shift_Mark) (stage : Int) (shift : Int) : Option (api_Ratio × Int) :=
 Option.bind (shift_asked N rating stage shift) fun r =>
 cond (r != 0)
 (some ((⟨0,0⟩ : api_Ratio),r))
 (Option.bind (shift_means N rating (W (stage - shift))) fun r_1 =>
 some (r_1,0))
theorem shift_Means_ok {N : Nat} {G : Pers} {Lf : List Ent} {w : World} (rating : List shift_Mark) (stage : Int) (shift : Int) {rating_p : Option Addr} {rating_c : Nat} (h_rating : Rd G 2 rating_p rating_c (rating.map enc_shift_Mark)) (hc : Ctx G (Lf) w) {res : api_Ratio × Int} (hF : shift_Means N rating stage shift = some res) : Calls Try.prog 17 #[.slice rating_p rating.length rating_c,.int .i64 stage,.int .i64 shift] w (fun e w => e = .returned (.tuple #[.agg #[.int .i64 res.1.N,.int .i64 res.1.D],.int .i64 res.2]) ∧ Ctx G (Lf) w) := by
 unfold shift_Means at hF
 refine fnIn (args := [.slice rating_p rating.length rating_c,.int .i64 stage,.int .i64 shift]) Try.func17 rfl Try.ntmps17 rfl fun a hf => wp_seq_k fun K1 h1 => cReg ?_
 refine stAl (cs := [.int .i64 0,.int .i64 0]) hf hc rfl rfl zr_37 rfl fun b_1 a w hf hc => stP hf rfl rfl rfl (pA rfl) fun a hf => cNil ?_
 refine h1 _ _ ?_
 refine wp_seq_k fun K2 h2 => wp_seq_k fun K3 h3 => cReg ?_
 refine stP hf rfl rfl rfl (pM rfl) fun a hf => stP hf rfl rfl rfl (pM rfl) fun a hf => stP hf rfl rfl rfl (pM rfl) fun a hf => ?_
 obtain ⟨r,hr,hF⟩ := bnd_some hF
 refine stE hf hc rfl rfl rfl (eC (v := .int .i64 r) (vs := [.slice rating_p rating.length rating_c,.int .i64 stage,.int .i64 shift]) (caps := []) en_68 rfl rfl rfl rfl (fun w hc => shift_asked_ok rating stage shift h_rating hc hr)) fun a w hf hc => stP hf rfl rfl rfl (pA rfl) fun a hf => cNil ?_
 refine h3 _ _ ?_
 refine wp_seq_k fun K4 h4 => cReg ?_
 refine stP hf rfl rfl rfl (pM rfl) fun a hf => stP hf rfl rfl rfl (pNe rfl rfl) fun a hf => cNil ?_
 refine h4 _ _ ?_
 refine cCond (b := (r != 0)) hf rfl (fun hb => ?_) (fun hb => ?_)
 ·replace hF := condT hb hF
  clear hb
  refine wp_seq_k fun K5 h5 => cReg ?_
  refine stP hf rfl rfl rfl (pBuildS (cells := [.int .i64 0,.int .i64 0]) bt_37 rfl rfl) fun a hf => stP hf rfl rfl rfl (pM rfl) fun a hf => stSt (vs := [.int .i64 0,.int .i64 0]) hf hc rfl rfl rfl rfl sz_37 rfl rfl u0 fun w hc => stP hf rfl rfl rfl (pA rfl) fun a hf => cNil ?_
  refine h5 _ _ ?_
  refine wp_ret ?_
  refine xThenR ?_
  obtain rfl := Option.some.inj hF
  exact fnOut2 (by simp) rfl Try.results17 hf hc (rv_cellN (vs := [.int .i64 0,.int .i64 0]) ag_37 rfl rfl (cells_box (n := 2) m0 rfl)) (show look _ 7 = _ from rfl) ⟨rfl,(hc.drop k0)⟩
 ·replace hF := condF hb hF
  clear hb
  refine wp_skip ?_
  refine h2 _ _ ?_
  refine wp_seq_k fun K6 h6 => cReg ?_
  refine stP hf rfl rfl rfl (pM rfl) fun a hf => stP hf rfl rfl rfl (pM rfl) fun a hf => stP hf rfl rfl rfl (pM rfl) fun a hf => stP hf rfl rfl rfl (pSub rfl rfl) fun a hf => ?_
  obtain ⟨r_1,hr_1,hF⟩ := bnd_some hF
  refine stE hf hc rfl rfl rfl (eC (v := .agg #[.int .i64 r_1.N,.int .i64 r_1.D]) (vs := [.slice rating_p rating.length rating_c,.int .i64 (W (stage - shift))]) (caps := []) en_69 rfl rfl rfl rfl (fun w hc => shift_means_ok rating (W (stage - shift)) h_rating hc hr_1)) fun a w hf hc => stSt (vs := [.int .i64 r_1.N,.int .i64 r_1.D]) hf hc rfl rfl rfl rfl sz_37 rfl rfl u0 fun w hc => stP hf rfl rfl rfl (pA rfl) fun a hf => cNil ?_
  refine h6 _ _ ?_
  refine wp_ret ?_
  obtain rfl := Option.some.inj hF
  exact fnOut2 (by simp) rfl Try.results17 hf hc (rv_cellN (vs := [.int .i64 r_1.N,.int .i64 r_1.D]) ag_37 rfl rfl (cells_box (n := 2) m0 rfl)) (show look _ 7 = _ from rfl) ⟨rfl,(hc.drop k0)⟩

def shift_Rising_j3 (N : Nat) (rating : List shift_Mark) (stage : Int) (shift : Int) (rise : Int) (per : Int) (e_1 : Int) : Option (api_Ratio × Int) :=
 cond (e_1 != 0)
 (some ((⟨0,0⟩ : api_Ratio),e_1))
 (Option.bind (shift_means N rating (W (stage - shift))) fun r_1 =>
 Option.bind (shift_ratio N (W (r_1.N * (max 0 (W (1000 + (W (rise * per))))))) (W (1000 * r_1.D))) fun r_2 =>
 some (r_2,0))
def shift_Rising (N : Nat) (rating : List shift_Mark) (stage : Int) (shift : Int) (rise : Int) (per : Int) : Option (api_Ratio × Int) :=
 Option.bind (shift_asked N rating stage shift) fun r =>
 cond ((r == 0) && ((!(shift_in rise (-1000) 1000)) || (!(shift_in per 0 1000))))
 (shift_Rising_j3 N rating stage shift rise per 4)
 (shift_Rising_j3 N rating stage shift rise per r)
theorem shift_Rising_ok {N : Nat} {G : Pers} {Lf : List Ent} {w : World} (rating : List shift_Mark) (stage : Int) (shift : Int) (rise : Int) (per : Int) {rating_p : Option Addr} {rating_c : Nat} (h_rating : Rd G 2 rating_p rating_c (rating.map enc_shift_Mark)) (hc : Ctx G (Lf) w) {res : api_Ratio × Int} (hF : shift_Rising N rating stage shift rise per = some res) : Calls Try.prog 20 #[.slice rating_p rating.length rating_c,.int .i64 stage,.int .i64 shift,.int .i64 rise,.int .i64 per] w (fun e w => e = .returned (.tuple #[.agg #[.int .i64 res.1.N,.int .i64 res.1.D],.int .i64 res.2]) ∧ Ctx G (Lf) w) := by
 unfold shift_Rising at hF
 refine fnIn (args := [.slice rating_p rating.length rating_c,.int .i64 stage,.int .i64 shift,.int .i64 rise,.int .i64 per]) Try.func20 rfl Try.ntmps20 rfl fun a hf => wp_seq_k fun K1 h1 => cReg ?_
 refine stAl (cs := [.int .i64 0,.int .i64 0]) hf hc rfl rfl zr_37 rfl fun b_1 a w hf hc => stP hf rfl rfl rfl (pA rfl) fun a hf => cNil ?_
 refine h1 _ _ ?_
 refine wp_seq_k fun K2 h2 => cReg ?_
 refine stP hf rfl rfl rfl (pM rfl) fun a hf => stP hf rfl rfl rfl (pM rfl) fun a hf => stP hf rfl rfl rfl (pM rfl) fun a hf => ?_
 obtain ⟨r,hr,hF⟩ := bnd_some hF
 refine stE hf hc rfl rfl rfl (eC (v := .int .i64 r) (vs := [.slice rating_p rating.length rating_c,.int .i64 stage,.int .i64 shift]) (caps := []) en_68 rfl rfl rfl rfl (fun w hc => shift_asked_ok rating stage shift h_rating hc hr)) fun a w hf hc => stP hf rfl rfl rfl (pA rfl) fun a hf => cNil ?_
 refine h2 _ _ ?_
 refine wp_seq_k fun K3 h3 => ?_
 have hj3 : ∀ (e_1 : Int) a w,Has 51 a [(0,.slice rating_p rating.length rating_c),(1,.int .i64 stage),(2,.int .i64 shift),(3,.int .i64 rise),(4,.int .i64 per),(10,.pointer (some ⟨b_1,0,none⟩)),(12,.int .i64 e_1)] → Ctx G (.box b_1 [.int .i64 0,.int .i64 0] 37::Lf) w → shift_Rising_j3 N rating stage shift rise per e_1 = some res → K3 a w := by
  repeat (clear hF)
  repeat (clear hc)
  repeat (clear hf)
  intro e_1 a w hf hc hF
  unfold shift_Rising_j3 at hF
  refine h3 _ _ ?_
  refine wp_seq_k fun K4 h4 => wp_seq_k fun K5 h5 => cReg ?_
  refine stP hf rfl rfl rfl (pM rfl) fun a hf => stP hf rfl rfl rfl (pNe rfl rfl) fun a hf => cNil ?_
  refine h5 _ _ ?_
  refine cCond (b := (e_1 != 0)) hf rfl (fun hb => ?_) (fun hb => ?_)
  ·replace hF := condT hb hF
   clear hb
   refine wp_seq_k fun K6 h6 => cReg ?_
   refine stP hf rfl rfl rfl (pBuildS (cells := [.int .i64 0,.int .i64 0]) bt_37 rfl rfl) fun a hf => stP hf rfl rfl rfl (pM rfl) fun a hf => stSt (vs := [.int .i64 0,.int .i64 0]) hf hc rfl rfl rfl rfl sz_37 rfl rfl u0 fun w hc => stP hf rfl rfl rfl (pA rfl) fun a hf => cNil ?_
   refine h6 _ _ ?_
   refine wp_ret ?_
   refine xThenR ?_
   obtain rfl := Option.some.inj hF
   exact fnOut2 (by simp) rfl Try.results20 hf hc (rv_cellN (vs := [.int .i64 0,.int .i64 0]) ag_37 rfl rfl (cells_box (n := 2) m0 rfl)) (show look _ 11 = _ from rfl) ⟨rfl,(hc.drop k0)⟩
  ·replace hF := condF hb hF
   clear hb
   refine wp_skip ?_
   refine h4 _ _ ?_
   refine wp_seq_k fun K7 h7 => cReg ?_
   refine stP hf rfl rfl rfl (pM rfl) fun a hf => stP hf rfl rfl rfl (pM rfl) fun a hf => stP hf rfl rfl rfl (pM rfl) fun a hf => stP hf rfl rfl rfl (pSub rfl rfl) fun a hf => ?_
   obtain ⟨r_1,hr_1,hF⟩ := bnd_some hF
   refine stE hf hc rfl rfl rfl (eC (v := .agg #[.int .i64 r_1.N,.int .i64 r_1.D]) (vs := [.slice rating_p rating.length rating_c,.int .i64 (W (stage - shift))]) (caps := []) en_69 rfl rfl rfl rfl (fun w hc => shift_means_ok rating (W (stage - shift)) h_rating hc hr_1)) fun a w hf hc => stAl (cs := [.int .i64 0,.int .i64 0]) hf hc rfl rfl zr_37 rfl fun b_2 a w hf hc => stSt (vs := [.int .i64 r_1.N,.int .i64 r_1.D]) hf hc rfl rfl rfl rfl sz_37 rfl rfl u0 fun w hc => cNil ?_
   refine h7 _ _ ?_
   refine wp_seq_k fun K8 h8 => cReg ?_
   refine stP hf rfl rfl rfl (pFA fa_37_0 rfl) fun a hf => stE hf hc rfl rfl rfl (eLd1 sc_3 rfl (cell_box m0 rfl)) fun a w hf hc => stP hf rfl rfl rfl (pM rfl) fun a hf => stP hf rfl rfl rfl (pM rfl) fun a hf => stP hf rfl rfl rfl (pMul rfl rfl) fun a hf => stP hf rfl rfl rfl (pAdd rfl rfl) fun a hf => stP hf rfl rfl rfl (pMax2 rfl rfl) fun a hf => stP hf rfl rfl rfl (pMul rfl rfl) fun a hf => stP hf rfl rfl rfl (pFA fa_37_1 rfl) fun a hf => stE hf hc rfl rfl rfl (eLd1 sc_3 rfl (cell_box m0 rfl)) fun a w hf hc => stP hf rfl rfl rfl (pMul rfl rfl) fun a hf => ?_
   obtain ⟨r_2,hr_2,hF⟩ := bnd_some hF
   refine stE hf hc rfl rfl rfl (eC (v := .agg #[.int .i64 r_2.N,.int .i64 r_2.D]) (vs := [.int .i64 (W (r_1.N * (max 0 (W (1000 + (W (rise * per))))))),.int .i64 (W (1000 * r_1.D))]) (caps := []) en_71 rfl rfl rfl rfl (fun w hc => shift_ratio_ok (W (r_1.N * (max 0 (W (1000 + (W (rise * per))))))) (W (1000 * r_1.D)) hc hr_2)) fun a w hf hc => stSt (vs := [.int .i64 r_2.N,.int .i64 r_2.D]) hf hc rfl rfl rfl rfl sz_37 rfl rfl u1 fun w hc => stP hf rfl rfl rfl (pA rfl) fun a hf => cNil ?_
   refine h8 _ _ ?_
   refine wp_ret ?_
   obtain rfl := Option.some.inj hF
   replace hc := hc.drop k0
   exact fnOut2 (by simp) rfl Try.results20 hf hc (rv_cellN (vs := [.int .i64 r_2.N,.int .i64 r_2.D]) ag_37 rfl rfl (cells_box (n := 2) m0 rfl)) (show look _ 11 = _ from rfl) ⟨rfl,(hc.drop k0)⟩
 refine wp_seq_k fun K9 h9 => cReg ?_
 refine stP hf rfl rfl rfl (pM rfl) fun a hf => stP hf rfl rfl rfl (pEq rfl rfl) fun a hf => stP hf rfl rfl rfl (pM rfl) fun a hf => stCut 9 (fun a w => Has 51 a [(0,.slice rating_p rating.length rating_c),(1,.int .i64 stage),(2,.int .i64 shift),(3,.int .i64 rise),(4,.int .i64 per),(10,.pointer (some ⟨b_1,0,none⟩)),(12,.int .i64 r),(18,.int .i64 r),(19,.bool (r == 0)),(20,.bool (r == 0)),(29,.bool ((r == 0) && ((!(shift_in rise (-1000) 1000)) || (!(shift_in per 0 1000)))))] ∧ Ctx G (.box b_1 [.int .i64 0,.int .i64 0] 37::Lf) w) ?_ ?_
 ·cases hb : (r == 0)
  ·rw [hb] at hf
   refine stS hf rfl rfl rfl fun a hf => stS hf rfl rfl rfl fun a hf => stS hf rfl rfl rfl fun a hf => stS hf rfl rfl rfl fun a hf => stS hf rfl rfl rfl fun a hf => stS hf rfl rfl rfl fun a hf => stS hf rfl rfl rfl fun a hf => stS hf rfl rfl rfl fun a hf => stP hf rfl rfl rfl (pPf rfl rfl) fun a hf => cNil ⟨hf.keep ⟨rfl,rfl,rfl,rfl,rfl,rfl,rfl,rfl,rfl,rfl,rfl,trivial⟩,hc⟩
  ·rw [hb] at hf
   refine stP hf rfl rfl rfl (pM rfl) fun a hf => stE hf hc rfl rfl rfl (eC (v := .bool (shift_in rise (-1000) 1000)) (vs := [.int .i64 rise,.int .i64 (-1000),.int .i64 1000]) (caps := []) en_59 rfl rfl rfl rfl (fun w hc => shift_in_ok rise (-1000) 1000 hc rfl)) fun a w hf hc => stP hf rfl rfl rfl (pNot rfl) fun a hf => stP hf rfl rfl rfl (pM rfl) fun a hf => stCut 4 (fun a w => Has 51 a [(0,.slice rating_p rating.length rating_c),(1,.int .i64 stage),(2,.int .i64 shift),(3,.int .i64 rise),(4,.int .i64 per),(10,.pointer (some ⟨b_1,0,none⟩)),(12,.int .i64 r),(18,.int .i64 r),(19,.bool true),(20,.bool true),(21,.int .i64 rise),(22,.bool (shift_in rise (-1000) 1000)),(23,.bool (!(shift_in rise (-1000) 1000))),(24,.bool (!(shift_in rise (-1000) 1000))),(28,.bool ((!(shift_in rise (-1000) 1000)) || (!(shift_in per 0 1000))))] ∧ Ctx G (.box b_1 [.int .i64 0,.int .i64 0] 37::Lf) w) ?_ ?_
   ·cases hb : (!(shift_in rise (-1000) 1000))
    ·rw [hb] at hf
     refine stP hf rfl rfl rfl (pM rfl) fun a hf => stE hf hc rfl rfl rfl (eC (v := .bool (shift_in per 0 1000)) (vs := [.int .i64 per,.int .i64 0,.int .i64 1000]) (caps := []) en_59 rfl rfl rfl rfl (fun w hc => shift_in_ok per 0 1000 hc rfl)) fun a w hf hc => stP hf rfl rfl rfl (pNot rfl) fun a hf => stP hf rfl rfl rfl (pPf rfl rfl) fun a hf => cNil ⟨hf.keep ⟨rfl,rfl,rfl,rfl,rfl,rfl,rfl,rfl,rfl,rfl,rfl,rfl,rfl,rfl,rfl,trivial⟩,hc⟩
    ·rw [hb] at hf
     refine stS hf rfl rfl rfl fun a hf => stS hf rfl rfl rfl fun a hf => stS hf rfl rfl rfl fun a hf => stP hf rfl rfl rfl (pPt rfl rfl) fun a hf => cNil ⟨hf.keep ⟨rfl,rfl,rfl,rfl,rfl,rfl,rfl,rfl,rfl,rfl,rfl,rfl,rfl,rfl,rfl,trivial⟩,hc⟩
   intro a w ⟨hf,hc⟩
   refine stP hf rfl rfl rfl (pPt rfl rfl) fun a hf => cNil ⟨hf.keep ⟨rfl,rfl,rfl,rfl,rfl,rfl,rfl,rfl,rfl,rfl,rfl,trivial⟩,hc⟩
 intro a w ⟨hf,hc⟩
 refine cNil ?_
 refine h9 _ _ ?_
 refine cCond (b := ((r == 0) && ((!(shift_in rise (-1000) 1000)) || (!(shift_in per 0 1000))))) hf rfl (fun hb => ?_) (fun hb => ?_)
 ·replace hF := condT hb hF
  clear hb
  refine cReg ?_
  refine stP hf rfl rfl rfl (pA rfl) fun a hf => cNil ?_
  exact hj3 4 _ _  (hf.keep ⟨rfl,rfl,rfl,rfl,rfl,rfl,rfl,trivial⟩) hc hF
 ·replace hF := condF hb hF
  clear hb
  refine wp_skip ?_
  exact hj3 r _ _  (hf.keep ⟨rfl,rfl,rfl,rfl,rfl,rfl,rfl,trivial⟩) hc hF

def slices_Clone_Lapi_Span_api_Span (N : Nat) (s_ : List api_Span) : Option ((List api_Span)) :=
 Option.bind (room (s_).length) fun un =>
 some s_
theorem slices_Clone_Lapi_Span_api_Span_ok {N : Nat} {G : Pers} {Lf : List Ent} {w : World} (s_ : List api_Span) {s__p : Option Addr} {s__c : Nat} (h_s_ : Rd G 2 s__p s__c (s_.map enc_api_Span)) (hc : Ctx G (Lf) w) {res : (List api_Span)} (hF : slices_Clone_Lapi_Span_api_Span N s_ = some res) : Calls Try.prog 79 #[.slice s__p s_.length s__c] w (fun e w => ∃ (p'1 : Option Addr) (c'1 : Nat),e = .returned (.slice p'1 res.length c'1) ∧ Ctx G (.row p'1 c'1 (res.map enc_api_Span) 50 2::Lf) w) := by
 unfold slices_Clone_Lapi_Span_api_Span at hF
 refine fnIn (args := [.slice s__p s_.length s__c]) Try.func79 rfl Try.ntmps79 rfl fun a hf => wp_seq_k fun K1 h1 => cReg ?_
 refine stP hf rfl rfl rfl (pA rfl) fun a hf => cNil ?_
 refine h1 _ _ ?_
 refine wp_seq_k fun K2 h2 => wp_seq_k fun K3 h3 => cReg ?_
 refine stP hf rfl rfl rfl (pM rfl) fun a hf => stP hf rfl rfl rfl (pEqN Try.underlying44 rfl rfl) fun a hf => cNil ?_
 refine h3 _ _ ?_
 rcases rd_nilq h_s_ with ⟨hp,hx⟩ | hp
 ·rw [hp] at hf
  replace hF : (some ([] : List api_Span)) = some res := by
   try rw [hx] at hF
   exact hF
  refine cCondT hf rfl ?_
  refine wp_seq_k fun K4 h4 => cReg ?_
  refine stP hf rfl rfl rfl (pA rfl) fun a hf => cNil ?_
  refine h4 _ _ ?_
  refine wp_ret ?_
  refine xThenR ?_
  obtain rfl := Option.some.inj hF
  replace hc := hc.nilRow 50 2
  exact fnOut1 (by simp) rfl Try.results79 hf hc (show look _ 2 = _ from rfl) ⟨none,0,rfl,hc⟩
 ·rw [hp] at hf
  refine cCondF hf rfl ?_
  refine wp_skip ?_
  refine h2 _ _ ?_
  refine wp_seq_k fun K5 h5 => cReg ?_
  refine stBS (rows := ([] : List api_Span).map enc_api_Span) (vs := []) hf hc rfl rfl sl_44 rfl trivial rfl rfl fun b_1 a w hf hc => stP hf rfl rfl rfl (pM rfl) fun a hf => ?_
  obtain ⟨un,hun,hF⟩ := bnd_some hF
  refine stApm (xs := ([] : List api_Span)) (ys := s_) hf hc rfl rfl sl_44 rfl rfl rfl rfl rfl one_enc_api_Span (src_rd hc h_s_) (fun _ _ => u0) (by simpa using room_spec hun) fun p_1 c_1 a w hf hc => stP hf rfl rfl rfl (pA rfl) fun a hf => cNil ?_
  refine h5 _ _ ?_
  refine wp_ret ?_
  obtain rfl := Option.some.inj hF
  exact fnOut1 (by simp) rfl Try.results79 hf hc (show look _ 2 = _ from rfl) ⟨p_1,c_1,rfl,hc⟩

def slices_Reverse_Lapi_Span_api_Span_b3 (N : Nat) (s_1 : List api_Span) (i_1 : Int) (j_1 : Int) : Option (Step ((List api_Span) × Int × Int) ((List api_Span))) :=
 cond (decide (i_1 < j_1))
 (Option.bind (getI s_1 j_1) fun e_1 =>
 Option.bind (getI s_1 i_1) fun e_2 =>
 Option.bind (getI s_1 i_1) fun e_3 =>
 Option.bind (getI s_1 j_1) fun e_4 =>
 some (.cont (((s_1.set i_1.toNat e_1).set j_1.toNat e_2),W (i_1 + 1),W (j_1 - 1))))
 (some (.brk (s_1,i_1,j_1)))
def slices_Reverse_Lapi_Span_api_Span (N : Nat) (s_ : List api_Span) : Option ((List api_Span)) :=
 Option.bind (loopO (fun s3 => slices_Reverse_Lapi_Span_api_Span_b3 N s3.1 s3.2.1 s3.2.2) N (s_,0,W (((s_.length : Nat) : Int) - 1))) fun x3 =>
 exK x3 (fun s3 => Option.bind (sameL s3.1 s_) fun _ =>
 some s3.1) some
theorem slices_Reverse_Lapi_Span_api_Span_ok {N : Nat} {G : Pers} {Lf : List Ent} {w : World} (s_ : List api_Span) {s__p : Option Addr} {s__c : Nat}  (hc : Ctx G (.row s__p s__c (s_.map enc_api_Span) 50 2::Lf) w) {res : (List api_Span)} (hF : slices_Reverse_Lapi_Span_api_Span N s_ = some res) : Calls Try.prog 43 #[.slice s__p s_.length s__c] w (fun e w => e = .returned (.tuple #[]) ∧ res.length = s_.length ∧ Ctx G (.row s__p s__c (res.map enc_api_Span) 50 2::Lf) w) := by
 unfold slices_Reverse_Lapi_Span_api_Span at hF
 refine fnIn (args := [.slice s__p s_.length s__c]) Try.func43 rfl Try.ntmps43 rfl fun a hf => wp_seq_k fun K1 h1 => cReg ?_
 refine stP hf rfl rfl rfl (pM rfl) fun a hf => stP hf rfl rfl rfl (pLenS Try.underlying44 rfl) fun a hf => stP hf rfl rfl rfl (pSub rfl rfl) fun a hf => stP hf rfl rfl rfl (pA rfl) fun a hf => stP hf rfl rfl rfl (pA rfl) fun a hf => cNil ?_
 refine h1 _ _ ?_
 refine wp_thenK fun K2 h2 => wp_block ?_
 obtain ⟨x3,hx3,hF⟩ := bnd_some hF
 let S3 : ((List api_Span) × Int × Int) → Act → World → Prop := (fun (zz : (List api_Span) × Int × Int) a w => Has 28 a [(0,.slice s__p zz.1.length s__c),(2,.int .i64 zz.2.1),(3,.int .i64 zz.2.2)] ∧ Ctx G (.row s__p s__c (zz.1.map enc_api_Span) 50 2::Lf) w)
 have hr3 : ∀ (zz : (List api_Span) × Int × Int) a w,x3 = .go zz → S3 zz a w → K2 a w := by
  rintro ⟨s_1,i_1,j_1⟩ a w rfl ⟨hf,hc⟩
  replace hF := exK_go hF
  refine h2 _ _ ?_
  obtain ⟨_,hl0,hF⟩ := same_len hF
  obtain rfl := Option.some.inj hF
  exact fnOut0 (by simp) rfl Try.results43 hf ⟨rfl,hl0,hc⟩
 have ho3 : ∀ r,x3 = .out r → r = res := by
  rintro r rfl
  exact Option.some.inj hF
 refine cLoop N (loopW (S := S3) (x := x3) ?_ N (s_,0,W (((s_.length : Nat) : Int) - 1)) _ _ ⟨hf.keep ⟨rfl,rfl,rfl,trivial⟩,hc⟩ hx3)
 clear hF hf hc
 rintro ⟨s_1,i_1,j_1⟩ st3 a w KB3 ⟨hf,hc⟩ hF hfin3 hK3
 unfold slices_Reverse_Lapi_Span_api_Span_b3 at hF
 refine wp_seq_k fun K4 h4 => wp_seq_k fun K5 h5 => cReg ?_
 refine stP hf rfl rfl rfl (pM rfl) fun a hf => stP hf rfl rfl rfl (pM rfl) fun a hf => stP hf rfl rfl rfl (pLt rfl rfl) fun a hf => cNil ?_
 refine h5 _ _ ?_
 refine cCond (b := (decide (i_1 < j_1))) hf rfl (fun hb => ?_) (fun hb => ?_)
 ·replace hF := condT hb hF
  clear hb
  refine wp_skip ?_
  refine h4 _ _ ?_
  refine wp_seq_k fun K6 h6 => wp_block ?_
  obtain ⟨e_1,he_1,hF⟩ := bnd_some hF
  obtain ⟨g,rfl,qa,qr⟩ := row_atm hc m0 he_1
  obtain ⟨e_2,he_2,hF⟩ := bnd_some hF
  obtain ⟨qa_1,qr_1⟩ := row_atk hc m0 he_2
  obtain ⟨e_3,he_3,hF⟩ := bnd_some hF
  obtain ⟨qa_2,qr_2⟩ := row_atk hc m0 he_3
  obtain ⟨e_4,he_4,hF⟩ := bnd_some hF
  obtain ⟨qa_3,qr_3⟩ := row_atk hc m0 he_4
  refine regionE (fun θ => [⟨none,none,0,.slice (some ⟨g,0,none⟩) s_1.length s__c⟩,⟨none,none,2,.int .i64 i_1⟩,⟨none,none,3,.int .i64 j_1⟩,⟨some 0,none,14,.slice (some ⟨g,0,none⟩) s_1.length s__c⟩,⟨some 1,none,15,.int .i64 i_1⟩,⟨some 2,none,16,.slice (some ⟨g,0,none⟩) s_1.length s__c⟩,⟨some 3,none,17,.int .i64 j_1⟩,⟨some 4,none,18,.slice (some ⟨g,0,none⟩) s_1.length s__c⟩,⟨some 5,none,19,.int .i64 j_1⟩,⟨some 6,none,20,.pointer (some ⟨g,j_1.toNat * 2,none⟩)⟩,⟨some 7,none,21,.agg #[.int .i64 e_1.Lo,.int .i64 e_1.Hi]⟩,⟨some 8,none,22,.slice (some ⟨g,0,none⟩) s_1.length s__c⟩,⟨some 9,none,23,.int .i64 i_1⟩,⟨some 10,none,24,.pointer (some ⟨g,i_1.toNat * 2,none⟩)⟩,⟨some 11,none,25,.agg #[.int .i64 e_2.Lo,.int .i64 e_2.Hi]⟩,⟨some 12,none,26,.pointer (some ⟨g,i_1.toNat * 2,none⟩)⟩,⟨some 14,none,27,.pointer (some ⟨g,j_1.toNat * 2,none⟩)⟩]) (fun E θ => (bif E 15 then .row (some ⟨g,0,none⟩) s__c (((s_1.set i_1.toNat e_1).set j_1.toNat e_2).map enc_api_Span) 50 2 else bif E 13 then .row (some ⟨g,0,none⟩) s__c ((s_1.set i_1.toNat e_1).map enc_api_Span) 50 2 else .row (some ⟨g,0,none⟩) s__c (s_1.map enc_api_Span) 50 2)::Lf) [(13,6),(15,6),(13,7),(15,7),(11,10),(13,11),(15,10),(15,11),(13,12),(15,12),(15,13),(15,14)] (fun a w => Has 28 a [(0,.slice (some ⟨g,0,none⟩) s_1.length s__c),(2,.int .i64 i_1),(3,.int .i64 j_1)] ∧ Ctx G (.row (some ⟨g,0,none⟩) s__c (((s_1.set i_1.toNat e_1).set j_1.toNat e_2).map enc_api_Span) 50 2::Lf) w) follows_mx (by kernel_rfl) (by kernel_rfl) (HasE.of hf ⟨rfl,rfl,rfl,trivial,trivial,trivial,trivial,trivial,trivial,trivial,trivial,trivial,trivial,trivial,trivial,trivial,trivial,trivial⟩) hc ⟨?_,?_,?_,?_,?_,?_,?_,?_,?_,?_,?_,?_,?_,?_,?_,?_,trivial⟩ ?_ ?_
  ·intro E θ a w hD hi hp he hc
   have hf := he.h0
   replace hf := hf.more he 0 rfl onT
   refine stP hf rfl rfl rfl (pM rfl) fun a hf => cNil ?_
   refine xThenN ?_
   intro ds u hau
   refine ⟨θ,he.put0 hi hau hf rfl 3 rfl rfl,?_⟩
   exact hc
  ·intro E θ a w hD hi hp he hc
   have hf := he.h0
   replace hf := hf.more he 1 rfl onT
   refine stP hf rfl rfl rfl (pM rfl) fun a hf => cNil ?_
   refine xThenN ?_
   intro ds u hau
   refine ⟨θ,he.put0 hi hau hf rfl 4 rfl rfl,?_⟩
   exact hc
  ·intro E θ a w hD hi hp he hc
   have hf := he.h0
   replace hf := hf.more he 0 rfl onT
   refine stP hf rfl rfl rfl (pM rfl) fun a hf => cNil ?_
   refine xThenN ?_
   intro ds u hau
   refine ⟨θ,he.put0 hi hau hf rfl 5 rfl rfl,?_⟩
   exact hc
  ·intro E θ a w hD hi hp he hc
   have hf := he.h0
   replace hf := hf.more he 2 rfl onT
   refine stP hf rfl rfl rfl (pM rfl) fun a hf => cNil ?_
   refine xThenN ?_
   intro ds u hau
   refine ⟨θ,he.put0 hi hau hf rfl 6 rfl rfl,?_⟩
   exact hc
  ·intro E θ a w hD hi hp he hc
   have hf := he.h0
   replace hf := hf.more he 0 rfl onT
   refine stP hf rfl rfl rfl (pM rfl) fun a hf => cNil ?_
   refine xThenN ?_
   intro ds u hau
   refine ⟨θ,he.put0 hi hau hf rfl 7 rfl rfl,?_⟩
   exact hc
  ·intro E θ a w hD hi hp he hc
   have hf := he.h0
   replace hf := hf.more he 2 rfl onT
   refine stP hf rfl rfl rfl (pM rfl) fun a hf => cNil ?_
   refine xThenN ?_
   intro ds u hau
   refine ⟨θ,he.put0 hi hau hf rfl 8 rfl rfl,?_⟩
   exact hc
  ·intro E θ a w hD hi hp he hc
   have e4 := hp.of (k := 4) rfl
   have e5 := hp.of (k := 5) rfl
   have e13 := hD.f 0 rfl hi
   have e15 := hD.f 1 rfl hi
   try dsimp only at hc
   rw [e13,e15] at hc
   have hf := he.h0
   replace hf := hf.more he 7 rfl (onP e4)
   replace hf := hf.more he 8 rfl (onP e5)
   refine stP hf rfl rfl rfl (pIA Try.underlying44 sz_50 rfl rfl qa) fun a hf => cNil ?_
   refine xThenN ?_
   intro ds u hau
   refine ⟨θ,he.put0 hi hau hf rfl 9 rfl rfl,?_⟩
   try dsimp only
   rw [updE_fls 6 e13 rfl,updE_fls 6 e15 rfl]
   exact hc
  ·intro E θ a w hD hi hp he hc
   have e6 := hp.of (k := 6) rfl
   have e13 := hD.f 2 rfl hi
   have e15 := hD.f 3 rfl hi
   try dsimp only at hc
   rw [e13,e15] at hc
   have hf := he.h0
   replace hf := hf.more he 9 rfl (onP e6)
   refine stE hf hc rfl rfl rfl (eLdN (vs := [.int .i64 e_1.Lo,.int .i64 e_1.Hi]) ag_50 rfl rfl (cells_rw (sz := 2) (i := j_1.toNat) m0 qr (n := 2) (o' := 0) rfl)) fun a w hf hc => cNil ?_
   refine xThenN ?_
   intro ds u hau
   refine ⟨θ,he.put0 hi hau hf rfl 10 rfl rfl,?_⟩
   try dsimp only
   rw [updE_fls 7 e13 rfl,updE_fls 7 e15 rfl]
   exact hc
  ·intro E θ a w hD hi hp he hc
   have hf := he.h0
   replace hf := hf.more he 0 rfl onT
   refine stP hf rfl rfl rfl (pM rfl) fun a hf => cNil ?_
   refine xThenN ?_
   intro ds u hau
   refine ⟨θ,he.put0 hi hau hf rfl 11 rfl rfl,?_⟩
   exact hc
  ·intro E θ a w hD hi hp he hc
   have hf := he.h0
   replace hf := hf.more he 1 rfl onT
   refine stP hf rfl rfl rfl (pM rfl) fun a hf => cNil ?_
   refine xThenN ?_
   intro ds u hau
   refine ⟨θ,he.put0 hi hau hf rfl 12 rfl rfl,?_⟩
   exact hc
  ·intro E θ a w hD hi hp he hc
   have e8 := hp.of (k := 8) rfl
   have e9 := hp.of (k := 9) rfl
   have e11 := hD.f 4 rfl hi
   have e13 := hD.f 5 rfl e11
   have e15 := hD.f 6 rfl hi
   try dsimp only at hc
   rw [e13,e15] at hc
   have hf := he.h0
   replace hf := hf.more he 11 rfl (onP e8)
   replace hf := hf.more he 12 rfl (onP e9)
   refine stP hf rfl rfl rfl (pIA Try.underlying44 sz_50 rfl rfl qa_1) fun a hf => cNil ?_
   refine xThenN ?_
   intro ds u hau
   refine ⟨θ,he.put0 hi hau hf rfl 13 rfl rfl,?_⟩
   try dsimp only
   rw [updE_fls 10 e13 rfl,updE_fls 10 e15 rfl]
   exact hc
  ·intro E θ a w hD hi hp he hc
   have e10 := hp.of (k := 10) rfl
   have e13 := hD.f 5 rfl hi
   have e15 := hD.f 7 rfl hi
   try dsimp only at hc
   rw [e13,e15] at hc
   have hf := he.h0
   replace hf := hf.more he 13 rfl (onP e10)
   refine stE hf hc rfl rfl rfl (eLdN (vs := [.int .i64 e_2.Lo,.int .i64 e_2.Hi]) ag_50 rfl rfl (cells_rw (sz := 2) (i := i_1.toNat) m0 qr_1 (n := 2) (o' := 0) rfl)) fun a w hf hc => cNil ?_
   refine xThenN ?_
   intro ds u hau
   refine ⟨θ,he.put0 hi hau hf rfl 14 rfl rfl,?_⟩
   try dsimp only
   rw [updE_fls 11 e13 rfl,updE_fls 11 e15 rfl]
   exact hc
  ·intro E θ a w hD hi hp he hc
   have e0 := hp.of (k := 0) rfl
   have e1 := hp.of (k := 1) rfl
   have e13 := hD.f 8 rfl hi
   have e15 := hD.f 9 rfl hi
   try dsimp only at hc
   rw [e13,e15] at hc
   have hf := he.h0
   replace hf := hf.more he 3 rfl (onP e0)
   replace hf := hf.more he 4 rfl (onP e1)
   refine stP hf rfl rfl rfl (pIA Try.underlying44 sz_50 rfl rfl qa_2) fun a hf => cNil ?_
   refine xThenN ?_
   intro ds u hau
   refine ⟨θ,he.put0 hi hau hf rfl 15 rfl rfl,?_⟩
   try dsimp only
   rw [updE_fls 12 e13 rfl,updE_fls 12 e15 rfl]
   exact hc
  ·intro E θ a w hD hi hp he hc
   have e7 := hp.of (k := 7) rfl
   have e12 := hp.of (k := 12) rfl
   have e15 := hD.f 10 rfl hi
   try dsimp only at hc
   rw [hi,e15] at hc
   have hf := he.h0
   replace hf := hf.more he 10 rfl (onP e7)
   replace hf := hf.more he 15 rfl (onP e12)
   refine stRw (vs := [.int .i64 e_1.Lo,.int .i64 e_1.Hi]) (o' := 0) (z := e_1) (xs := s_1) hf hc rfl rfl rfl rfl sz_50 rfl (fun x => (one_enc_api_Span x).1) (getI_lt he_3) (fun _ _ => rfl) rfl u0 fun w hc => cNil ?_
   refine xThenN ?_
   intro ds u hau
   refine ⟨θ,he.stay0 hi hau hf rfl,?_⟩
   try dsimp only
   rw [updE_self E 13,updE_fls 13 e15 rfl]
   exact hc
  ·intro E θ a w hD hi hp he hc
   have e2 := hp.of (k := 2) rfl
   have e3 := hp.of (k := 3) rfl
   have e13 := hp.of (k := 13) rfl
   have e15 := hD.f 11 rfl hi
   try dsimp only at hc
   rw [e13,e15] at hc
   have hf := he.h0
   replace hf := hf.more he 5 rfl (onP e2)
   replace hf := hf.more he 6 rfl (onP e3)
   refine stP hf rfl rfl rfl (pIA Try.underlying44 sz_50 rfl rfl qa_3) fun a hf => cNil ?_
   refine xThenN ?_
   intro ds u hau
   refine ⟨θ,he.put0 hi hau hf rfl 16 rfl rfl,?_⟩
   try dsimp only
   rw [updE_tru 14 e13,updE_fls 14 e15 rfl]
   exact hc
  ·intro E θ a w hD hi hp he hc
   have e11 := hp.of (k := 11) rfl
   have e14 := hp.of (k := 14) rfl
   have e13 := hp.of (k := 13) rfl
   try dsimp only at hc
   rw [e13,hi] at hc
   have hf := he.h0
   replace hf := hf.more he 14 rfl (onP e11)
   replace hf := hf.more he 16 rfl (onP e14)
   refine stRw (vs := [.int .i64 e_2.Lo,.int .i64 e_2.Hi]) (o' := 0) (z := e_2) (xs := (s_1.set i_1.toNat e_1)) hf hc rfl rfl rfl rfl sz_50 rfl (fun x => (one_enc_api_Span x).1) (by simpa using getI_lt he_4) (fun _ _ => rfl) rfl u0 fun w hc => cNil ?_
   refine xThenN ?_
   intro ds u hau
   refine ⟨θ,he.stay0 hi hau hf rfl,?_⟩
   try dsimp only
   rw [updE_tru 15 e13,updE_self E 15]
   exact hc
  ·intro E θ a w hall he hc
   have hf := he.h0
   have e13 := hall 13 rfl
   have e15 := hall 15 rfl
   replace hf := hf.more he 2 rfl (onT)
   replace hf := hf.more he 1 rfl (onT)
   replace hf := hf.more he 0 rfl (onT)
   try dsimp only at hc
   rw [e13,e15] at hc
   exact ⟨hf.keep ⟨rfl,rfl,rfl,trivial⟩,hc⟩
  rintro a w ⟨hf,hc⟩
  refine h6 _ _ ?_
  refine cReg ?_
  refine stP hf rfl rfl rfl (pM rfl) fun a hf => stP hf rfl rfl rfl (pAdd rfl rfl) fun a hf => stP hf rfl rfl rfl (pM rfl) fun a hf => stP hf rfl rfl rfl (pSub rfl rfl) fun a hf => stP hf rfl rfl rfl (pA rfl) fun a hf => stP hf rfl rfl rfl (pA rfl) fun a hf => cNil ?_
  rw [(by simp : s_1.length = ((s_1.set i_1.toNat e_1).set j_1.toNat e_2).length)] at hf
  exact hK3 (((s_1.set i_1.toNat e_1).set j_1.toNat e_2),W (i_1 + 1),W (j_1 - 1)) _ _ (Option.some.inj hF).symm ⟨hf.keep ⟨rfl,rfl,rfl,trivial⟩,hc⟩
 ·replace hF := condF hb hF
  clear hb
  refine wp_exit ?_
  refine xThen ?_
  refine xThen ?_
  have he := Option.some.inj hF
  rw [← he] at hfin3
  refine cHit ?_
  exact hr3 _ _ _ hfin3 ⟨hf.keep ⟨rfl,rfl,rfl,trivial⟩,hc⟩

def shift_start_r5 (N : Nat) (s_ : api_Span) (x : Nat → Int) (xv : Int) (xv_1 : Int) : Option (Rs ((Nat → Int))) :=
 cond (!(shift_in xv_1 s_.Lo s_.Hi))
 (Option.bind (inR xv 601) fun un =>
 some (.go (setF x xv.toNat 1073741824)))
 (some (.go x))
def shift_start (N : Nat) (s_ : api_Span) : Option ((Nat → Int)) :=
 Option.bind (shift_shifts_1 N (rY (fun (zz : (Nat → Int)) (ix_ : (Int × Int)) => shift_start_r5 N s_ zz ix_.1 ix_.2)) (.go (fun _ => 0))) fun x5 =>
 rsK x5 (fun zz5 => some zz5) (fun zz5 => none)
theorem shift_start_ok {N : Nat} {G : Pers} {Lf : List Ent} {w : World} (s_ : api_Span)   (hc : Ctx G (Lf) w) {res : (Nat → Int)} (hF : shift_start N s_ = some res) : Calls Try.prog 136 #[.agg #[.int .i64 s_.Lo,.int .i64 s_.Hi]] w (fun e w => ∃ (b'1 : Nat),e = .returned (.pointer (some ⟨b'1,0,none⟩)) ∧ Ctx G (.box b'1 (catc [] 601 encI_i64 res []) 155::Lf) w) := by
 unfold shift_start at hF
 refine fnInM (args := [.agg #[.int .i64 s_.Lo,.int .i64 s_.Hi]]) Try.func136 rfl Try.ntmps136 rfl fun a hf => wp_seq_k fun K1 h1 => cReg ?_
 refine stBx (cs := [.int .i64 s_.Lo,.int .i64 s_.Hi]) hf hc rfl rfl rfl rfl fun b_1 a w hf hc => stP hf rfl rfl rfl (pA rfl) fun a hf => cNil ?_
 refine h1 _ _ ?_
 refine wp_seq_k fun K2 h2 => cReg ?_
 refine stAl (cs := (catc [] 601 encI_i64 (fun _ => 0) [])) hf hc rfl rfl zr_155 rfl fun b_2 a w hf hc => cNil ?_
 refine h2 _ _ ?_
 refine wp_seq_k fun K3 h3 => wp_seq_k fun K4 h4 => cReg ?_
 refine stE hf hc rfl rfl rfl (eC (v := .func (.func 113) #[] #[]) (vs := []) (caps := []) en_82 rfl rfl rfl rfl (fun w hc => shift_shifts_ok hc rfl)) fun a w hf hc => cNil ?_
 refine h4 _ _ ?_
 obtain ⟨x5,hx5,hF⟩ := bnd_some hF
 refine cRange (C := []) (C2 := []) (L0 := [.box b_2 (catc [] 601 encI_i64 ((fun _ => 0)) []) 155,.box b_1 [.int .i64 s_.Lo,.int .i64 s_.Hi] 50]) (Lf := Lf) (encs := fun x : (Int × Int) => [.int .i64 x.1,.int .i64 x.2]) (fun (zz : (Nat → Int)) L => L = [.box b_2 (catc [] 601 encI_i64 zz []) 155,.box b_1 [.int .i64 s_.Lo,.int .i64 s_.Hi] 50]) (fun (zz : (Nat → Int)) (ix_ : (Int × Int)) => shift_start_r5 N s_ zz ix_.1 ix_.2) (fun _ => 0) x5 hf hc rfl en_113 (fun _ => rfl) rfl rfl ?_ ?_ ?_ ?_
 ·intro lq mq J L Lx w hy hJ hc
  exact shift_shifts_1_ok  J _ hy _ hJ hc hx5
 ·clear hF hf hc
  rintro lq mq x ⟨xv,xv_1⟩ oq _ Lr Lb a w hK0 rfl hF hf hc hK
  replace hf : Has 18 a [(1,.pointer (some ⟨b_1,0,none⟩)),(3,.pointer (some ⟨b_2,0,none⟩)),(7,.int .i64 xv),(8,.int .i64 xv_1)] := hf.keep ⟨rfl,rfl,rfl,rfl,trivial⟩
  replace hc : Ctx G (.box b_2 (catc [] 601 encI_i64 x []) 155::.box b_1 [.int .i64 s_.Lo,.int .i64 s_.Hi] 50::Lr) w := hc
  replace hF : shift_start_r5 N s_ x xv xv_1 = some oq := hF
  unfold shift_start_r5 at hF
  refine rSeq fun K6 h6 => rReg (fun _ _ h => h) rfl ?_
  refine stP hf rfl rfl rfl (pA rfl) fun a hf => cNil ?_
  refine h6 _ _ ?_
  refine rReg (fun _ _ h => h) rfl ?_
  refine stP hf rfl rfl rfl (pA rfl) fun a hf => cNil ?_
  refine hK _ _ [.box b_2 (catc [] 601 encI_i64 x []) 155,.box b_1 [.int .i64 s_.Lo,.int .i64 s_.Hi] 50] hc fun w hc => ?_
  replace hc : Ctx G (.box b_2 (catc [] 601 encI_i64 x []) 155::.box b_1 [.int .i64 s_.Lo,.int .i64 s_.Hi] 50::Lb) w := hc
  refine rThenK fun K7 h7 => rBlock ?_
  refine rSeq fun K8 h8 => rReg (fun _ _ h => h) rfl ?_
  refine stP hf rfl rfl rfl (pM rfl) fun a hf => stP hf rfl rfl rfl (pFA fa_50_0 rfl) fun a hf => stE hf hc rfl rfl rfl (eLd1 sc_3 rfl (cell_box m1 rfl)) fun a w hf hc => stP hf rfl rfl rfl (pFA fa_50_1 rfl) fun a hf => stE hf hc rfl rfl rfl (eLd1 sc_3 rfl (cell_box m1 rfl)) fun a w hf hc => stE hf hc rfl rfl rfl (eC (v := .bool (shift_in xv_1 s_.Lo s_.Hi)) (vs := [.int .i64 xv_1,.int .i64 s_.Lo,.int .i64 s_.Hi]) (caps := []) en_59 rfl rfl rfl rfl (fun w hc => shift_in_ok xv_1 s_.Lo s_.Hi hc rfl)) fun a w hf hc => stP hf rfl rfl rfl (pNot rfl) fun a hf => cNil ?_
  refine h8 _ _ ?_
  refine rCond (b := (!(shift_in xv_1 s_.Lo s_.Hi))) hf rfl (fun hb => ?_) (fun hb => ?_)
  ·replace hF := condT hb hF
   clear hb
   refine rReg (fun _ _ h => h) rfl ?_
   refine stP hf rfl rfl rfl (pM rfl) fun a hf => ?_
   obtain ⟨un,hun,hF⟩ := bnd_some hF
   refine stP hf rfl rfl rfl (pIAA Try.underlying155 sz_3 rfl rfl (inR_spec hun).1 (inR_spec hun).2) fun a hf => stAr (vs := [.int .i64 1073741824]) (o' := 0) (z := 1073741824) hf hc rfl rfl rfl rfl sz_3 rfl (fun x => (one_encI_i64 x).1) rfl hun rfl rfl u0 fun w hc => cNil ?_
   refine h7 _ _ ?_
   exact ⟨(setF x xv.toNat 1073741824),_,(Option.some.inj hF).symm,rfl,hc⟩
  ·replace hF := condF hb hF
   clear hb
   refine rSkip ?_
   refine h7 _ _ ?_
   exact ⟨x,_,(Option.some.inj hF).symm,rfl,hc⟩
 ·rintro D_1 x _ a w hsF rfl hf hc
  replace hf : Has ⟨18,markL (D_1::[])⟩ a [(1,.pointer (some ⟨b_1,0,none⟩)),(3,.pointer (some ⟨b_2,0,none⟩))] := hf.keep ⟨rfl,rfl,trivial⟩
  replace hc : Ctx G (.box b_2 (catc [] 601 encI_i64 x []) 155::.box b_1 [.int .i64 s_.Lo,.int .i64 s_.Hi] 50::(raws (D_1::[]) ++ Lf)) w := rawsIn (C := []) (L := [.box b_2 (catc [] 601 encI_i64 x []) 155,.box b_1 [.int .i64 s_.Lo,.int .i64 s_.Hi] 50]) hc
  replace hF : (some x) = some res := by rcases hsF with rfl | rfl <;> exact hF
  refine h3 _ _ ?_
  refine wp_seq_k fun K9 h9 => cReg ?_
  refine stP hf rfl rfl rfl (pA rfl) fun a hf => cNil ?_
  refine h9 _ _ ?_
  refine wp_ret ?_
  obtain rfl := Option.some.inj hF
  replace hc := hc.drop k1
  refine outM hf ?_
  refine outML [.box b_2 (catc [] 601 encI_i64 x []) 155] (D_1::[]) hc fun w hc => ?_
  replace hc : Ctx G (.box b_2 (catc [] 601 encI_i64 x []) 155::Lf) w := hc
  exact outM1 Try.results136 hf hc (show look _ 2 = _ from rfl) ⟨b_2,rfl,hc⟩
 ·rintro D_1 x _ a w hsF rfl hf hc
  replace hf : Has ⟨18,markL (D_1::[])⟩ a [(1,.pointer (some ⟨b_1,0,none⟩)),(3,.pointer (some ⟨b_2,0,none⟩))] := hf.keep ⟨rfl,rfl,trivial⟩
  replace hc : Ctx G (.box b_2 (catc [] 601 encI_i64 x []) 155::.box b_1 [.int .i64 s_.Lo,.int .i64 s_.Hi] 50::(raws (D_1::[]) ++ Lf)) w := rawsIn (C := []) (L := [.box b_2 (catc [] 601 encI_i64 x []) 155,.box b_1 [.int .i64 s_.Lo,.int .i64 s_.Hi] 50]) hc
  replace hF : (none) = some res := by subst hsF; exact hF
  cases hF

def shift_moved_on_r13 (N : Nat) (s_ : api_Span) (b__2 : Nat → Int) (xv : Int) (xv_1 : Int) : Option (Rs ((Nat → Int))) :=
 cond (!(shift_in xv_1 s_.Lo s_.Hi))
 (Option.bind (inR xv 601) fun un =>
 some (.go (setF b__2 xv.toNat 1073741824)))
 (some (.go b__2))
def shift_moved_on_b11 (N : Nat) (m : Nat → Int) (best_1 : Int) (i_1 : Int) (b__1 : Nat → Int) : Option (Step (Int × Int × (Nat → Int)) ((Nat → Int))) :=
 cond (decide (0 ≤ i_1))
 (Option.bind (inR i_1 601) fun un_1 =>
 Option.bind (inR i_1 601) fun un_2 =>
 Option.bind (inR i_1 601) fun un_3 =>
 some (.cont (min (W (best_1 + 1)) (m i_1.toNat),W (i_1 - 1),(setF b__1 i_1.toNat (min (b__1 i_1.toNat) (min (W (best_1 + 1)) (m i_1.toNat)))))))
 (some (.brk (best_1,i_1,b__1)))
def shift_moved_on_b7 (N : Nat) (m : Nat → Int) (best : Int) (x : Int) (b__0 : Nat → Int) : Option (Step (Int × Int × (Nat → Int)) ((Nat → Int))) :=
 cond (decide (x < 601))
 (Option.bind (inR x 601) fun un_4 =>
 Option.bind (inR x 601) fun un_5 =>
 some (.cont (min (W (best + 1)) (m x.toNat),W (x + 1),(setF b__0 x.toNat (min (W (best + 1)) (m x.toNat))))))
 (some (.brk (best,x,b__0)))
def shift_moved_on (N : Nat) (m : Nat → Int) (s_ : api_Span) : Option ((Nat → Int)) :=
 Option.bind (subO (aL 601 m) 0 ((601 : Nat) : Int)) fun sub =>
 Option.bind (loopO (fun s7 => shift_moved_on_b7 N m s7.1 s7.2.1 s7.2.2) N (1073741824,0,(fun _ => 0))) fun x7 =>
 exK x7 (fun s7 => Option.bind (loopO (fun s11 => shift_moved_on_b11 N m s11.1 s11.2.1 s11.2.2) N (1073741824,600,s7.2.2)) fun x11 =>
 exK x11 (fun s11 => Option.bind (shift_shifts_1 N (rY (fun (zz : (Nat → Int)) (ix_ : (Int × Int)) => shift_moved_on_r13 N s_ zz ix_.1 ix_.2)) (.go s11.2.2)) fun x13 =>
 rsK x13 (fun zz13 => some zz13) (fun zz13 => none)) some) some
theorem shift_moved_on_ok {N : Nat} {G : Pers} {Lf : List Ent} {w : World} (m : Nat → Int) (s_ : api_Span) {b_ : Nat}  (hc : Ctx G (.box b_ (catc [] 601 encI_i64 m []) 155::Lf) w) {res : (Nat → Int)} (hF : shift_moved_on N m s_ = some res) : Calls Try.prog 137 #[.pointer (some ⟨b_,0,none⟩),.agg #[.int .i64 s_.Lo,.int .i64 s_.Hi]] w (fun e w => e = .returned (.tuple #[]) ∧ Ctx G (.box b_ (catc [] 601 encI_i64 res []) 155::Lf) w) := by
 unfold shift_moved_on at hF
 refine fnInM (args := [.pointer (some ⟨b_,0,none⟩),.agg #[.int .i64 s_.Lo,.int .i64 s_.Hi]]) Try.func137 rfl Try.ntmps137 rfl fun a hf => wp_seq_k fun K1 h1 => cReg ?_
 refine stBx (cs := [.pointer (some ⟨b_,0,none⟩)]) hf hc rfl rfl rfl rfl fun b_1 a w hf hc => stBx (cs := [.int .i64 s_.Lo,.int .i64 s_.Hi]) hf hc rfl rfl rfl rfl fun b_2 a w hf hc => cNil ?_
 refine h1 _ _ ?_
 refine wp_seq_k fun K2 h2 => cReg ?_
 refine stE hf hc rfl rfl rfl (eLd1 sc_211 rfl (cell_box m1 rfl)) fun a w hf hc => stP hf rfl rfl rfl (pNC rfl) fun a hf => stE hf hc rfl rfl rfl (eLdN (vs := (catc [] 601 encI_i64 m [])) ag_155 rfl (one_encA_155 _).1 (cells_box (n := 601) m2 (takeW (one_encA_155 _).1))) fun a w hf hc => stAl (cs := (catc [] 601 encI_i64 (fun _ => 0) [])) hf hc rfl rfl zr_155 rfl fun b_3 a w hf hc => stStA (enc := encA_155) (f := (fun _ => 0)) (z := m) hf hc rfl rfl rfl one_encA_155 sz_155 u0 fun w hc => cNil ?_
 refine h2 _ _ ?_
 refine wp_seq_k fun K3 h3 => cReg ?_
 refine stE hf hc rfl rfl rfl (eLd1 sc_211 rfl (cell_box m2 rfl)) fun a w hf hc => stP hf rfl rfl rfl (pNC rfl) fun a hf => ?_
 obtain ⟨sub,hsub,hF⟩ := bnd_some hF
 refine stP hf rfl rfl rfl (pSlA (xs := (aL 601 m)) Try.underlying155 sz_3 rfl aL_len rfl rfl hsub) fun a hf => stClN (n := 601) (f := m) (x0 := 0) (v := .int .i64 0) hf hc rfl Try.underlying61 zr_3 rfl rfl rfl subP0 (subO_all hsub rfl rfl) rfl rfl (fun x => (one_encI_i64 x).1) u3 fun w hc => cNil ?_
 refine h3 _ _ ?_
 refine wp_seq_k fun K4 h4 => cReg ?_
 refine stP hf rfl rfl rfl (pA rfl) fun a hf => cNil ?_
 refine h4 _ _ ?_
 refine wp_seq_k fun K5 h5 => wp_seq_k fun K6 h6 => cReg ?_
 refine stP hf rfl rfl rfl (pM rfl) fun a hf => cNil ?_
 refine h6 _ _ ?_
 refine wp_block ?_
 obtain ⟨x7,hx7,hF⟩ := bnd_some hF
 let S7 : (Int × Int × (Nat → Int)) → Act → World → Prop := (fun (zz : Int × Int × (Nat → Int)) a w => Has 66 a [(2,.pointer (some ⟨b_1,0,none⟩)),(3,.pointer (some ⟨b_2,0,none⟩)),(4,.pointer (some ⟨b_3,0,none⟩)),(5,.int .i64 zz.1),(16,.int .i64 zz.2.1)] ∧ Ctx G (.box b_3 (catc [] 601 encI_i64 m []) 155::.box b_2 [.int .i64 s_.Lo,.int .i64 s_.Hi] 50::.box b_1 [.pointer (some ⟨b_,0,none⟩)] 211::.box b_ (catc [] 601 encI_i64 zz.2.2 []) 155::Lf) w)
 have hr7 : ∀ (zz : Int × Int × (Nat → Int)) a w,x7 = .go zz → S7 zz a w → K5 a w := by
  rintro ⟨best,x,b__0⟩ a w rfl ⟨hf,hc⟩
  replace hF := exK_go hF
  refine h5 _ _ ?_
  refine wp_seq_k fun K8 h8 => cReg ?_
  refine stP hf rfl rfl rfl (pA rfl) fun a hf => cNil ?_
  refine h8 _ _ ?_
  refine wp_seq_k fun K9 h9 => wp_seq_k fun K10 h10 => cReg ?_
  refine stP hf rfl rfl rfl (pA rfl) fun a hf => cNil ?_
  refine h10 _ _ ?_
  refine wp_block ?_
  obtain ⟨x11,hx11,hF⟩ := bnd_some hF
  let S11 : (Int × Int × (Nat → Int)) → Act → World → Prop := (fun (zz : Int × Int × (Nat → Int)) a w => Has 66 a [(2,.pointer (some ⟨b_1,0,none⟩)),(3,.pointer (some ⟨b_2,0,none⟩)),(4,.pointer (some ⟨b_3,0,none⟩)),(5,.int .i64 zz.1),(7,.int .i64 zz.2.1)] ∧ Ctx G (.box b_3 (catc [] 601 encI_i64 m []) 155::.box b_2 [.int .i64 s_.Lo,.int .i64 s_.Hi] 50::.box b_1 [.pointer (some ⟨b_,0,none⟩)] 211::.box b_ (catc [] 601 encI_i64 zz.2.2 []) 155::Lf) w)
  have hr11 : ∀ (zz : Int × Int × (Nat → Int)) a w,x11 = .go zz → S11 zz a w → K9 a w := by
   rintro ⟨best_1,i_1,b__1⟩ a w rfl ⟨hf,hc⟩
   replace hF := exK_go hF
   refine h9 _ _ ?_
   refine wp_seq_k fun K12 h12 => cReg ?_
   refine stE hf hc rfl rfl rfl (eC (v := .func (.func 113) #[] #[]) (vs := []) (caps := []) en_82 rfl rfl rfl rfl (fun w hc => shift_shifts_ok hc rfl)) fun a w hf hc => cNil ?_
   refine h12 _ _ ?_
   obtain ⟨x13,hx13,hF⟩ := bnd_some hF
   replace hc := hc.drop k0
   refine cRange (C := []) (C2 := []) (L0 := [.box b_2 [.int .i64 s_.Lo,.int .i64 s_.Hi] 50,.box b_1 [.pointer (some ⟨b_,0,none⟩)] 211,.box b_ (catc [] 601 encI_i64 b__1 []) 155]) (Lf := Lf) (encs := fun x : (Int × Int) => [.int .i64 x.1,.int .i64 x.2]) (fun (zz : (Nat → Int)) L => L = [.box b_2 [.int .i64 s_.Lo,.int .i64 s_.Hi] 50,.box b_1 [.pointer (some ⟨b_,0,none⟩)] 211,.box b_ (catc [] 601 encI_i64 zz []) 155]) (fun (zz : (Nat → Int)) (ix_ : (Int × Int)) => shift_moved_on_r13 N s_ zz ix_.1 ix_.2) b__1 x13 hf hc rfl en_113 (fun _ => rfl) rfl rfl ?_ ?_ ?_ ?_
   ·intro lq mq J L Lx w hy hJ hc
    exact shift_shifts_1_ok  J _ hy _ hJ hc hx13
   ·clear hF hf hc
    rintro lq mq b__2 ⟨xv,xv_1⟩ oq _ Lr Lb a w hK0 rfl hF hf hc hK
    replace hf : Has 66 a [(2,.pointer (some ⟨b_1,0,none⟩)),(3,.pointer (some ⟨b_2,0,none⟩)),(53,.int .i64 xv),(54,.int .i64 xv_1)] := hf.keep ⟨rfl,rfl,rfl,rfl,trivial⟩
    replace hc : Ctx G (.box b_2 [.int .i64 s_.Lo,.int .i64 s_.Hi] 50::.box b_1 [.pointer (some ⟨b_,0,none⟩)] 211::.box b_ (catc [] 601 encI_i64 b__2 []) 155::Lr) w := hc
    replace hF : shift_moved_on_r13 N s_ b__2 xv xv_1 = some oq := hF
    unfold shift_moved_on_r13 at hF
    refine rSeq fun K14 h14 => rReg (fun _ _ h => h) rfl ?_
    refine stP hf rfl rfl rfl (pA rfl) fun a hf => cNil ?_
    refine h14 _ _ ?_
    refine rReg (fun _ _ h => h) rfl ?_
    refine stP hf rfl rfl rfl (pA rfl) fun a hf => cNil ?_
    refine hK _ _ [.box b_2 [.int .i64 s_.Lo,.int .i64 s_.Hi] 50,.box b_1 [.pointer (some ⟨b_,0,none⟩)] 211,.box b_ (catc [] 601 encI_i64 b__2 []) 155] hc fun w hc => ?_
    replace hc : Ctx G (.box b_2 [.int .i64 s_.Lo,.int .i64 s_.Hi] 50::.box b_1 [.pointer (some ⟨b_,0,none⟩)] 211::.box b_ (catc [] 601 encI_i64 b__2 []) 155::Lb) w := hc
    refine rThenK fun K15 h15 => rBlock ?_
    refine rSeq fun K16 h16 => rReg (fun _ _ h => h) rfl ?_
    refine stP hf rfl rfl rfl (pM rfl) fun a hf => stP hf rfl rfl rfl (pFA fa_50_0 rfl) fun a hf => stE hf hc rfl rfl rfl (eLd1 sc_3 rfl (cell_box m0 rfl)) fun a w hf hc => stP hf rfl rfl rfl (pFA fa_50_1 rfl) fun a hf => stE hf hc rfl rfl rfl (eLd1 sc_3 rfl (cell_box m0 rfl)) fun a w hf hc => stE hf hc rfl rfl rfl (eC (v := .bool (shift_in xv_1 s_.Lo s_.Hi)) (vs := [.int .i64 xv_1,.int .i64 s_.Lo,.int .i64 s_.Hi]) (caps := []) en_59 rfl rfl rfl rfl (fun w hc => shift_in_ok xv_1 s_.Lo s_.Hi hc rfl)) fun a w hf hc => stP hf rfl rfl rfl (pNot rfl) fun a hf => cNil ?_
    refine h16 _ _ ?_
    refine rCond (b := (!(shift_in xv_1 s_.Lo s_.Hi))) hf rfl (fun hb => ?_) (fun hb => ?_)
    ·replace hF := condT hb hF
     clear hb
     refine rReg (fun _ _ h => h) rfl ?_
     refine stE hf hc rfl rfl rfl (eLd1 sc_211 rfl (cell_box m1 rfl)) fun a w hf hc => stP hf rfl rfl rfl (pM rfl) fun a hf => stP hf rfl rfl rfl (pNC rfl) fun a hf => ?_
     obtain ⟨un,hun,hF⟩ := bnd_some hF
     refine stP hf rfl rfl rfl (pIAA Try.underlying155 sz_3 rfl rfl (inR_spec hun).1 (inR_spec hun).2) fun a hf => stAr (vs := [.int .i64 1073741824]) (o' := 0) (z := 1073741824) hf hc rfl rfl rfl rfl sz_3 rfl (fun x => (one_encI_i64 x).1) rfl hun rfl rfl u2 fun w hc => cNil ?_
     refine h15 _ _ ?_
     exact ⟨(setF b__2 xv.toNat 1073741824),_,(Option.some.inj hF).symm,rfl,hc⟩
    ·replace hF := condF hb hF
     clear hb
     refine rSkip ?_
     refine h15 _ _ ?_
     exact ⟨b__2,_,(Option.some.inj hF).symm,rfl,hc⟩
   ·rintro D_1 b__2 _ a w hsF rfl hf hc
    replace hf : Has ⟨66,markL (D_1::[])⟩ a [(2,.pointer (some ⟨b_1,0,none⟩)),(3,.pointer (some ⟨b_2,0,none⟩))] := hf.keep ⟨rfl,rfl,trivial⟩
    replace hc : Ctx G (.box b_2 [.int .i64 s_.Lo,.int .i64 s_.Hi] 50::.box b_1 [.pointer (some ⟨b_,0,none⟩)] 211::.box b_ (catc [] 601 encI_i64 b__2 []) 155::(raws (D_1::[]) ++ Lf)) w := rawsIn (C := []) (L := [.box b_2 [.int .i64 s_.Lo,.int .i64 s_.Hi] 50,.box b_1 [.pointer (some ⟨b_,0,none⟩)] 211,.box b_ (catc [] 601 encI_i64 b__2 []) 155]) hc
    replace hF : (some b__2) = some res := by rcases hsF with rfl | rfl <;> exact hF
    obtain rfl := Option.some.inj hF
    replace hc := hc.drop k1
    replace hc := hc.drop k0
    refine outM hf ?_
    refine outML [.box b_ (catc [] 601 encI_i64 b__2 []) 155] (D_1::[]) hc fun w hc => ?_
    replace hc : Ctx G (.box b_ (catc [] 601 encI_i64 b__2 []) 155::Lf) w := hc
    exact outM0 Try.results137 ⟨rfl,hc⟩
   ·rintro D_1 b__2 _ a w hsF rfl hf hc
    replace hf : Has ⟨66,markL (D_1::[])⟩ a [(2,.pointer (some ⟨b_1,0,none⟩)),(3,.pointer (some ⟨b_2,0,none⟩))] := hf.keep ⟨rfl,rfl,trivial⟩
    replace hc : Ctx G (.box b_2 [.int .i64 s_.Lo,.int .i64 s_.Hi] 50::.box b_1 [.pointer (some ⟨b_,0,none⟩)] 211::.box b_ (catc [] 601 encI_i64 b__2 []) 155::(raws (D_1::[]) ++ Lf)) w := rawsIn (C := []) (L := [.box b_2 [.int .i64 s_.Lo,.int .i64 s_.Hi] 50,.box b_1 [.pointer (some ⟨b_,0,none⟩)] 211,.box b_ (catc [] 601 encI_i64 b__2 []) 155]) hc
    replace hF : (none) = some res := by subst hsF; exact hF
    cases hF
  have ho11 : ∀ r,x11 = .out r → r = res := by
   rintro r rfl
   exact Option.some.inj hF
  refine cLoop N (loopW (S := S11) (x := x11) ?_ N (1073741824,600,b__0) _ _ ⟨hf.keep ⟨rfl,rfl,rfl,rfl,rfl,trivial⟩,hc⟩ hx11)
  clear hF hf hc
  rintro ⟨best_1,i_1,b__1⟩ st11 a w KB11 ⟨hf,hc⟩ hF hfin11 hK11
  unfold shift_moved_on_b11 at hF
  refine wp_seq_k fun K17 h17 => wp_seq_k fun K18 h18 => cReg ?_
  refine stP hf rfl rfl rfl (pM rfl) fun a hf => stP hf rfl rfl rfl (pGe rfl rfl) fun a hf => cNil ?_
  refine h18 _ _ ?_
  refine cCond (b := (decide (0 ≤ i_1))) hf rfl (fun hb => ?_) (fun hb => ?_)
  ·replace hF := condT hb hF
   clear hb
   refine wp_skip ?_
   refine h17 _ _ ?_
   refine wp_seq_k fun K19 h19 => wp_block ?_
   refine wp_seq_k fun K20 h20 => cReg ?_
   refine stP hf rfl rfl rfl (pM rfl) fun a hf => stP hf rfl rfl rfl (pAdd rfl rfl) fun a hf => stP hf rfl rfl rfl (pM rfl) fun a hf => ?_
   obtain ⟨un_1,hun_1,hF⟩ := bnd_some hF
   refine stP hf rfl rfl rfl (pIAA Try.underlying155 sz_3 rfl rfl (inR_spec hun_1).1 (inR_spec hun_1).2) fun a hf => stE hf hc rfl rfl rfl (eLd1 sc_3 rfl (cell_arr (j := 0) m0 (fun x => (one_encI_i64 x).1) rfl hun_1 rfl)) fun a w hf hc => stP hf rfl rfl rfl (pMin2 rfl rfl) fun a hf => stP hf rfl rfl rfl (pA rfl) fun a hf => cNil ?_
   refine h20 _ _ ?_
   obtain ⟨un_2,hun_2,hF⟩ := bnd_some hF
   obtain ⟨un_3,hun_3,hF⟩ := bnd_some hF
   refine regionE (fun θ => [⟨none,none,2,.pointer (some ⟨b_1,0,none⟩)⟩,⟨none,none,3,.pointer (some ⟨b_2,0,none⟩)⟩,⟨none,none,4,.pointer (some ⟨b_3,0,none⟩)⟩,⟨none,none,5,.int .i64 (min (W (best_1 + 1)) (m i_1.toNat))⟩,⟨none,none,7,.int .i64 i_1⟩,⟨some 0,none,41,.pointer (some ⟨b_,0,none⟩)⟩,⟨some 1,none,42,.int .i64 i_1⟩,⟨some 2,none,43,.pointer (some ⟨b_,0,none⟩)⟩,⟨some 3,none,44,.int .i64 i_1⟩,⟨some 4,none,45,.pointer (some ⟨b_,0,none⟩)⟩,⟨some 5,none,46,.pointer (some ⟨b_,0 + i_1.toNat * 1,none⟩)⟩,⟨some 6,none,47,.int .i64 (b__1 i_1.toNat)⟩,⟨some 7,none,48,.int .i64 (min (W (best_1 + 1)) (m i_1.toNat))⟩,⟨some 8,none,49,.int .i64 (min (b__1 i_1.toNat) (min (W (best_1 + 1)) (m i_1.toNat)))⟩,⟨some 9,none,50,.pointer (some ⟨b_,0,none⟩)⟩,⟨some 10,none,51,.pointer (some ⟨b_,0 + i_1.toNat * 1,none⟩)⟩]) (fun E θ => .box b_3 (catc [] 601 encI_i64 m []) 155::.box b_2 [.int .i64 s_.Lo,.int .i64 s_.Hi] 50::.box b_1 [.pointer (some ⟨b_,0,none⟩)] 211::(bif E 11 then .box b_ (catc [] 601 encI_i64 (setF b__1 i_1.toNat (min (b__1 i_1.toNat) (min (W (best_1 + 1)) (m i_1.toNat)))) []) 155 else .box b_ (catc [] 601 encI_i64 b__1 []) 155)::Lf) [(11,6)] (fun a w => Has 66 a [(2,.pointer (some ⟨b_1,0,none⟩)),(3,.pointer (some ⟨b_2,0,none⟩)),(4,.pointer (some ⟨b_3,0,none⟩)),(5,.int .i64 (min (W (best_1 + 1)) (m i_1.toNat))),(7,.int .i64 i_1)] ∧ Ctx G (.box b_3 (catc [] 601 encI_i64 m []) 155::.box b_2 [.int .i64 s_.Lo,.int .i64 s_.Hi] 50::.box b_1 [.pointer (some ⟨b_,0,none⟩)] 211::.box b_ (catc [] 601 encI_i64 (setF b__1 i_1.toNat (min (b__1 i_1.toNat) (min (W (best_1 + 1)) (m i_1.toNat)))) []) 155::Lf) w) follows_mx (by kernel_rfl) (by kernel_rfl) (HasE.of hf ⟨rfl,rfl,rfl,rfl,rfl,trivial,trivial,trivial,trivial,trivial,trivial,trivial,trivial,trivial,trivial,trivial,trivial⟩) hc ⟨?_,?_,?_,?_,?_,?_,?_,?_,?_,?_,?_,?_,trivial⟩ ?_ ?_
   ·intro E θ a w hD hi hp he hc
    have hf := he.h0
    replace hf := hf.more he 0 rfl onT
    refine stE hf hc rfl rfl rfl (eLd1 sc_211 rfl (cell_box m2 rfl)) fun a w hf hc => cNil ?_
    refine xThenN ?_
    intro ds u hau
    refine ⟨θ,he.put0 hi hau hf rfl 5 rfl rfl,?_⟩
    exact hc
   ·intro E θ a w hD hi hp he hc
    have hf := he.h0
    replace hf := hf.more he 4 rfl onT
    refine stP hf rfl rfl rfl (pM rfl) fun a hf => cNil ?_
    refine xThenN ?_
    intro ds u hau
    refine ⟨θ,he.put0 hi hau hf rfl 6 rfl rfl,?_⟩
    exact hc
   ·intro E θ a w hD hi hp he hc
    have hf := he.h0
    replace hf := hf.more he 0 rfl onT
    refine stE hf hc rfl rfl rfl (eLd1 sc_211 rfl (cell_box m2 rfl)) fun a w hf hc => cNil ?_
    refine xThenN ?_
    intro ds u hau
    refine ⟨θ,he.put0 hi hau hf rfl 7 rfl rfl,?_⟩
    exact hc
   ·intro E θ a w hD hi hp he hc
    have hf := he.h0
    replace hf := hf.more he 4 rfl onT
    refine stP hf rfl rfl rfl (pM rfl) fun a hf => cNil ?_
    refine xThenN ?_
    intro ds u hau
    refine ⟨θ,he.put0 hi hau hf rfl 8 rfl rfl,?_⟩
    exact hc
   ·intro E θ a w hD hi hp he hc
    have e2 := hp.of (k := 2) rfl
    have hf := he.h0
    replace hf := hf.more he 7 rfl (onP e2)
    refine stP hf rfl rfl rfl (pNC rfl) fun a hf => cNil ?_
    refine xThenN ?_
    intro ds u hau
    refine ⟨θ,he.put0 hi hau hf rfl 9 rfl rfl,?_⟩
    exact hc
   ·intro E θ a w hD hi hp he hc
    have e3 := hp.of (k := 3) rfl
    have e4 := hp.of (k := 4) rfl
    have hf := he.h0
    replace hf := hf.more he 8 rfl (onP e3)
    replace hf := hf.more he 9 rfl (onP e4)
    refine stP hf rfl rfl rfl (pIAA Try.underlying155 sz_3 rfl rfl (inR_spec hun_2).1 (inR_spec hun_2).2) fun a hf => cNil ?_
    refine xThenN ?_
    intro ds u hau
    refine ⟨θ,he.put0 hi hau hf rfl 10 rfl rfl,?_⟩
    exact hc
   ·intro E θ a w hD hi hp he hc
    have e5 := hp.of (k := 5) rfl
    have e11 := hD.f 0 rfl hi
    try dsimp only at hc
    rw [e11] at hc
    have hf := he.h0
    replace hf := hf.more he 10 rfl (onP e5)
    refine stE hf hc rfl rfl rfl (eLd1 sc_3 rfl (cell_arr (j := 0) m3 (fun x => (one_encI_i64 x).1) rfl hun_2 rfl)) fun a w hf hc => cNil ?_
    refine xThenN ?_
    intro ds u hau
    refine ⟨θ,he.put0 hi hau hf rfl 11 rfl rfl,?_⟩
    try dsimp only
    rw [updE_fls 6 e11 rfl]
    exact hc
   ·intro E θ a w hD hi hp he hc
    have hf := he.h0
    replace hf := hf.more he 3 rfl onT
    refine stP hf rfl rfl rfl (pM rfl) fun a hf => cNil ?_
    refine xThenN ?_
    intro ds u hau
    refine ⟨θ,he.put0 hi hau hf rfl 12 rfl rfl,?_⟩
    exact hc
   ·intro E θ a w hD hi hp he hc
    have e6 := hp.of (k := 6) rfl
    have e7 := hp.of (k := 7) rfl
    have hf := he.h0
    replace hf := hf.more he 11 rfl (onP e6)
    replace hf := hf.more he 12 rfl (onP e7)
    refine stP hf rfl rfl rfl (pMin2 rfl rfl) fun a hf => cNil ?_
    refine xThenN ?_
    intro ds u hau
    refine ⟨θ,he.put0 hi hau hf rfl 13 rfl rfl,?_⟩
    exact hc
   ·intro E θ a w hD hi hp he hc
    have e0 := hp.of (k := 0) rfl
    have hf := he.h0
    replace hf := hf.more he 5 rfl (onP e0)
    refine stP hf rfl rfl rfl (pNC rfl) fun a hf => cNil ?_
    refine xThenN ?_
    intro ds u hau
    refine ⟨θ,he.put0 hi hau hf rfl 14 rfl rfl,?_⟩
    exact hc
   ·intro E θ a w hD hi hp he hc
    have e1 := hp.of (k := 1) rfl
    have e9 := hp.of (k := 9) rfl
    have hf := he.h0
    replace hf := hf.more he 6 rfl (onP e1)
    replace hf := hf.more he 14 rfl (onP e9)
    refine stP hf rfl rfl rfl (pIAA Try.underlying155 sz_3 rfl rfl (inR_spec hun_3).1 (inR_spec hun_3).2) fun a hf => cNil ?_
    refine xThenN ?_
    intro ds u hau
    refine ⟨θ,he.put0 hi hau hf rfl 15 rfl rfl,?_⟩
    exact hc
   ·intro E θ a w hD hi hp he hc
    have e8 := hp.of (k := 8) rfl
    have e10 := hp.of (k := 10) rfl
    try dsimp only at hc
    rw [hi] at hc
    have hf := he.h0
    replace hf := hf.more he 13 rfl (onP e8)
    replace hf := hf.more he 15 rfl (onP e10)
    refine stAr (vs := [.int .i64 (min (b__1 i_1.toNat) (min (W (best_1 + 1)) (m i_1.toNat)))]) (o' := 0) (z := min (b__1 i_1.toNat) (min (W (best_1 + 1)) (m i_1.toNat))) hf hc rfl rfl rfl rfl sz_3 rfl (fun x => (one_encI_i64 x).1) rfl hun_3 rfl rfl u3 fun w hc => cNil ?_
    refine xThenN ?_
    intro ds u hau
    refine ⟨θ,he.stay0 hi hau hf rfl,?_⟩
    try dsimp only
    rw [updE_self E 11]
    exact hc
   ·intro E θ a w hall he hc
    have hf := he.h0
    have e11 := hall 11 rfl
    replace hf := hf.more he 4 rfl (onT)
    replace hf := hf.more he 3 rfl (onT)
    replace hf := hf.more he 2 rfl (onT)
    replace hf := hf.more he 1 rfl (onT)
    replace hf := hf.more he 0 rfl (onT)
    try dsimp only at hc
    rw [e11] at hc
    exact ⟨hf.keep ⟨rfl,rfl,rfl,rfl,rfl,trivial⟩,hc⟩
   rintro a w ⟨hf,hc⟩
   refine h19 _ _ ?_
   refine cReg ?_
   refine stP hf rfl rfl rfl (pM rfl) fun a hf => stP hf rfl rfl rfl (pSub rfl rfl) fun a hf => stP hf rfl rfl rfl (pA rfl) fun a hf => cNil ?_
   exact hK11 (min (W (best_1 + 1)) (m i_1.toNat),W (i_1 - 1),(setF b__1 i_1.toNat (min (b__1 i_1.toNat) (min (W (best_1 + 1)) (m i_1.toNat))))) _ _ (Option.some.inj hF).symm ⟨hf.keep ⟨rfl,rfl,rfl,rfl,rfl,trivial⟩,hc⟩
  ·replace hF := condF hb hF
   clear hb
   refine wp_exit ?_
   refine xThen ?_
   refine xThen ?_
   have he := Option.some.inj hF
   rw [← he] at hfin11
   refine cHit ?_
   exact hr11 _ _ _ hfin11 ⟨hf.keep ⟨rfl,rfl,rfl,rfl,rfl,trivial⟩,hc⟩
 have ho7 : ∀ r,x7 = .out r → r = res := by
  rintro r rfl
  exact Option.some.inj hF
 refine cLoop N (loopW (S := S7) (x := x7) ?_ N (1073741824,0,(fun _ => 0)) _ _ ⟨hf.keep ⟨rfl,rfl,rfl,rfl,rfl,trivial⟩,hc⟩ hx7)
 clear hF hf hc
 rintro ⟨best,x,b__0⟩ st7 a w KB7 ⟨hf,hc⟩ hF hfin7 hK7
 unfold shift_moved_on_b7 at hF
 refine wp_seq_k fun K21 h21 => cReg ?_
 refine stP hf rfl rfl rfl (pLt rfl rfl) fun a hf => cNil ?_
 refine h21 _ _ ?_
 refine wp_seq_k fun K22 h22 => cCond (b := (decide (x < 601))) hf rfl (fun hb => ?_) (fun hb => ?_)
 ·replace hF := condT hb hF
  clear hb
  refine wp_skip ?_
  refine h22 _ _ ?_
  refine wp_seq_k fun K23 h23 => wp_block ?_
  refine wp_seq_k fun K24 h24 => cReg ?_
  refine stP hf rfl rfl rfl (pM rfl) fun a hf => stP hf rfl rfl rfl (pA rfl) fun a hf => cNil ?_
  refine h24 _ _ ?_
  refine wp_seq_k fun K25 h25 => cReg ?_
  refine stP hf rfl rfl rfl (pM rfl) fun a hf => stP hf rfl rfl rfl (pAdd rfl rfl) fun a hf => stP hf rfl rfl rfl (pM rfl) fun a hf => ?_
  obtain ⟨un_4,hun_4,hF⟩ := bnd_some hF
  refine stP hf rfl rfl rfl (pIAA Try.underlying155 sz_3 rfl rfl (inR_spec hun_4).1 (inR_spec hun_4).2) fun a hf => stE hf hc rfl rfl rfl (eLd1 sc_3 rfl (cell_arr (j := 0) m0 (fun x => (one_encI_i64 x).1) rfl hun_4 rfl)) fun a w hf hc => stP hf rfl rfl rfl (pMin2 rfl rfl) fun a hf => stP hf rfl rfl rfl (pA rfl) fun a hf => cNil ?_
  refine h25 _ _ ?_
  refine cReg ?_
  refine stE hf hc rfl rfl rfl (eLd1 sc_211 rfl (cell_box m2 rfl)) fun a w hf hc => stP hf rfl rfl rfl (pM rfl) fun a hf => stP hf rfl rfl rfl (pM rfl) fun a hf => stP hf rfl rfl rfl (pNC rfl) fun a hf => ?_
  obtain ⟨un_5,hun_5,hF⟩ := bnd_some hF
  refine stP hf rfl rfl rfl (pIAA Try.underlying155 sz_3 rfl rfl (inR_spec hun_5).1 (inR_spec hun_5).2) fun a hf => stAr (vs := [.int .i64 (min (W (best + 1)) (m x.toNat))]) (o' := 0) (z := min (W (best + 1)) (m x.toNat)) hf hc rfl rfl rfl rfl sz_3 rfl (fun x => (one_encI_i64 x).1) rfl hun_5 rfl rfl u3 fun w hc => cNil ?_
  refine h23 _ _ ?_
  refine cReg ?_
  refine stP hf rfl rfl rfl (pAdd rfl rfl) fun a hf => stP hf rfl rfl rfl (pM rfl) fun a hf => cNil ?_
  exact hK7 (min (W (best + 1)) (m x.toNat),W (x + 1),(setF b__0 x.toNat (min (W (best + 1)) (m x.toNat)))) _ _ (Option.some.inj hF).symm ⟨hf.keep ⟨rfl,rfl,rfl,rfl,rfl,trivial⟩,hc⟩
 ·replace hF := condF hb hF
  clear hb
  refine wp_exit ?_
  refine xThen ?_
  refine xThen ?_
  have he := Option.some.inj hF
  rw [← he] at hfin7
  refine cHit ?_
  exact hr7 _ _ _ hfin7 ⟨hf.keep ⟨rfl,rfl,rfl,rfl,rfl,trivial⟩,hc⟩

def shift_reckoned_b6 (N : Nat) (sub : List api_Span) (out : List (Nat → Int)) (x : Int) (x_1 : Nat → Int) : Option (Step ((List (Nat → Int)) × Int × (Nat → Int)) ((List (Nat → Int)))) :=
 cond (decide (x < ((sub.length : Nat) : Int)))
 (Option.bind (getI sub x) fun e_2 =>
 Option.bind (shift_moved_on N x_1 e_2) fun r_1 =>
 Option.bind (room ((out ++ [r_1])).length) fun un =>
 some (.cont ((out ++ [r_1]),W (x + 1),r_1)))
 (some (.brk (out,x,x_1)))
def shift_reckoned (N : Nat) (l : List api_Span) : Option ((List (Nat → Int))) :=
 Option.bind (getI l 0) fun e_1 =>
 Option.bind (shift_start N e_1) fun r =>
 Option.bind (subO l 1 ((l.length : Nat) : Int)) fun sub =>
 Option.bind (loopO (fun s6 => shift_reckoned_b6 N sub s6.1 s6.2.1 s6.2.2) N (([r] : List (Nat → Int)),0,r)) fun x6 =>
 exK x6 (fun s6 => some s6.1) some
theorem shift_reckoned_ok {N : Nat} {G : Pers} {Lf : List Ent} {w : World} (l : List api_Span) {l_p : Option Addr} {l_c : Nat} (h_l : Rd G 2 l_p l_c (l.map enc_api_Span)) (hc : Ctx G (Lf) w) {res : (List (Nat → Int))} (hF : shift_reckoned N l = some res) : Calls Try.prog 108 #[.slice l_p l.length l_c] w (fun e w => ∃ (p'1 : Option Addr) (c'1 : Nat),e = .returned (.slice p'1 res.length c'1) ∧ Ctx G (.row p'1 c'1 (res.map encA_155) 155 601::Lf) w) := by
 unfold shift_reckoned at hF
 refine fnIn (args := [.slice l_p l.length l_c]) Try.func108 rfl Try.ntmps108 rfl fun a hf => wp_seq_k fun K1 h1 => cReg ?_
 refine stP hf rfl rfl rfl (pA rfl) fun a hf => cNil ?_
 refine h1 _ _ ?_
 refine wp_seq_k fun K2 h2 => cReg ?_
 refine stP hf rfl rfl rfl (pM rfl) fun a hf => ?_
 obtain ⟨e_1,he_1,hF⟩ := bnd_some hF
 obtain ⟨b_1,o,qa,qp⟩ := h_l.atm he_1
 refine stP hf rfl rfl rfl (pIA Try.underlying44 sz_50 rfl rfl qa) fun a hf => stE hf hc rfl rfl rfl (eLdN (vs := [.int .i64 e_1.Lo,.int .i64 e_1.Hi]) ag_50 rfl rfl (cells_pc qp (n := 2) (o' := 0) rfl)) fun a w hf hc => ?_
 obtain ⟨r,hr,hF⟩ := bnd_some hF
 refine stC (vs := [.agg #[.int .i64 e_1.Lo,.int .i64 e_1.Hi]]) (caps := []) hf rfl rfl rfl en_136 rfl rfl rfl rfl (shift_start_ok e_1 hc hr) ?_
 rintro _ w ⟨b_2,rfl,hc⟩
 refine ⟨_,rfl,fun a hf => ?_⟩
 refine stP hf rfl rfl rfl (pA rfl) fun a hf => cNil ?_
 refine h2 _ _ ?_
 refine wp_seq_k fun K3 h3 => cReg ?_
 refine stP hf rfl rfl rfl (pM rfl) fun a hf => stP hf rfl rfl rfl (pNC rfl) fun a hf => stE hf hc rfl rfl rfl (eLdN (vs := (catc [] 601 encI_i64 r [])) ag_155 rfl (one_encA_155 _).1 (cells_box (n := 601) m0 (takeW (one_encA_155 _).1))) fun a w hf hc => stBS (rows := ([r] : List (Nat → Int)).map encA_155) (vs := [(0,.agg (catc [] 601 encI_i64 r []).toArray)]) hf hc rfl rfl sl_152 rfl ⟨rfl,rfl,(one_encA_155 _).1,trivial⟩ rfl rfl fun b_3 a w hf hc => stP hf rfl rfl rfl (pA rfl) fun a hf => cNil ?_
 refine h3 _ _ ?_
 refine wp_seq_k fun K4 h4 => wp_seq_k fun K5 h5 => cReg ?_
 refine stP hf rfl rfl rfl (pM rfl) fun a hf => ?_
 obtain ⟨sub,hsub,hF⟩ := bnd_some hF
 have qs := Rd.sub h_l hsub
 refine stP hf rfl rfl rfl (pSl Try.underlying44 sz_50 rfl rfl (by simpa using h_l.1) rfl rfl hsub) fun a hf => stP hf rfl rfl rfl (pLenS Try.underlying44 rfl) fun a hf => stP hf rfl rfl rfl (pM rfl) fun a hf => cNil ?_
 refine h5 _ _ ?_
 refine wp_block ?_
 obtain ⟨x6,hx6,hF⟩ := bnd_some hF
 let S6 : ((List (Nat → Int)) × Int × (Nat → Int)) → Act → World → Prop := (fun (zz : (List (Nat → Int)) × Int × (Nat → Int)) a w => ∃ (p_1 : Option Addr) (c_1 : Nat),Has 33 a [(3,.pointer (some ⟨b_2,0,none⟩)),(4,.slice p_1 zz.1.length c_1),(16,.slice (subP l_p l_c (1 : Int).toNat 2) sub.length (l_c - (1 : Int).toNat)),(17,.int .i64 ((sub.length : Nat) : Int)),(18,.int .i64 zz.2.1)] ∧ Ctx G (.row p_1 c_1 (zz.1.map encA_155) 155 601::.box b_2 (catc [] 601 encI_i64 zz.2.2 []) 155::Lf) w)
 have hr6 : ∀ (zz : (List (Nat → Int)) × Int × (Nat → Int)) a w,x6 = .go zz → S6 zz a w → K4 a w := by
  rintro ⟨out,x,x_1⟩ a w rfl ⟨p_1,c_1,hf,hc⟩
  replace hF := exK_go hF
  refine h4 _ _ ?_
  refine wp_seq_k fun K7 h7 => cReg ?_
  refine stP hf rfl rfl rfl (pM rfl) fun a hf => stP hf rfl rfl rfl (pA rfl) fun a hf => cNil ?_
  refine h7 _ _ ?_
  refine wp_ret ?_
  obtain rfl := Option.some.inj hF
  replace hc := hc.drop k1
  exact fnOut1 (by simp) rfl Try.results108 hf hc (show look _ 2 = _ from rfl) ⟨p_1,c_1,rfl,hc⟩
 have ho6 : ∀ r,x6 = .out r → r = res := by
  rintro r rfl
  exact Option.some.inj hF
 refine cLoop N (loopW (S := S6) (x := x6) ?_ N (([r] : List (Nat → Int)),0,r) _ _ ⟨(some ⟨b_3,0,none⟩),1,hf.keep ⟨rfl,rfl,rfl,rfl,rfl,trivial⟩,hc⟩ hx6)
 clear hF hf hc
 rintro ⟨out,x,x_1⟩ st6 a w KB6 ⟨p_1,c_1,hf,hc⟩ hF hfin6 hK6
 unfold shift_reckoned_b6 at hF
 refine wp_seq_k fun K8 h8 => cReg ?_
 refine stP hf rfl rfl rfl (pLt rfl rfl) fun a hf => cNil ?_
 refine h8 _ _ ?_
 refine wp_seq_k fun K9 h9 => cCond (b := (decide (x < ((sub.length : Nat) : Int)))) hf rfl (fun hb => ?_) (fun hb => ?_)
 ·replace hF := condT hb hF
  clear hb
  refine wp_skip ?_
  refine h9 _ _ ?_
  refine wp_seq_k fun K10 h10 => wp_block ?_
  refine wp_seq_k fun K11 h11 => cReg ?_
  obtain ⟨e_2,he_2,hF⟩ := bnd_some hF
  obtain ⟨b_4,o_1,qa_1,qp_1⟩ := qs.atm he_2
  refine stP hf rfl rfl rfl (pIA Try.underlying44 sz_50 rfl rfl qa_1) fun a hf => stE hf hc rfl rfl rfl (eLdN (vs := [.int .i64 e_2.Lo,.int .i64 e_2.Hi]) ag_50 rfl rfl (cells_pc qp_1 (n := 2) (o' := 0) rfl)) fun a w hf hc => stAl (cs := [.int .i64 0,.int .i64 0]) hf hc rfl rfl zr_50 rfl fun b_5 a w hf hc => stSt (vs := [.int .i64 e_2.Lo,.int .i64 e_2.Hi]) hf hc rfl rfl rfl rfl sz_50 rfl rfl u0 fun w hc => cNil ?_
  refine h11 _ _ ?_
  refine wp_seq_k fun K12 h12 => cReg ?_
  refine stP hf rfl rfl rfl (pM rfl) fun a hf => stE hf hc rfl rfl rfl (eLdN (vs := [.int .i64 e_2.Lo,.int .i64 e_2.Hi]) ag_50 rfl rfl (cells_box (n := 2) m0 rfl)) fun a w hf hc => ?_
  obtain ⟨r_1,hr_1,hF⟩ := bnd_some hF
  refine stC (vs := [.pointer (some ⟨b_2,0,none⟩),.agg #[.int .i64 e_2.Lo,.int .i64 e_2.Hi]]) (caps := []) hf rfl rfl rfl en_137 rfl rfl rfl rfl (shift_moved_on_ok x_1 e_2 (hc.pick k2) hr_1) ?_
  rintro _ w ⟨rfl,hc⟩
  refine ⟨_,rfl,fun a hf => ?_⟩
  refine cNil ?_
  refine h12 _ _ ?_
  refine cReg ?_
  refine stP hf rfl rfl rfl (pM rfl) fun a hf => stP hf rfl rfl rfl (pM rfl) fun a hf => stP hf rfl rfl rfl (pNC rfl) fun a hf => stE hf hc rfl rfl rfl (eLdN (vs := (catc [] 601 encI_i64 r_1 [])) ag_155 rfl (one_encA_155 _).1 (cells_box (n := 601) m0 (takeW (one_encA_155 _).1))) fun a w hf hc => stBS (rows := ([r_1] : List (Nat → Int)).map encA_155) (vs := [(0,.agg (catc [] 601 encI_i64 r_1 []).toArray)]) hf hc rfl rfl sl_152 rfl ⟨rfl,rfl,(one_encA_155 _).1,trivial⟩ rfl rfl fun b_6 a w hf hc => ?_
  obtain ⟨un,hun,hF⟩ := bnd_some hF
  refine stApm (xs := out) (ys := ([r_1] : List (Nat → Int))) hf hc rfl rfl sl_152 rfl rfl rfl rfl rfl one_encA_155 (src_row hc m0) (fun _ _ => u3) (by simpa using room_spec hun) fun p_2 c_2 a w hf hc => stP hf rfl rfl rfl (pA rfl) fun a hf => cNil ?_
  refine h10 _ _ ?_
  refine cReg ?_
  refine stP hf rfl rfl rfl (pAdd rfl rfl) fun a hf => stP hf rfl rfl rfl (pM rfl) fun a hf => cNil ?_
  replace hc := hc.drop k2
  replace hc := hc.drop k0
  replace hc := hc.pick k0
  replace hc := hc.pick k1
  exact hK6 ((out ++ [r_1]),W (x + 1),r_1) _ _ (Option.some.inj hF).symm ⟨p_2,c_2,hf.keep ⟨rfl,rfl,rfl,rfl,rfl,trivial⟩,hc⟩
 ·replace hF := condF hb hF
  clear hb
  refine wp_exit ?_
  refine xThen ?_
  refine xThen ?_
  have he := Option.some.inj hF
  rw [← he] at hfin6
  refine cHit ?_
  exact hr6 _ _ _ hfin6 ⟨p_1,c_1,hf.keep ⟨rfl,rfl,rfl,rfl,rfl,trivial⟩,hc⟩

def slices_Reverse_Lshift_moved_shift_moved_b3 (N : Nat) (s_1 : List (Nat → Int)) (i_1 : Int) (j_1 : Int) : Option (Step ((List (Nat → Int)) × Int × Int) ((List (Nat → Int)))) :=
 cond (decide (i_1 < j_1))
 (Option.bind (getI s_1 j_1) fun e_1 =>
 Option.bind (getI s_1 i_1) fun e_2 =>
 Option.bind (getI s_1 i_1) fun e_3 =>
 Option.bind (getI s_1 j_1) fun e_4 =>
 some (.cont (((s_1.set i_1.toNat e_1).set j_1.toNat e_2),W (i_1 + 1),W (j_1 - 1))))
 (some (.brk (s_1,i_1,j_1)))
def slices_Reverse_Lshift_moved_shift_moved (N : Nat) (s_ : List (Nat → Int)) : Option ((List (Nat → Int))) :=
 Option.bind (loopO (fun s3 => slices_Reverse_Lshift_moved_shift_moved_b3 N s3.1 s3.2.1 s3.2.2) N (s_,0,W (((s_.length : Nat) : Int) - 1))) fun x3 =>
 exK x3 (fun s3 => Option.bind (sameL s3.1 s_) fun _ =>
 some s3.1) some
theorem slices_Reverse_Lshift_moved_shift_moved_ok {N : Nat} {G : Pers} {Lf : List Ent} {w : World} (s_ : List (Nat → Int)) {s__p : Option Addr} {s__c : Nat}  (hc : Ctx G (.row s__p s__c (s_.map encA_155) 155 601::Lf) w) {res : (List (Nat → Int))} (hF : slices_Reverse_Lshift_moved_shift_moved N s_ = some res) : Calls Try.prog 112 #[.slice s__p s_.length s__c] w (fun e w => e = .returned (.tuple #[]) ∧ res.length = s_.length ∧ Ctx G (.row s__p s__c (res.map encA_155) 155 601::Lf) w) := by
 unfold slices_Reverse_Lshift_moved_shift_moved at hF
 refine fnIn (args := [.slice s__p s_.length s__c]) Try.func112 rfl Try.ntmps112 rfl fun a hf => wp_seq_k fun K1 h1 => cReg ?_
 refine stP hf rfl rfl rfl (pM rfl) fun a hf => stP hf rfl rfl rfl (pLenS Try.underlying152 rfl) fun a hf => stP hf rfl rfl rfl (pSub rfl rfl) fun a hf => stP hf rfl rfl rfl (pA rfl) fun a hf => stP hf rfl rfl rfl (pA rfl) fun a hf => cNil ?_
 refine h1 _ _ ?_
 refine wp_thenK fun K2 h2 => wp_block ?_
 obtain ⟨x3,hx3,hF⟩ := bnd_some hF
 let S3 : ((List (Nat → Int)) × Int × Int) → Act → World → Prop := (fun (zz : (List (Nat → Int)) × Int × Int) a w => Has 28 a [(0,.slice s__p zz.1.length s__c),(2,.int .i64 zz.2.1),(3,.int .i64 zz.2.2)] ∧ Ctx G (.row s__p s__c (zz.1.map encA_155) 155 601::Lf) w)
 have hr3 : ∀ (zz : (List (Nat → Int)) × Int × Int) a w,x3 = .go zz → S3 zz a w → K2 a w := by
  rintro ⟨s_1,i_1,j_1⟩ a w rfl ⟨hf,hc⟩
  replace hF := exK_go hF
  refine h2 _ _ ?_
  obtain ⟨_,hl0,hF⟩ := same_len hF
  obtain rfl := Option.some.inj hF
  exact fnOut0 (by simp) rfl Try.results112 hf ⟨rfl,hl0,hc⟩
 have ho3 : ∀ r,x3 = .out r → r = res := by
  rintro r rfl
  exact Option.some.inj hF
 refine cLoop N (loopW (S := S3) (x := x3) ?_ N (s_,0,W (((s_.length : Nat) : Int) - 1)) _ _ ⟨hf.keep ⟨rfl,rfl,rfl,trivial⟩,hc⟩ hx3)
 clear hF hf hc
 rintro ⟨s_1,i_1,j_1⟩ st3 a w KB3 ⟨hf,hc⟩ hF hfin3 hK3
 unfold slices_Reverse_Lshift_moved_shift_moved_b3 at hF
 refine wp_seq_k fun K4 h4 => wp_seq_k fun K5 h5 => cReg ?_
 refine stP hf rfl rfl rfl (pM rfl) fun a hf => stP hf rfl rfl rfl (pM rfl) fun a hf => stP hf rfl rfl rfl (pLt rfl rfl) fun a hf => cNil ?_
 refine h5 _ _ ?_
 refine cCond (b := (decide (i_1 < j_1))) hf rfl (fun hb => ?_) (fun hb => ?_)
 ·replace hF := condT hb hF
  clear hb
  refine wp_skip ?_
  refine h4 _ _ ?_
  refine wp_seq_k fun K6 h6 => wp_block ?_
  obtain ⟨e_1,he_1,hF⟩ := bnd_some hF
  obtain ⟨g,rfl,qa,qr⟩ := row_atm hc m0 he_1
  obtain ⟨e_2,he_2,hF⟩ := bnd_some hF
  obtain ⟨qa_1,qr_1⟩ := row_atk hc m0 he_2
  obtain ⟨e_3,he_3,hF⟩ := bnd_some hF
  obtain ⟨qa_2,qr_2⟩ := row_atk hc m0 he_3
  obtain ⟨e_4,he_4,hF⟩ := bnd_some hF
  obtain ⟨qa_3,qr_3⟩ := row_atk hc m0 he_4
  refine regionE (fun θ => [⟨none,none,0,.slice (some ⟨g,0,none⟩) s_1.length s__c⟩,⟨none,none,2,.int .i64 i_1⟩,⟨none,none,3,.int .i64 j_1⟩,⟨some 0,none,14,.slice (some ⟨g,0,none⟩) s_1.length s__c⟩,⟨some 1,none,15,.int .i64 i_1⟩,⟨some 2,none,16,.slice (some ⟨g,0,none⟩) s_1.length s__c⟩,⟨some 3,none,17,.int .i64 j_1⟩,⟨some 4,none,18,.slice (some ⟨g,0,none⟩) s_1.length s__c⟩,⟨some 5,none,19,.int .i64 j_1⟩,⟨some 6,none,20,.pointer (some ⟨g,j_1.toNat * 601,none⟩)⟩,⟨some 7,none,21,.agg (catc [] 601 encI_i64 e_1 []).toArray⟩,⟨some 8,none,22,.slice (some ⟨g,0,none⟩) s_1.length s__c⟩,⟨some 9,none,23,.int .i64 i_1⟩,⟨some 10,none,24,.pointer (some ⟨g,i_1.toNat * 601,none⟩)⟩,⟨some 11,none,25,.agg (catc [] 601 encI_i64 e_2 []).toArray⟩,⟨some 12,none,26,.pointer (some ⟨g,i_1.toNat * 601,none⟩)⟩,⟨some 14,none,27,.pointer (some ⟨g,j_1.toNat * 601,none⟩)⟩]) (fun E θ => (bif E 15 then .row (some ⟨g,0,none⟩) s__c (((s_1.set i_1.toNat e_1).set j_1.toNat e_2).map encA_155) 155 601 else bif E 13 then .row (some ⟨g,0,none⟩) s__c ((s_1.set i_1.toNat e_1).map encA_155) 155 601 else .row (some ⟨g,0,none⟩) s__c (s_1.map encA_155) 155 601)::Lf) [(13,6),(15,6),(13,7),(15,7),(11,10),(13,11),(15,10),(15,11),(13,12),(15,12),(15,13),(15,14)] (fun a w => Has 28 a [(0,.slice (some ⟨g,0,none⟩) s_1.length s__c),(2,.int .i64 i_1),(3,.int .i64 j_1)] ∧ Ctx G (.row (some ⟨g,0,none⟩) s__c (((s_1.set i_1.toNat e_1).set j_1.toNat e_2).map encA_155) 155 601::Lf) w) follows_mx (by kernel_rfl) (by kernel_rfl) (HasE.of hf ⟨rfl,rfl,rfl,trivial,trivial,trivial,trivial,trivial,trivial,trivial,trivial,trivial,trivial,trivial,trivial,trivial,trivial,trivial⟩) hc ⟨?_,?_,?_,?_,?_,?_,?_,?_,?_,?_,?_,?_,?_,?_,?_,?_,trivial⟩ ?_ ?_
  ·intro E θ a w hD hi hp he hc
   have hf := he.h0
   replace hf := hf.more he 0 rfl onT
   refine stP hf rfl rfl rfl (pM rfl) fun a hf => cNil ?_
   refine xThenN ?_
   intro ds u hau
   refine ⟨θ,he.put0 hi hau hf rfl 3 rfl rfl,?_⟩
   exact hc
  ·intro E θ a w hD hi hp he hc
   have hf := he.h0
   replace hf := hf.more he 1 rfl onT
   refine stP hf rfl rfl rfl (pM rfl) fun a hf => cNil ?_
   refine xThenN ?_
   intro ds u hau
   refine ⟨θ,he.put0 hi hau hf rfl 4 rfl rfl,?_⟩
   exact hc
  ·intro E θ a w hD hi hp he hc
   have hf := he.h0
   replace hf := hf.more he 0 rfl onT
   refine stP hf rfl rfl rfl (pM rfl) fun a hf => cNil ?_
   refine xThenN ?_
   intro ds u hau
   refine ⟨θ,he.put0 hi hau hf rfl 5 rfl rfl,?_⟩
   exact hc
  ·intro E θ a w hD hi hp he hc
   have hf := he.h0
   replace hf := hf.more he 2 rfl onT
   refine stP hf rfl rfl rfl (pM rfl) fun a hf => cNil ?_
   refine xThenN ?_
   intro ds u hau
   refine ⟨θ,he.put0 hi hau hf rfl 6 rfl rfl,?_⟩
   exact hc
  ·intro E θ a w hD hi hp he hc
   have hf := he.h0
   replace hf := hf.more he 0 rfl onT
   refine stP hf rfl rfl rfl (pM rfl) fun a hf => cNil ?_
   refine xThenN ?_
   intro ds u hau
   refine ⟨θ,he.put0 hi hau hf rfl 7 rfl rfl,?_⟩
   exact hc
  ·intro E θ a w hD hi hp he hc
   have hf := he.h0
   replace hf := hf.more he 2 rfl onT
   refine stP hf rfl rfl rfl (pM rfl) fun a hf => cNil ?_
   refine xThenN ?_
   intro ds u hau
   refine ⟨θ,he.put0 hi hau hf rfl 8 rfl rfl,?_⟩
   exact hc
  ·intro E θ a w hD hi hp he hc
   have e4 := hp.of (k := 4) rfl
   have e5 := hp.of (k := 5) rfl
   have e13 := hD.f 0 rfl hi
   have e15 := hD.f 1 rfl hi
   try dsimp only at hc
   rw [e13,e15] at hc
   have hf := he.h0
   replace hf := hf.more he 7 rfl (onP e4)
   replace hf := hf.more he 8 rfl (onP e5)
   refine stP hf rfl rfl rfl (pIA Try.underlying152 sz_155 rfl rfl qa) fun a hf => cNil ?_
   refine xThenN ?_
   intro ds u hau
   refine ⟨θ,he.put0 hi hau hf rfl 9 rfl rfl,?_⟩
   try dsimp only
   rw [updE_fls 6 e13 rfl,updE_fls 6 e15 rfl]
   exact hc
  ·intro E θ a w hD hi hp he hc
   have e6 := hp.of (k := 6) rfl
   have e13 := hD.f 2 rfl hi
   have e15 := hD.f 3 rfl hi
   try dsimp only at hc
   rw [e13,e15] at hc
   have hf := he.h0
   replace hf := hf.more he 9 rfl (onP e6)
   refine stE hf hc rfl rfl rfl (eLdN (vs := (catc [] 601 encI_i64 e_1 [])) ag_155 rfl (one_encA_155 _).1 (cells_rw (sz := 601) (i := j_1.toNat) m0 qr (n := 601) (o' := 0) (takeW (one_encA_155 _).1))) fun a w hf hc => cNil ?_
   refine xThenN ?_
   intro ds u hau
   refine ⟨θ,he.put0 hi hau hf rfl 10 rfl rfl,?_⟩
   try dsimp only
   rw [updE_fls 7 e13 rfl,updE_fls 7 e15 rfl]
   exact hc
  ·intro E θ a w hD hi hp he hc
   have hf := he.h0
   replace hf := hf.more he 0 rfl onT
   refine stP hf rfl rfl rfl (pM rfl) fun a hf => cNil ?_
   refine xThenN ?_
   intro ds u hau
   refine ⟨θ,he.put0 hi hau hf rfl 11 rfl rfl,?_⟩
   exact hc
  ·intro E θ a w hD hi hp he hc
   have hf := he.h0
   replace hf := hf.more he 1 rfl onT
   refine stP hf rfl rfl rfl (pM rfl) fun a hf => cNil ?_
   refine xThenN ?_
   intro ds u hau
   refine ⟨θ,he.put0 hi hau hf rfl 12 rfl rfl,?_⟩
   exact hc
  ·intro E θ a w hD hi hp he hc
   have e8 := hp.of (k := 8) rfl
   have e9 := hp.of (k := 9) rfl
   have e11 := hD.f 4 rfl hi
   have e13 := hD.f 5 rfl e11
   have e15 := hD.f 6 rfl hi
   try dsimp only at hc
   rw [e13,e15] at hc
   have hf := he.h0
   replace hf := hf.more he 11 rfl (onP e8)
   replace hf := hf.more he 12 rfl (onP e9)
   refine stP hf rfl rfl rfl (pIA Try.underlying152 sz_155 rfl rfl qa_1) fun a hf => cNil ?_
   refine xThenN ?_
   intro ds u hau
   refine ⟨θ,he.put0 hi hau hf rfl 13 rfl rfl,?_⟩
   try dsimp only
   rw [updE_fls 10 e13 rfl,updE_fls 10 e15 rfl]
   exact hc
  ·intro E θ a w hD hi hp he hc
   have e10 := hp.of (k := 10) rfl
   have e13 := hD.f 5 rfl hi
   have e15 := hD.f 7 rfl hi
   try dsimp only at hc
   rw [e13,e15] at hc
   have hf := he.h0
   replace hf := hf.more he 13 rfl (onP e10)
   refine stE hf hc rfl rfl rfl (eLdN (vs := (catc [] 601 encI_i64 e_2 [])) ag_155 rfl (one_encA_155 _).1 (cells_rw (sz := 601) (i := i_1.toNat) m0 qr_1 (n := 601) (o' := 0) (takeW (one_encA_155 _).1))) fun a w hf hc => cNil ?_
   refine xThenN ?_
   intro ds u hau
   refine ⟨θ,he.put0 hi hau hf rfl 14 rfl rfl,?_⟩
   try dsimp only
   rw [updE_fls 11 e13 rfl,updE_fls 11 e15 rfl]
   exact hc
  ·intro E θ a w hD hi hp he hc
   have e0 := hp.of (k := 0) rfl
   have e1 := hp.of (k := 1) rfl
   have e13 := hD.f 8 rfl hi
   have e15 := hD.f 9 rfl hi
   try dsimp only at hc
   rw [e13,e15] at hc
   have hf := he.h0
   replace hf := hf.more he 3 rfl (onP e0)
   replace hf := hf.more he 4 rfl (onP e1)
   refine stP hf rfl rfl rfl (pIA Try.underlying152 sz_155 rfl rfl qa_2) fun a hf => cNil ?_
   refine xThenN ?_
   intro ds u hau
   refine ⟨θ,he.put0 hi hau hf rfl 15 rfl rfl,?_⟩
   try dsimp only
   rw [updE_fls 12 e13 rfl,updE_fls 12 e15 rfl]
   exact hc
  ·intro E θ a w hD hi hp he hc
   have e7 := hp.of (k := 7) rfl
   have e12 := hp.of (k := 12) rfl
   have e15 := hD.f 10 rfl hi
   try dsimp only at hc
   rw [hi,e15] at hc
   have hf := he.h0
   replace hf := hf.more he 10 rfl (onP e7)
   replace hf := hf.more he 15 rfl (onP e12)
   refine stRwA (enc := encA_155) (z := e_1) (xs := s_1) hf hc rfl rfl rfl one_encA_155 sz_155 (getI_lt he_3) u0 fun w hc => cNil ?_
   refine xThenN ?_
   intro ds u hau
   refine ⟨θ,he.stay0 hi hau hf rfl,?_⟩
   try dsimp only
   rw [updE_self E 13,updE_fls 13 e15 rfl]
   exact hc
  ·intro E θ a w hD hi hp he hc
   have e2 := hp.of (k := 2) rfl
   have e3 := hp.of (k := 3) rfl
   have e13 := hp.of (k := 13) rfl
   have e15 := hD.f 11 rfl hi
   try dsimp only at hc
   rw [e13,e15] at hc
   have hf := he.h0
   replace hf := hf.more he 5 rfl (onP e2)
   replace hf := hf.more he 6 rfl (onP e3)
   refine stP hf rfl rfl rfl (pIA Try.underlying152 sz_155 rfl rfl qa_3) fun a hf => cNil ?_
   refine xThenN ?_
   intro ds u hau
   refine ⟨θ,he.put0 hi hau hf rfl 16 rfl rfl,?_⟩
   try dsimp only
   rw [updE_tru 14 e13,updE_fls 14 e15 rfl]
   exact hc
  ·intro E θ a w hD hi hp he hc
   have e11 := hp.of (k := 11) rfl
   have e14 := hp.of (k := 14) rfl
   have e13 := hp.of (k := 13) rfl
   try dsimp only at hc
   rw [e13,hi] at hc
   have hf := he.h0
   replace hf := hf.more he 14 rfl (onP e11)
   replace hf := hf.more he 16 rfl (onP e14)
   refine stRwA (enc := encA_155) (z := e_2) (xs := (s_1.set i_1.toNat e_1)) hf hc rfl rfl rfl one_encA_155 sz_155 (by simpa using getI_lt he_4) u0 fun w hc => cNil ?_
   refine xThenN ?_
   intro ds u hau
   refine ⟨θ,he.stay0 hi hau hf rfl,?_⟩
   try dsimp only
   rw [updE_tru 15 e13,updE_self E 15]
   exact hc
  ·intro E θ a w hall he hc
   have hf := he.h0
   have e13 := hall 13 rfl
   have e15 := hall 15 rfl
   replace hf := hf.more he 2 rfl (onT)
   replace hf := hf.more he 1 rfl (onT)
   replace hf := hf.more he 0 rfl (onT)
   try dsimp only at hc
   rw [e13,e15] at hc
   exact ⟨hf.keep ⟨rfl,rfl,rfl,trivial⟩,hc⟩
  rintro a w ⟨hf,hc⟩
  refine h6 _ _ ?_
  refine cReg ?_
  refine stP hf rfl rfl rfl (pM rfl) fun a hf => stP hf rfl rfl rfl (pAdd rfl rfl) fun a hf => stP hf rfl rfl rfl (pM rfl) fun a hf => stP hf rfl rfl rfl (pSub rfl rfl) fun a hf => stP hf rfl rfl rfl (pA rfl) fun a hf => stP hf rfl rfl rfl (pA rfl) fun a hf => cNil ?_
  rw [(by simp : s_1.length = ((s_1.set i_1.toNat e_1).set j_1.toNat e_2).length)] at hf
  exact hK3 (((s_1.set i_1.toNat e_1).set j_1.toNat e_2),W (i_1 + 1),W (j_1 - 1)) _ _ (Option.some.inj hF).symm ⟨hf.keep ⟨rfl,rfl,rfl,trivial⟩,hc⟩
 ·replace hF := condF hb hF
  clear hb
  refine wp_exit ?_
  refine xThen ?_
  refine xThen ?_
  have he := Option.some.inj hF
  rw [← he] at hfin3
  refine cHit ?_
  exact hr3 _ _ _ hfin3 ⟨hf.keep ⟨rfl,rfl,rfl,trivial⟩,hc⟩

def shift_behind (N : Nat) (l : List api_Span) : Option ((List (Nat → Int))) :=
 Option.bind (slices_Clone_Lapi_Span_api_Span N l) fun r =>
 Option.bind (slices_Reverse_Lapi_Span_api_Span N r) fun r_1 =>
 Option.bind (shift_reckoned N r_1) fun r_2 =>
 Option.bind (slices_Reverse_Lshift_moved_shift_moved N r_2) fun r_3 =>
 some r_3
theorem shift_behind_ok {N : Nat} {G : Pers} {Lf : List Ent} {w : World} (l : List api_Span) {l_p : Option Addr} {l_c : Nat} (h_l : Rd G 2 l_p l_c (l.map enc_api_Span)) (hc : Ctx G (Lf) w) {res : (List (Nat → Int))} (hF : shift_behind N l = some res) : Calls Try.prog 80 #[.slice l_p l.length l_c] w (fun e w => ∃ (p'1 : Option Addr) (c'1 : Nat),e = .returned (.slice p'1 res.length c'1) ∧ Ctx G (.row p'1 c'1 (res.map encA_155) 155 601::Lf) w) := by
 unfold shift_behind at hF
 refine fnIn (args := [.slice l_p l.length l_c]) Try.func80 rfl Try.ntmps80 rfl fun a hf => wp_seq_k fun K1 h1 => cReg ?_
 refine stP hf rfl rfl rfl (pA rfl) fun a hf => cNil ?_
 refine h1 _ _ ?_
 refine wp_seq_k fun K2 h2 => cReg ?_
 refine stP hf rfl rfl rfl (pM rfl) fun a hf => ?_
 obtain ⟨r,hr,hF⟩ := bnd_some hF
 refine stC (vs := [.slice l_p l.length l_c]) (caps := []) hf rfl rfl rfl en_79 rfl rfl rfl rfl (slices_Clone_Lapi_Span_api_Span_ok l h_l hc hr) ?_
 rintro _ w ⟨p_1,c_1,rfl,hc⟩
 refine ⟨_,rfl,fun a hf => ?_⟩
 refine stP hf rfl rfl rfl (pA rfl) fun a hf => cNil ?_
 refine h2 _ _ ?_
 refine wp_seq_k fun K3 h3 => cReg ?_
 refine stP hf rfl rfl rfl (pM rfl) fun a hf => ?_
 obtain ⟨r_1,hr_1,hF⟩ := bnd_some hF
 refine stC (vs := [.slice p_1 r.length c_1]) (caps := []) hf rfl rfl rfl en_43 rfl rfl rfl rfl (slices_Reverse_Lapi_Span_api_Span_ok r (hc.pick k0) hr_1) ?_
 rintro _ w ⟨rfl,hl,hc⟩
 refine ⟨_,rfl,fun a hf => ?_⟩
 try rw [← hl] at hf
 try rw [← hl] at hc
 refine cNil ?_
 refine h3 _ _ ?_
 refine wp_seq_k fun K4 h4 => cReg ?_
 refine stP hf rfl rfl rfl (pM rfl) fun a hf => ?_
 obtain ⟨r_2,hr_2,hF⟩ := bnd_some hF
 obtain ⟨G1,hle1,hrd1,hc,hth1⟩ := lend hc k0
 refine stC (vs := [.slice p_1 r_1.length c_1]) (caps := []) hf rfl rfl rfl en_108 rfl rfl rfl rfl (shift_reckoned_ok r_1 hrd1 hc hr_2) ?_
 rintro _ w ⟨p_2,c_2,rfl,hc⟩
 refine ⟨_,rfl,fun a hf => ?_⟩
 replace hc := hth1 _ _ hc
 refine stP hf rfl rfl rfl (pA rfl) fun a hf => cNil ?_
 refine h4 _ _ ?_
 refine wp_seq_k fun K5 h5 => cReg ?_
 refine stP hf rfl rfl rfl (pM rfl) fun a hf => ?_
 obtain ⟨r_3,hr_3,hF⟩ := bnd_some hF
 refine stC (vs := [.slice p_2 r_2.length c_2]) (caps := []) hf rfl rfl rfl en_112 rfl rfl rfl rfl (slices_Reverse_Lshift_moved_shift_moved_ok r_2 (hc.pick k1) hr_3) ?_
 rintro _ w ⟨rfl,hl_1,hc⟩
 refine ⟨_,rfl,fun a hf => ?_⟩
 try rw [← hl_1] at hf
 try rw [← hl_1] at hc
 refine cNil ?_
 refine h5 _ _ ?_
 refine wp_seq_k fun K6 h6 => cReg ?_
 refine stP hf rfl rfl rfl (pM rfl) fun a hf => stP hf rfl rfl rfl (pA rfl) fun a hf => cNil ?_
 refine h6 _ _ ?_
 refine wp_ret ?_
 obtain rfl := Option.some.inj hF
 replace hc := hc.drop k1
 exact fnOut1 (by simp) rfl Try.results80 hf hc (show look _ 2 = _ from rfl) ⟨p_2,c_2,rfl,hc⟩

end Go.Nilo
