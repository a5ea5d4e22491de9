/-
  Arrays as elements of slices, whole arrays that are read, stored and cleared. Conditions: what each theorem names.
-/
import Derived.Test.YtbcaeppbfioogaaNl17
set_option linter.unusedSimpArgs false
set_option linter.unusedVariables false
namespace Go.Nilo
theorem arr_one {α : Type} {enc : α → List Value} {sz : Nat} (h : ∀ x, (enc x).length = sz ∧ ones (enc x) = true) (f : Nat → α) : ∀ n, ones (arr n enc f) = true
  | 0 => by simp [arr, ones]
  | n + 1 => by
    have ih := arr_one h f n
    have h2 := (h (f n)).2
    simp only [ones] at ih h2 ⊢
    rw [arr_succ, List.all_append, ih, h2]
    rfl
/-- A whole array as a list of cells. -/
theorem catc_one {α : Type} {enc : α → List Value} {sz : Nat} (h : ∀ x, (enc x).length = sz ∧ ones (enc x) = true) (n : Nat) (f : Nat → α) : (catc [] n enc f []).length = n * sz ∧ ones (catc [] n enc f []) = true := by
  refine ⟨by simp [catc, arr_len (fun x => (h x).1)], ?_⟩
  have := arr_one h f n
  simpa [catc] using this
theorem catc_cell {α : Type} {enc : α → List Value} {sz n j : Nat} {f : Nat → α} {i : Int} {un : Unit} {u : Value} (hz : ∀ x, (enc x).length = sz) (hi : inR i n = some un) (hu : (enc (f i.toNat))[j]? = some u) : (catc [] n enc f [])[i.toNat * sz + j]? = some u := by
  obtain ⟨h0, h1⟩ := inR_spec hi
  have hj : j < sz := by rw [← hz (f i.toNat)]; exact (List.getElem?_eq_some_iff.1 hu).1
  have := arr_get hz f hj n (i := i.toNat) (by omega)
  simp only [catc, List.nil_append, List.append_nil]
  rw [this, hu]
theorem takeW {α : Type} {l : List α} {n : Nat} (h : l.length = n) : (l.drop 0).take n = l := by
  subst h
  simp
theorem splW {cs vs : List Value} (h : cs.length = vs.length) : spl cs 0 vs = vs := by
  have : ∀ (vs cs A : List Value), cs.length = vs.length → spl (A ++ cs) A.length vs = A ++ vs := by
    intro vs
    induction vs with
    | nil =>
      intro cs A h
      have : cs = [] := List.eq_nil_of_length_eq_zero h
      subst this
      simp [spl_nil]
    | cons v vs ih =>
      intro cs A h
      cases cs with
      | nil => simp at h
      | cons c cs =>
        rw [spl_cons v vs _ _ (by simp)]
        have e : (A ++ c :: cs).set A.length v = (A ++ [v]) ++ cs := by
          rw [List.set_append]
          simp
        have := ih cs (A ++ [v]) (by simpa using h)
        rw [e]
        simp only [List.length_append, List.length_cons, List.length_nil, Nat.zero_add] at this
        rw [this]
        simp
  have := this vs cs [] h
  simpa using this
theorem rd_elem {α : Type} {G : Pers} {cap n sz : Nat} {m : Nat} {g : Nat} {enc : α → List Value} {xs : List (Nat → α)} {i : Int} {f : Nat → α} (h : Rd G m (some ⟨g, 0, none⟩) cap (xs.map fun f => catc [] n enc f [])) (hm : n * sz = m) (hz : ∀ x, (enc x).length = sz) (hn : Nat.ble n 1000000 = true) (hi : getI xs i = some f) :
    Rd G sz (some ⟨g, i.toNat * m, none⟩) n ((aL n f).map enc) := by
  obtain ⟨h0, hx⟩ := getI_spec hi
  have hn' : n ≤ 1000000 := Nat.le_of_ble_eq_true hn
  obtain ⟨a1, a2, a3, a4⟩ := h
  refine ⟨by simp [aL], by simp only [maxLen]; omega, ?_, ?_⟩
  · intro r hr
    obtain ⟨x, -, rfl⟩ := List.mem_map.1 hr
    exact hz x
  · rcases a4 with a4 | ⟨b, o, hp, cur, T, fr, hg, hr⟩
    · have : xs = [] := by simpa using a4
      subst this
      simp at hx
    · simp only [Option.some.injEq, Addr.mk.injEq, and_true] at hp
      obtain ⟨rfl, rfl⟩ := hp
      refine .inr ⟨g, _, rfl, cur, T, fr, hg, ?_⟩
      intro k r hk j u hu
      have hkn : k < n := by
        have := (List.getElem?_eq_some_iff.1 hk).1
        simpa [aL] using this
      have hre : r = enc (f k) := by
        simp [aL, hkn] at hk
        exact hk.symm
      subst hre
      have hj : j < sz := by
        rw [← hz (f k)]
        exact (List.getElem?_eq_some_iff.1 hu).1
      have h1 := arr_get (enc := enc) hz f hj n hkn
      have h2 := hr i.toNat (catc [] n enc f []) (by simp [hx]) (k * sz + j) u (by simp only [catc, List.nil_append, List.append_nil]; rw [h1, hu])
      rw [Nat.zero_add] at h2
      rw [Nat.add_assoc]
      exact h2

/-! ### Arrays that are cleared -/
theorem zeros_arr {α : Type} {enc : α → List Value} {x : α} {v : Value} (h : enc x = [v]) : ∀ n, (Builtin.zeroCells #[v] n).toList = arr n enc (fun _ => x)
  | 0 => by simp [Builtin.zeroCells, arr]
  | n + 1 => by
    have ih := zeros_arr h n
    rw [arr_succ, ← ih, h]
    simp [Builtin.zeroCells, Array.range_succ, Nat.mod_one]
section steps
variable {P : Program} {ops : Array Oper} {Q : Exit → Act → World → Prop} {rest : List Oper} {a : Act} {w : World} {N : Fm} {d : Nat} {F : List (Nat × Value)} {G : Pers} {L L' : List Ent}
  {ty : TypeId} {pos : String} {aft : Array Edge} {gd : Option (Nat × Bool)} {x y : Operand} {T : TypeId}
theorem zero_runA {P : Program} {e : TypeId} {z : Value} (h : (P.info? e).map (·.zero) = some (some z)) (w : World) : (zeroValue e).run P w = .ok z w := by
  cases hi : P.info? e with
  | none => simp [hi] at h
  | some i =>
    have hz : i.zero = some z := by simpa [hi] using h
    simp [zeroValue, typeInfo, hi, hz]
/-- 'clear' on a slice of a whole array in a box of the call's own. -/
theorem stClA {α : Type} {b n T0 e c m : Nat} {p : Option Addr} {enc : α → List Value} {f : Nat → α} {x0 : α} {v : Value} {dd : Option Nat} (hf : Has N a F) (hc : Ctx G L w) (hg : gval ops F ⟨some d, .call { callee := .builtin .clear, args := #[x], argTypes := #[T] }, ty, pos, aft, gd⟩ = some true)
    (hN : Nat.blt d N.n = true) (hT : P.underlying T = some (.slice e)) (hz : (P.info? e).map (·.zero) = some (some v)) (hvc : v.cells = #[v]) (hv1 : v.oneCell' = true) (hx : ev F x = some (.slice p m c)) (hp : p = some ⟨b, 0, none⟩) (hm : m = n) (hn : Nat.blt 0 n = true)
    (hen : enc x0 = [v]) (hlen : ∀ x, (enc x).length = 1)
    (hu : Upd L (.box b (catc [] n enc f []) T0) (.box b (catc [] n enc (fun _ => x0) []) T0) L')
    (k : ∀ a w, Has N a ((d, .tuple #[]) :: F) → Ctx G L' w → wpList P ops Q rest a w) : wpList P ops Q (⟨some d, .call { callee := .builtin .clear, args := #[x], argTypes := #[T] }, ty, pos, aft, gd⟩ :: rest) a w := by
  subst hp
  subst hm
  have hm0 : 0 < m := by simpa using hn
  refine wpList_step fun K hK => ?_
  rw [gval_spec hf hg, if_pos rfl]
  have hb : w.heap[b]? = some (.cells (catc [] m enc f []).toArray T0 (0, 0)) := hc.sat _ hu.mem
  have hcl : (catc [] m enc f []).length = m := by simp [catc, arr_len hlen]
  have hzl : (Builtin.zeroCells v.cells m).toList = arr m enc (fun _ => x0) := by rw [hvc]; exact zeros_arr hen m
  have hal : (arr m enc (fun _ => x0)).length = m := by rw [arr_len hlen]; omega
  have hvs : v.cells.size = 1 := by rw [hvc]; rfl
  have hone : ∀ n, ∀ u ∈ (Builtin.zeroCells v.cells n).toList, u.oneCell' = true := by
    intro n u hu
    rw [hvc, zeros_arr hen n] at hu
    simp only [arr, List.mem_flatMap] at hu
    obtain ⟨k, -, hu⟩ := hu
    rw [hen] at hu
    simp only [List.mem_singleton] at hu
    rw [hu]
    exact hv1
  have hr := run_clear_rows (P := P) w T e ty v hT (zero_runA hz) hone b 0 m c hm0 (fun j hj => by
    rw [hvs] at hj
    simp only [World.cell?, hb]
    rw [Nat.zero_add, List.getElem?_toArray, List.getElem?_eq_getElem (by rw [hcl]; omega)]
    rfl) (fun j _ => by simp [World.frozen?, hb])
  rw [hzl] at hr
  have hr' : (execOp a.eval ⟨some d, .call { callee := .builtin .clear, args := #[x], argTypes := #[T] }, ty, pos, aft, gd⟩).run P w = .ok (.value (.tuple #[])) (w.setCells b 0 (arr m enc (fun _ => x0))) := by
    simp only [execOp, resolve, List.map_toArray, List.map_cons, List.map_nil, hf.ev hx, Sem.run_bind, Sem.run_pure, Result.andThen_ok, invoke, builtin, hr]
  unfold Oper.wp
  rw [hr', Oper.upon_value]
  obtain ⟨h1, h2, h3, h4, h5, h6⟩ := heap_setCells b (arr m enc (fun _ => x0)) 0 w _ T0 (0, 0) hb
  refine hK _ _ (k _ _ (hf.put hN _) (hc.updAt hu h4 h5 h6 (Nat.le_of_eq h3.symm) (fun k hk hne => h2 k (fun e => hne (by simp [Ent.foot, e]))) ?_ (fun k hk => .inl hk)))
  show (w.setCells b 0 (arr m enc (fun _ => x0))).heap[b]? = some (.cells (catc [] m enc (fun _ => x0) []).toArray T0 (0, 0))
  rw [h1]
  have hput : ∀ (vs : List Value) (A cs : List Value), cs.length = vs.length → putA (A ++ cs).toArray A.length vs = (A ++ vs).toArray := by
    intro vs
    induction vs with
    | nil =>
      intro A cs h
      have : cs = [] := List.eq_nil_of_length_eq_zero h
      subst this
      simp [putA]
    | cons v vs ih =>
      intro A cs h
      cases cs with
      | nil => simp at h
      | cons c cs =>
        have := ih (A ++ [v]) cs (by simpa using h)
        simp only [List.length_append, List.length_cons, List.length_nil, Nat.zero_add] at this
        simp only [putA]
        have e : ((A ++ c :: cs).toArray.setIfInBounds A.length v) = ((A ++ [v]) ++ cs).toArray := by
          apply Array.ext'
          simp [List.set_append]
        rw [e, this]
        simp
  have := hput (arr m enc (fun _ => x0)) [] (catc [] m enc f []) (by rw [hcl, hal])
  simp only [List.length_nil] at this
  have e : putA (catc [] m enc f []).toArray 0 (arr m enc fun _ => x0) = ([] ++ arr m enc fun _ => x0).toArray := this
  rw [e]
  simp [catc]
end steps
end Go.Nilo
