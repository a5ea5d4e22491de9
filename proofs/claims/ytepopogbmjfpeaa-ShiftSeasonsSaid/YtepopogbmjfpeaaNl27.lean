/-
  Tables: own slices whose elements are own slices. The rows of a table stand at the end of the list of entries. Conditions: what each theorem names.
-/
import Derived.Test.YtepopogbmjfpeaaNl26
set_option linter.unusedSimpArgs false
set_option linter.unusedVariables false
namespace Go.Nilo
/-- A row of a table: where it lies, its room, its elements. -/
structure TR (α : Type) where
  p : Option Addr
  cap : Nat
  xs : List α
@[reducible] def TR.val {α : Type} (r : TR α) : List Value := [.slice r.p r.xs.length r.cap]
@[reducible] def TR.ent {α : Type} (enc : α → List Value) (T sz : Nat) (r : TR α) : Ent := .row r.p r.cap (r.xs.map enc) T sz
/-- The entries of all rows of a table, ahead of the rest. -/
def tabL {α : Type} (enc : α → List Value) (T sz : Nat) (rs : List (TR α)) (L : List Ent) : List Ent := rs.map (TR.ent enc T sz) ++ L
theorem tab_mem {α : Type} {enc : α → List Value} {T sz : Nat} {rs : List (TR α)} {L : List Ent} {i : Nat} {r : TR α} (h : rs[i]? = some r) (M : List Ent) : TR.ent enc T sz r ∈ M ++ tabL enc T sz rs L :=
  List.mem_append_right M (List.mem_append_left L (List.mem_map_of_mem (List.mem_of_getElem? h)))
theorem Ctx.sub {G : Pers} {L L' : List Ent} {w : World} (h : Ctx G L w) (hs : L'.Sublist L) : Ctx G L' w :=
  ⟨h.os, h.tape, h.output, h.sz, h.pers, fun e he => h.sat e (hs.subset he), fun e he => h.fresh e (hs.subset he), h.sep.sublist hs⟩
theorem erase_perm {β : Type} : ∀ {rs : List β} {i : Nat} {r : β}, rs[i]? = some r → rs.Perm (r :: rs.eraseIdx i)
  | [], _, _, h => by simp at h
  | a :: rs, 0, r, h => by
    have e : a = r := by simpa using h
    subst e; exact List.Perm.refl _
  | a :: rs, i + 1, r, h => by
    have h' : rs[i]? = some r := by simpa using h
    exact ((erase_perm h').cons a).trans (List.Perm.swap r a _)
theorem tab_perm {α : Type} {enc : α → List Value} {T sz : Nat} {rs : List (TR α)} {L : List Ent} {i : Nat} {r : TR α} (h : rs[i]? = some r) (M : List Ent) :
    (M ++ tabL enc T sz rs L).Perm (TR.ent enc T sz r :: (M ++ tabL enc T sz (rs.eraseIdx i) L)) := by
  have h1 : rs.Perm (r :: rs.eraseIdx i) := erase_perm h
  have h2 : (tabL enc T sz rs L).Perm (TR.ent enc T sz r :: tabL enc T sz (rs.eraseIdx i) L) := by
    simpa [tabL] using (h1.map (TR.ent enc T sz)).append_right L
  exact (h2.append_left M).trans List.perm_middle
/-- A row is taken out of its table. -/
theorem tab_take {α : Type} {enc : α → List Value} {T sz : Nat} {rs : List (TR α)} {G : Pers} {L : List Ent} {w : World} {i : Nat} {r : TR α} (M : List Ent)
    (hc : Ctx G (M ++ tabL enc T sz rs L) w) (h : rs[i]? = some r) : Ctx G (TR.ent enc T sz r :: (M ++ tabL enc T sz (rs.eraseIdx i) L)) w := hc.perm (tab_perm h M)
/-- A row is put into its place. -/
theorem tab_put {α : Type} {enc : α → List Value} {T sz : Nat} {rs : List (TR α)} {G : Pers} {L : List Ent} {w : World} {i : Nat} {r : TR α} (M : List Ent)
    (hi : i < rs.length) (hc : Ctx G (TR.ent enc T sz r :: (M ++ tabL enc T sz (rs.eraseIdx i) L)) w) : Ctx G (M ++ tabL enc T sz (rs.set i r) L) w := by
  have h := tab_perm (enc := enc) (T := T) (sz := sz) (L := L) (rs := rs.set i r) (i := i) (r := r) (by simp [hi]) M
  rw [List.eraseIdx_set_eq] at h
  exact hc.perm h.symm
/-- A row is added at the end. -/
theorem tab_push {α : Type} {enc : α → List Value} {T sz : Nat} {rs : List (TR α)} {G : Pers} {L : List Ent} {w : World} {r : TR α} (M : List Ent)
    (hc : Ctx G (TR.ent enc T sz r :: (M ++ tabL enc T sz rs L)) w) : Ctx G (M ++ tabL enc T sz (rs ++ [r]) L) w := by
  refine hc.perm ?_
  have h2 : (TR.ent enc T sz r :: tabL enc T sz rs L).Perm (tabL enc T sz (rs ++ [r]) L) := by
    simp only [tabL, List.map_append, List.map_cons, List.map_nil, List.append_assoc, List.cons_append, List.nil_append]
    exact List.perm_middle.symm
  exact List.perm_middle.symm.trans (h2.append_left M)
/-- A table of nil rows, as it is made. -/
theorem tab_new {α : Type} (enc : α → List Value) (T sz n : Nat) {G : Pers} {L : List Ent} {w : World} (M : List Ent) (hc : Ctx G (M ++ L) w) :
    Ctx G (M ++ tabL enc T sz (List.replicate n ⟨none, 0, []⟩) L) w := by
  induction n with
  | zero => exact hc
  | succ n ih =>
    have h := ih.nilRow T sz
    rw [List.replicate_succ']
    exact tab_push M h
/-- The rows are left behind. -/
theorem tab_drop {α : Type} {enc : α → List Value} {T sz : Nat} {rs : List (TR α)} {G : Pers} {L : List Ent} {w : World} (M : List Ent) (hc : Ctx G (M ++ tabL enc T sz rs L) w) : Ctx G (M ++ L) w :=
  hc.sub ((List.sublist_append_right _ L).append_left M)
/-! ### The rows by their heads: where the i-th row lies, and its room, as functions of i -/
abbrev Hds := Nat → Option Addr × Nat
def tabR {α : Type} (hs : Hds) : List (List α) → List (TR α)
  | [] => []
  | xs :: xss => ⟨(hs 0).1, (hs 0).2, xs⟩ :: tabR (fun j => hs (j + 1)) xss
def updH (hs : Hds) (i : Nat) (p : Option Addr) (c : Nat) : Hds := fun j => if j = i then (p, c) else hs j
theorem tabR_len {α : Type} : ∀ (hs : Hds) (xss : List (List α)), (tabR hs xss).length = xss.length
  | _, [] => rfl
  | hs, _ :: xss => by simp [tabR, tabR_len _ xss]
theorem tabR_get {α : Type} : ∀ {hs : Hds} {xss : List (List α)} {i : Nat} {xs : List α}, xss[i]? = some xs → (tabR hs xss)[i]? = some ⟨(hs i).1, (hs i).2, xs⟩
  | _, [], _, _, h => by simp at h
  | hs, a :: xss, 0, xs, h => by have e : a = xs := by simpa using h
                                 subst e; rfl
  | hs, a :: xss, i + 1, xs, h => by
    have := tabR_get (hs := fun j => hs (j + 1)) (xss := xss) (i := i) (xs := xs) (by simpa using h)
    simpa [tabR] using this
theorem tabR_getI {α : Type} {hs : Hds} {xss : List (List α)} {i : Int} {xs : List α} (h : getI xss i = some xs) : getI (tabR hs xss) i = some ⟨(hs i.toNat).1, (hs i.toNat).2, xs⟩ := by
  obtain ⟨h0, h1⟩ := getI_spec h
  have h2 := tabR_get (hs := hs) h1
  unfold getI
  simp [h0, h2]
theorem tabR_set {α : Type} : ∀ (hs : Hds) (xss : List (List α)) (i : Nat) (p : Option Addr) (c : Nat) (xs : List α), (tabR hs xss).set i ⟨p, c, xs⟩ = tabR (updH hs i p c) (xss.set i xs)
  | _, [], _, _, _, _ => rfl
  | hs, a :: xss, 0, p, c, xs => by
    simp [tabR, updH]
  | hs, a :: xss, i + 1, p, c, xs => by
    have := tabR_set (fun j => hs (j + 1)) xss i p c xs
    simp only [tabR, List.set_cons_succ, this]
    congr 1
    congr 1
    funext j
    simp [updH]
theorem tabR_new {α : Type} : ∀ n : Nat, (List.replicate n (⟨none, 0, []⟩ : TR α)) = tabR (fun _ => (none, 0)) (List.replicate n [])
  | 0 => rfl
  | n + 1 => by simp only [List.replicate_succ, tabR, tabR_new n]
theorem one_TR {α : Type} : ∀ r : TR α, (TR.val r).length = 1 ∧ ones (TR.val r) = true := fun _ => ⟨rfl, rfl⟩
/-- The rows of a table go behind other entries. -/
theorem tab_float {α : Type} {enc : α → List Value} {T sz : Nat} {rs : List (TR α)} {G : Pers} {L : List Ent} {w : World} (M M2 : List Ent)
    (hc : Ctx G (M ++ tabL enc T sz rs (M2 ++ L)) w) : Ctx G (M ++ (M2 ++ tabL enc T sz rs L)) w := by
  refine hc.perm ?_
  refine List.Perm.append_left M ?_
  unfold tabL
  rw [← List.append_assoc, ← List.append_assoc]
  exact List.perm_append_comm.append_right L
/-- A row of a table, as it lies: read only. -/
theorem tr_at {α : Type} {enc : α → List Value} {T sz : Nat} {hs : Hds} {xss : List (List α)} {G : Pers} {L : List Ent} {w : World} {i j : Int} {xs : List α} {x : α} (M : List Ent)
    (hc : Ctx G (M ++ tabL enc T sz (tabR hs xss) L) w) (hi : getI xss i = some xs) (hj : getI xs j = some x) :
    ∃ g, At (hs i.toNat).1 xs.length sz j g (j.toNat * sz) ∧ (xs.map enc)[j.toNat]? = some (enc x) ∧ Ent.row (some ⟨g, 0, none⟩) (hs i.toNat).2 (xs.map enc) T sz ∈ tabL enc T sz (tabR hs xss) L := by
  have hm := tab_mem (enc := enc) (T := T) (sz := sz) (L := L) (tabR_get (hs := hs) (getI_spec hi).2) []
  have hm' := tab_mem (enc := enc) (T := T) (sz := sz) (L := L) (tabR_get (hs := hs) (getI_spec hi).2) M
  obtain ⟨g, hg, h1, h2⟩ := row_atm hc hm' hj
  have hg' : (hs i.toNat).1 = some ⟨g, 0, none⟩ := hg
  refine ⟨g, hg' ▸ h1, h2, ?_⟩
  have h : (TR.ent enc T sz ⟨(hs i.toNat).1, (hs i.toNat).2, xs⟩) = Ent.row (some ⟨g, 0, none⟩) (hs i.toNat).2 (xs.map enc) T sz := by
    show Ent.row (hs i.toNat).1 _ _ _ _ = _
    rw [hg']
  rw [← h]; exact hm
/-- The room of a table's own block, and the heads of its rows. -/
abbrev TabH := Nat × Hds
theorem tab_make {α : Type} (enc : α → List Value) (T sz n : Nat) {eT c : Nat} {p : Option Addr} {G : Pers} {L : List Ent} {w : World} (M : List Ent)
    (hc : Ctx G (.row p c ((List.replicate n (⟨none, 0, []⟩ : TR α)).map TR.val) eT 1 :: (M ++ L)) w) :
    ∃ hs : Hds, Ctx G (.row p c ((tabR hs (List.replicate n ([] : List α))).map TR.val) eT 1 :: (M ++ tabL enc T sz (tabR hs (List.replicate n ([] : List α))) L)) w := by
  refine ⟨fun _ => (none, 0), ?_⟩
  have h := tab_new (α := α) enc T sz n (_ :: M) hc
  rw [tabR_new] at h
  exact h
theorem tab_hole {α : Type} {enc : α → List Value} {T sz : Nat} {hs : Hds} {xss : List (List α)} {G : Pers} {L : List Ent} {w : World} {i : Int} {xs : List α} (M : List Ent)
    (hc : Ctx G (M ++ tabL enc T sz (tabR hs xss) L) w) (hi : getI xss i = some xs) :
    Ctx G (.row (hs i.toNat).1 (hs i.toNat).2 (xs.map enc) T sz :: (M ++ tabL enc T sz ((tabR hs xss).eraseIdx i.toNat) L)) w :=
  tab_take M hc (tabR_get (getI_spec hi).2)
theorem tab_store {α : Type} {enc : α → List Value} {T sz : Nat} {hs : Hds} {xss : List (List α)} {G : Pers} {L : List Ent} {w : World} {i : Int} {ys xs : List α} {p p' : Option Addr} {c c' eT : Nat} (M : List Ent)
    (hi : getI xss i = some xs)
    (hc : Ctx G (.row p' c' (ys.map enc) T sz :: .row p c (((tabR hs xss).set i.toNat ⟨p', c', ys⟩).map TR.val) eT 1 :: (M ++ tabL enc T sz ((tabR hs xss).eraseIdx i.toNat) L)) w) :
    ∃ hs' : Hds, Ctx G (.row p c ((tabR hs' (xss.set i.toNat ys)).map TR.val) eT 1 :: (M ++ tabL enc T sz (tabR hs' (xss.set i.toNat ys)) L)) w := by
  refine ⟨updH hs i.toNat p' c', ?_⟩
  have hlt : i.toNat < (tabR hs xss).length := (List.getElem?_eq_some_iff.1 (tabR_get (hs := hs) (getI_spec hi).2)).1
  have h := tab_put (r := ⟨p', c', ys⟩) (_ :: M) hlt hc
  rw [tabR_set] at h
  exact h
theorem tab_swap {α β : Type} {enc : α → List Value} {enc' : β → List Value} {T sz T' sz' : Nat} {rs : List (TR α)} {rs' : List (TR β)} {G : Pers} {L : List Ent} {w : World} (M : List Ent)
    (hc : Ctx G (M ++ tabL enc T sz rs (tabL enc' T' sz' rs' L)) w) : Ctx G (M ++ tabL enc' T' sz' rs' (tabL enc T sz rs L)) w := tab_float M _ hc
theorem tab_drop2 {α β : Type} {enc : α → List Value} {enc' : β → List Value} {T sz T' sz' : Nat} {rs : List (TR α)} {rs' : List (TR β)} {G : Pers} {L : List Ent} {w : World} (M : List Ent)
    (hc : Ctx G (M ++ tabL enc T sz rs (tabL enc' T' sz' rs' L)) w) : Ctx G (M ++ tabL enc T sz rs L) w :=
  tab_drop M (tab_swap M hc)
theorem tab_mswap {α β : Type} {enc : α → List Value} {enc' : β → List Value} {T sz T' sz' : Nat} {rs : List (TR α)} {rs' : List (TR β)} {L : List Ent} {e : Ent}
    (h : e ∈ tabL enc T sz rs (tabL enc' T' sz' rs' L)) : e ∈ tabL enc' T' sz' rs' (tabL enc T sz rs L) := by
  unfold tabL at h ⊢
  rcases List.mem_append.1 h with h | h
  · exact List.mem_append_right _ (List.mem_append_left _ h)
  · rcases List.mem_append.1 h with h | h
    · exact List.mem_append_left _ h
    · exact List.mem_append_right _ (List.mem_append_right _ h)
end Go.Nilo
