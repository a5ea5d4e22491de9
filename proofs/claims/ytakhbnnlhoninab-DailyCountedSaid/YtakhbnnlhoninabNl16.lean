/-
  Parts of lists that are taken out or put in, as slices.Delete and slices.Insert do it; rows of the call's own as cells. Conditions: what each theorem names.
-/
import Derived.Test.YtakhbnnlhoninabNl15
import Derived.Deep.RegionLaw
import Derived.Lib.SliceRun
import Derived.WalkKit
import Derived.Laws.IdiomCopy
import Derived.Shelf.RegionOpenPlain
import Derived.Below
import Derived.Laws.Externs
import Derived.Lib.Overlaps
import Derived.Lib.JoinLaws
import Derived.Shelf.Spec.SlicesInsert
import Derived.Lib.AppendZerosOnto
set_option linter.unusedSimpArgs false
set_option linter.unusedVariables false
namespace Go.Nilo
def delO {α : Type} (xs : List α) (i j : Int) : Option (List α) := if 0 ≤ i ∧ i ≤ j ∧ j ≤ (xs.length : Int) then some (xs.take i.toNat ++ xs.drop j.toNat) else none
def putA (cur : Array Value) (o : Nat) : List Value → Array Value
 | [] => cur
 | v::r => putA (cur.setIfInBounds o v) (o + 1) r
theorem putA_size : ∀ (vs : List Value) (cur : Array Value) (o : Nat),(putA cur o vs).size = cur.size
 | [],_,_ => rfl
 | v::r,cur,o => by
  unfold putA
  rw [putA_size r]
  simp
theorem putA_out : ∀ (vs : List Value) (cur : Array Value) (o k : Nat),(k < o ∨ o + vs.length ≤ k) → (putA cur o vs)[k]? = cur[k]?
 | [],_,_,_,_ => rfl
 | v::r,cur,o,k,h => by
  unfold putA
  simp only [List.length_cons] at h
  rw [putA_out r _ (o + 1) k (by omega),Array.getElem?_setIfInBounds,if_neg (by omega)]
theorem putA_in : ∀ (vs : List Value) (cur : Array Value) (o k : Nat),k < vs.length → o + vs.length ≤ cur.size → (putA cur o vs)[o + k]? = vs[k]?
 | [],_,_,k,h,_ => by simp at h
 | v::r,cur,o,0,_,h2 => by
  unfold putA
  simp only [List.length_cons] at h2
  rw [putA_out r _ (o + 1) (o + 0) (by omega),Array.getElem?_setIfInBounds,if_pos (by omega),if_pos (by omega)]
  rfl
 | v::r,cur,o,k + 1,h1,h2 => by
  unfold putA
  simp only [List.length_cons] at h1 h2
  have := putA_in r (cur.setIfInBounds o v) (o + 1) k (by omega) (by simp; omega)
  rw [show o + (k + 1) = o + 1 + k by omega,this]
  rfl
theorem heap_setCells (g : Nat) : ∀ (vs : List Value) (o : Nat) (w : World) (cur : Array Value) (T : TypeId) (fr : Nat × Nat),w.heap[g]? = some (.cells cur T fr) →
  (w.setCells g o vs).heap[g]? = some (.cells (putA cur o vs) T fr) ∧ (∀ b,b ≠ g → (w.setCells g o vs).heap[b]? = w.heap[b]?) ∧ (w.setCells g o vs).heap.size = w.heap.size ∧ (w.setCells g o vs).os = w.os ∧ (w.setCells g o vs).tape = w.tape ∧ (w.setCells g o vs).output = w.output
 | [],_,_,_,_,_,h => ⟨h,fun _ _ => rfl,rfl,rfl,rfl,rfl⟩
 | v::r,o,w,cur,T,fr,h => by
  have h1 : (w.setCell ⟨g,o,none⟩ v).heap[g]? = some (.cells (cur.setIfInBounds o v) T fr) := by
   show (w.heap.modify g _)[g]? = _
   rw [Array.getElem?_modify,if_pos rfl,h]
   rfl
  obtain ⟨a1,a2,a3,a4,a5,a6⟩ := heap_setCells g r (o + 1) (w.setCell ⟨g,o,none⟩ v) _ T fr h1
  refine ⟨a1,fun b hb => (a2 b hb).trans ?_,a3.trans ?_,a4,a5,a6⟩
  ·show (w.heap.modify g _)[b]? = _
   rw [Array.getElem?_modify,if_neg (fun e => hb e.symm)]
  ·show (w.heap.modify g _).size = _
   simp

theorem row_cells {G : Pers} {L : List Ent} {w : World} {p : Option Addr} {cap T sz : Nat} {rows : List (List Value)} (hc : Ctx G (.row p cap rows T sz::L) w) :
  (p = none ∧ rows = [] ∧ cap = 0) ∨ ∃ g cur,p = some ⟨g,0,none⟩ ∧ w.heap[g]? = some (.cells cur T (0,0)) ∧ cur.size = cap * sz ∧ rows.length ≤ cap ∧ cap ≤ maxLen ∧ cur.toList.take (rows.length * sz) = rows.flatten := by
 obtain ⟨hrl,hl,h⟩ := hc.sat _ List.mem_cons_self
 rcases h with ⟨hv,h0⟩ | ⟨g,cap',cur,hv,-,hg,hn,hm,hs,ht⟩
 ·simp only [Value.slice.injEq] at hv
  exact .inl ⟨hv.1,List.eq_nil_of_length_eq_zero h0,hv.2.2⟩
 ·simp only [Value.slice.injEq] at hv
  obtain ⟨rfl,-,rfl⟩ := hv
  exact .inr ⟨g,cur,rfl,hg,hs,hn,hm,ht⟩
theorem row_after {G : Pers} {L : List Ent} {w w' : World} {g cap T sz : Nat} {rows rows' : List (List Value)} {cur' : Array Value} (hc : Ctx G (.row (some ⟨g,0,none⟩) cap rows T sz::L) w)
  (h1 : w'.os = w.os) (h2 : w'.tape = w.tape) (h3 : w'.output = w.output) (h4 : w'.heap.size = w.heap.size) (hb : ∀ b,b ≠ g → w'.heap[b]? = w.heap[b]?) (hg : w'.heap[g]? = some (.cells cur' T (0,0)))
  (hs : cur'.size = cap * sz) (hn : rows'.length ≤ cap) (hm : cap ≤ maxLen) (hr : ∀ r ∈ rows',r.length = sz) (ht : cur'.toList.take (rows'.length * sz) = rows'.flatten) : Ctx G (.row (some ⟨g,0,none⟩) cap rows' T sz::L) w' := by
 refine hc.upd h1 h2 h3 (by omega) (fun b _ hne => hb b (fun e => hne (by simp [Ent.own,e]))) ⟨hr,rows_flatten_length rows' hr,.inr ⟨g,cap,cur',rfl,Nat.zero_le _,hg,hn,hm,hs,ht⟩⟩ (fun b hbf => .inl hbf)
theorem flat_take {sz : Nat} : ∀ (rows : List (List Value)) (i : Nat),(∀ r ∈ rows,r.length = sz) → (rows.take i).flatten = rows.flatten.take (i * sz)
 | [],i,_ => by simp
 | r::rows,0,_ => by simp
 | r::rows,i + 1,h => by
  have hr : r.length = sz := h r List.mem_cons_self
  rw [List.take_succ_cons,List.flatten_cons,List.flatten_cons,flat_take rows i (fun x hx => h x (List.mem_cons_of_mem _ hx)),Nat.succ_mul,Nat.add_comm (i * sz),← hr,List.take_length_add_append]
theorem flat_drop {sz : Nat} : ∀ (rows : List (List Value)) (i : Nat),(∀ r ∈ rows,r.length = sz) → (rows.drop i).flatten = rows.flatten.drop (i * sz)
 | [],i,_ => by simp
 | r::rows,0,_ => by simp
 | r::rows,i + 1,h => by
  have hr : r.length = sz := h r List.mem_cons_self
  rw [List.drop_succ_cons,List.flatten_cons,flat_drop rows i (fun x hx => h x (List.mem_cons_of_mem _ hx)),Nat.succ_mul,Nat.add_comm (i * sz),← hr,List.drop_length_add_append]
theorem run_clear_rows {P : Program} (w : World) (t e ty : TypeId) (z : Value) (ht : P.underlying t = some (.slice e)) (hv : ∀ w,(zeroValue e).run P w = .ok z w) (h1 : ∀ n,∀ v ∈ (Builtin.zeroCells z.cells n).toList,v.oneCell' = true) (b o n c : Nat) (hn : 0 < n)
  (hc : ∀ j,j < n * z.cells.size → (w.cell? ⟨b,o + j,none⟩).isSome = true) (hf : ∀ j,j < n * z.cells.size → w.frozen? ⟨b,o + j,none⟩ = false) :
  (Builtin.clear_ #[t] ty #[.slice (some ⟨b,o,none⟩) n c]).run P w = .ok (.tuple #[]) (w.setCells b o (Builtin.zeroCells z.cells n).toList) := by
 have hl : (Builtin.zeroCells z.cells n).toList.length = n * z.cells.size := by rw [Array.length_toList,size_zeroCells]
 have hst := run_storeCells_cells (P := P) b o (Builtin.zeroCells z.cells n).toList 0 w (by rw [hl]; simpa using hc) (by rw [hl]; simpa using hf) (h1 n)
 simp only [Nat.add_zero] at hst
 obtain ⟨m,rfl⟩ : ∃ m,n = m + 1 := ⟨n - 1,by omega⟩
 simp [Builtin.clear_,run_underlying ht,hv,hst]
theorem maxLen_le {n : Nat} (h : n ≤ maxLen) : n ≤ 9223372036854775807 := by
 unfold maxLen at h
 omega
theorem flat_len {sz : Nat} {α : Type} {enc : α → List Value} (hen : ∀ x,(enc x).length = sz) (s : List α) : (s.map enc).flatten.length = s.length * sz := by
 rw [rows_flatten_length (s.map enc) (fun r hr => by obtain ⟨x,-,rfl⟩ := List.mem_map.1 hr; exact hen x),List.length_map]
theorem flat_one {sz : Nat} {α : Type} {enc : α → List Value} (hen : ∀ x,(enc x).length = sz ∧ ones (enc x) = true) (s : List α) : ∀ u ∈ (s.map enc).flatten,u.oneCell' = true := by
 intro u hu
 obtain ⟨r,hr,hu⟩ := List.mem_flatten.1 hu
 obtain ⟨x,-,rfl⟩ := List.mem_map.1 hr
 have := (hen x).2
 simp only [ones,List.all_eq_true] at this
 exact this u hu
theorem rows_uni {sz : Nat} {α : Type} {enc : α → List Value} (hen : ∀ x,(enc x).length = sz ∧ ones (enc x) = true) (s : List α) : ∀ r ∈ s.map enc,r.length = sz := by
 intro r hr
 obtain ⟨x,-,rfl⟩ := List.mem_map.1 hr
 exact (hen x).1
theorem delete_ctx {P : Program} {fid : Nat} {α : Type} {enc : α → List Value} {E sz : Nat} {zs : Nat → List Value} (hen : ∀ x,(enc x).length = sz ∧ ones (enc x) = true)
  (hsame : ∀ (p : Option Addr) (n cap i : Nat) (w : World),i ≤ n → n ≤ cap → cap ≤ 9223372036854775807 → (p = none → cap = 0) → Calls P fid #[.slice p n cap,.int .i64 i,.int .i64 i] w fun e w' => e = .returned (.slice p n cap) ∧ w' = w)
  (hdel : ∀ (g n cap i j : Nat) (cur : Array Value) (w : World),w.heap[g]? = some (.cells cur E (0,0)) → cur.size = cap * sz → n ≤ cap → cap ≤ 9223372036854775807 → i < j → j ≤ n → ∀ (news : List Value),news = (cur.toList.take (n * sz)).drop (j * sz) → (∀ u ∈ news,u.oneCell' = true) →
   Calls P fid #[.slice (some ⟨g,0,none⟩) n cap,.int .i64 i,.int .i64 j] w fun e w' => e = .returned (.slice (some ⟨g,0,none⟩) (n - (j - i)) cap) ∧ w' = (w.drew.setCells g (0 + i * sz) news).setCells g ((i + (n - j)) * sz) (zs (n - (i + (n - j)))))
  {G : Pers} {L : List Ent} {w : World} {p : Option Addr} {c : Nat} {s : List α} {i j : Int} {res : List α} (hc : Ctx G (.row p c (s.map enc) E sz::L) w) (hF : delO s i j = some res) :
  Calls P fid #[.slice p s.length c,.int .i64 i,.int .i64 j] w (fun e w => ∃ (p' : Option Addr) (c' : Nat),e = .returned (.slice p' res.length c') ∧ Ctx G (.row p' c' (res.map enc) E sz::L) w) := by
 unfold delO at hF
 split at hF
 ·rename_i hb
  obtain ⟨h0,h1,h2⟩ := hb
  obtain rfl := Option.some.inj hF
  obtain ⟨a,rfl⟩ : ∃ a : Nat,i = (a : Int) := ⟨i.toNat,by omega⟩
  obtain ⟨b,rfl⟩ : ∃ b : Nat,j = (b : Int) := ⟨j.toNat,by omega⟩
  simp only [Int.toNat_natCast]
  have hnc : s.length ≤ c ∧ c ≤ maxLen ∧ (p = none → c = 0) := by
   rcases row_cells hc with ⟨rfl,h,rfl⟩ | ⟨g,cur,rfl,-,-,h,hm,-⟩
   ·have : s = [] := by simpa using h
    subst this
    exact ⟨Nat.le_refl _,by decide,fun _ => rfl⟩
   ·rw [List.length_map] at h
    exact ⟨h,hm,fun h => by cases h⟩
  by_cases hab : a = b
  ·subst hab
   refine (hsame p s.length c a w (by omega) hnc.1 (maxLen_le hnc.2.1) hnc.2.2).mono ?_
   rintro e w' ⟨rfl,rfl⟩
   rw [List.take_append_drop]
   exact ⟨p,c,rfl,hc⟩
  ·rcases row_cells hc with ⟨rfl,h,rfl⟩ | ⟨g,cur,rfl,hg,hcs,h,hm,ht⟩
   ·have : s = [] := by simpa using h
    subst this
    simp at h2
    omega
   ·rw [List.length_map] at h ht
    have hu := rows_uni hen s
    have hn : (cur.toList.take (s.length * sz)).drop (b * sz) = ((s.map enc).drop b).flatten := by rw [ht,flat_drop _ _ hu]
    have hnl : ((cur.toList.take (s.length * sz)).drop (b * sz)).length = (s.length - b) * sz := by
     rw [ht,List.length_drop,flat_len (fun x => (hen x).1),Nat.sub_mul]
    refine (hdel g s.length c a b cur w hg hcs h (maxLen_le hm) (by omega) (by omega) _ rfl (fun u hu' => flat_one hen s u (by rw [ht] at hu'; exact List.mem_of_mem_drop hu'))).mono ?_
    rintro e w' ⟨rfl,rfl⟩
    have hlen : (s.take a ++ s.drop b).length = s.length - (b - a) := by simp; omega
    obtain ⟨a1,a2,a3,a4,a5,a6⟩ := heap_setCells g ((cur.toList.take (s.length * sz)).drop (b * sz)) (0 + a * sz) w.drew cur E (0,0) hg
    obtain ⟨b1,b2,b3,b4,b5,b6⟩ := heap_setCells g (zs (s.length - (a + (s.length - b)))) ((a + (s.length - b)) * sz) _ _ E (0,0) a1
    refine ⟨some ⟨g,0,none⟩,c,by rw [hlen],row_after hc (b4.trans a4) (b5.trans a5) (b6.trans a6) (b3.trans a3) (fun x hx => (b2 x hx).trans (a2 x hx)) b1 (by rw [putA_size,putA_size,hcs]) (by rw [List.length_map,hlen]; omega) hm (rows_uni hen _) ?_⟩
    have hres : ((s.take a ++ s.drop b).map enc).flatten = (s.map enc).flatten.take (a * sz) ++ (s.map enc).flatten.drop (b * sz) := by
     rw [List.map_append,List.flatten_append,List.map_take,List.map_drop,flat_take _ _ hu,flat_drop _ _ hu]
    have hfl := flat_len (fun x => (hen x).1) s
    have hR : ((s.take a ++ s.drop b).map enc).length * sz = a * sz + (s.length - b) * sz := by
     rw [List.length_map,hlen,← Nat.add_mul]
     congr 1
     omega
    have hAB : (a + (s.length - b)) * sz = a * sz + (s.length - b) * sz := Nat.add_mul _ _ _
    have hsb : s.length * sz = b * sz + (s.length - b) * sz := by rw [← Nat.add_mul]; congr 1; omega
    have hcap : s.length * sz ≤ c * sz := Nat.mul_le_mul_right _ h
    have hasz : a * sz ≤ b * sz := Nat.mul_le_mul_right _ (by omega)
    rw [hR,hres]
    generalize hnews : (cur.toList.take (s.length * sz)).drop (b * sz) = news at *
    have hn2 : news = (s.map enc).flatten.drop (b * sz) := by rw [← hnews,ht]
    apply List.ext_getElem?
    intro k
    rw [List.getElem?_take]
    by_cases hk : k < a * sz + (s.length - b) * sz
    ·rw [if_pos hk,Array.getElem?_toList,putA_out _ _ _ _ (by rw [hAB]; omega)]
     by_cases hk2 : k < a * sz
     ·rw [putA_out _ _ _ _ (by omega),List.getElem?_append_left (by rw [List.length_take,hfl]; omega),List.getElem?_take,if_pos hk2,← ht,List.getElem?_take,if_pos (by omega),Array.getElem?_toList]
     ·have hin := putA_in news cur (0 + a * sz) (k - a * sz) (by rw [hnl]; omega) (by rw [hnl,hcs]; omega)
      rw [show 0 + a * sz + (k - a * sz) = k by omega] at hin
      rw [hin,List.getElem?_append_right (by rw [List.length_take,hfl]; omega),List.length_take,hfl,hn2]
      congr 1
      omega
    ·rw [if_neg hk,List.getElem?_eq_none]
     rw [List.length_append,List.length_take,List.length_drop,hfl]
     omega
 ·cases hF

end Go.Nilo
