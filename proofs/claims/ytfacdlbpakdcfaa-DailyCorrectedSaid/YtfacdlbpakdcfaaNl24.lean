/-
  Rows of ints of the call's own, sorted and rid of doubles in place, as slices.Sort and slices.Compact do it. Conditions: what each theorem names.
-/
import Derived.Test.YtfacdlbpakdcfaaNl23
import Derived.Sort.OwnSortedInts
import Derived.Lib.SlicesCompact
import Derived.Lib.RowBridge
set_option linter.unusedSimpArgs false
set_option linter.unusedVariables false
namespace Go.Nilo
open Go.Sort
def sortO (xs : List Int) : Option (List Int) := if xs.length < 4611686018427387904 then some (xs.mergeSort fun x y => decide (x ≤ y)) else none
def compO (xs : List Int) : Option (List Int) := some (Go.Lib.compact xs)

theorem ints_flat : ∀ s : List Int,((s.map encI_i64).flatten) = s.map (Value.int .i64)
 | [] => rfl
 | x::s => by simp [ints_flat s]
theorem ints_rows (s : List Int) : ∀ r ∈ s.map encI_i64,r.length = 1 := by
 intro r hr
 obtain ⟨x,-,rfl⟩ := List.mem_map.1 hr
 rfl
theorem Ctx.aheadN {G : Pers} {L : List Ent} {w : World} (h : Ctx G L w) (n : Nat) : Ctx G L (Sort.ahead w n) :=
 ⟨h.os,h.tape,h.output,h.sz,h.pers,fun e he => Ent.stay (h.sat e he) fun _ _ => rfl,h.fresh,h.sep⟩
theorem take_putI (cur : Array Value) (ts us : List Int) (h : (ts ++ us).length ≤ cur.size) : (putCells (Value.int .i64) 0 (ts ++ us).toArray cur).toList.take ts.length = ts.map (Value.int .i64) := by
 have h0 := take_putCellsI cur (ts ++ us) h
 have h1 : ((putCells (Value.int .i64) 0 (ts ++ us).toArray cur).toList.take (ts ++ us).length).take ts.length = ((ts ++ us).map (Value.int .i64)).take ts.length := by rw [h0]
 rw [List.take_take,List.length_append,Nat.min_eq_left (Nat.le_add_right _ _)] at h1
 rw [h1,List.map_append]
 have : ts.length = (ts.map (Value.int .i64)).length := by simp
 rw [this,List.take_left]

theorem sort_ctx {P : Program} {fid : Nat} {E : TypeId}
  (hnil : ∀ w : World,Calls P fid #[.slice none 0 0] w fun e w' => e = .returned (.tuple #[]) ∧ ∃ n,w' = Sort.ahead w n)
  (hs : ∀ (blk off cap : Nat) (zs : List Int) (w : World),Holds (Value.int .i64) w blk off zs.toArray → blk < w.heap.size → zs.length < 4611686018427387904 →
   Calls P fid #[.slice (some ⟨blk,off,none⟩) zs.length cap] w fun e w' => e = .returned (.tuple #[]) ∧ ∃ n os,w' = grow (putRow (Value.int .i64) (Sort.ahead w n) blk off (zs.mergeSort fun x y => decide (x ≤ y)).toArray) os)
  {G : Pers} {L : List Ent} {w : World} {p : Option Addr} {c : Nat} {s res : List Int} (hc : Ctx G (.row p c (s.map encI_i64) E 1::L) w) (hF : sortO s = some res) :
  Calls P fid #[.slice p s.length c] w (fun e w => e = .returned (.tuple #[]) ∧ res.length = s.length ∧ Ctx G (.row p c (res.map encI_i64) E 1::L) w) := by
 unfold sortO at hF
 split at hF
 case isFalse => cases hF
 rename_i hsz
 obtain rfl := Option.some.inj hF
 rcases row_cells hc with ⟨rfl,h,rfl⟩ | ⟨g,cur,rfl,hg,hcs,h,hm,ht⟩
 ·have : s = [] := by simpa using h
  subst this
  refine (hnil w).mono ?_
  rintro e w' ⟨rfl,n,rfl⟩
  have e0 : ([] : List Int).mergeSort (fun x y => decide (x ≤ y)) = [] := by simp [List.mergeSort]
  rw [e0]
  exact ⟨rfl,rfl,hc.aheadN n⟩
 ·rw [List.length_map] at h ht
  rw [ints_flat,Nat.mul_one] at ht
  have hgl : g < w.heap.size := (Array.getElem?_eq_some_iff.1 hg).1
  refine (hs g 0 c s w (holds_of_blockI hg ht) hgl hsz).mono ?_
  rintro e w' ⟨rfl,n,os,rfl⟩
  have hlen : (s.mergeSort fun x y => decide (x ≤ y)).length = s.length := List.length_mergeSort s
  generalize (s.mergeSort fun x y => decide (x ≤ y)) = ts at *
  obtain ⟨g1,g2,g3,g4,g5⟩ := grownBy_sortedI (w := w) (g := g) (n := n) (os := os) ts.toArray
  refine ⟨rfl,hlen,hc.upd g1 g2 g3 g4 (fun b hb hne => g5 b hb (fun e => hne e.symm)) ⟨ints_rows ts,rows_flatten_length _ (ints_rows ts),.inr ⟨g,c,_,rfl,Nat.zero_le _,heap_sortedI _ hg,?_,hm,?_,?_⟩⟩ fun b hbf => .inl hbf⟩
  ·rw [List.length_map,hlen]; exact h
  ·simp [putCells,hcs]
  ·rw [List.length_map,ints_flat,Nat.mul_one]
   exact take_putCellsI cur ts (by rw [hcs]; omega)

theorem compact_ctx {P : Program} {fid : Nat} {E : TypeId}
  (h0 : ∀ (a : Option Addr) (cap : Nat) (w : World),Calls P fid #[.slice a 0 cap] w fun e w' => e = .returned (.slice a 0 cap) ∧ w' = w)
  (hs : ∀ (blk off cap : Nat) (zs : List Int) (w : World),Holds (Value.int .i64) w blk off zs.toArray → zs.length ≤ 9223372036854775807 → zs.length ≤ cap →
   Calls P fid #[.slice (some ⟨blk,off,none⟩) zs.length cap] w fun e w' => e = .returned (.slice (some ⟨blk,off,none⟩) (Go.Lib.compact zs).length cap) ∧
    ∃ q,w' = putRow (Value.int .i64) (Sort.ahead w q) blk off (Go.Lib.compact zs ++ List.replicate (zs.length - (Go.Lib.compact zs).length) 0).toArray)
  {G : Pers} {L : List Ent} {w : World} {p : Option Addr} {c : Nat} {s res : List Int} (hc : Ctx G (.row p c (s.map encI_i64) E 1::L) w) (hF : compO s = some res) :
  Calls P fid #[.slice p s.length c] w (fun e w => ∃ (p' : Option Addr) (c' : Nat),e = .returned (.slice p' res.length c') ∧ Ctx G (.row p' c' (res.map encI_i64) E 1::L) w) := by
 obtain rfl := Option.some.inj hF
 rcases row_cells hc with ⟨rfl,h,rfl⟩ | ⟨g,cur,rfl,hg,hcs,h,hm,ht⟩
 ·have : s = [] := by simpa using h
  subst this
  refine (h0 none 0 w).mono ?_
  rintro e w' ⟨rfl,rfl⟩
  exact ⟨none,0,rfl,hc⟩
 ·rw [List.length_map] at h ht
  rw [ints_flat,Nat.mul_one] at ht
  have hgl : g < w.heap.size := (Array.getElem?_eq_some_iff.1 hg).1
  refine (hs g 0 c s w (holds_of_blockI hg ht) (Nat.le_trans h (maxLen_le hm)) h).mono ?_
  rintro e w' ⟨rfl,n,rfl⟩
  have hle := Go.Lib.compact_length_le s
  generalize Go.Lib.compact s = ts at *
  have hus : ∀ us : List Int,grow (putRow (Value.int .i64) (Sort.ahead w n) g 0 (ts ++ us).toArray) #[] = putRow (Value.int .i64) (Sort.ahead w n) g 0 (ts ++ us).toArray := fun us => grow_empty _
  generalize hu : List.replicate (s.length - ts.length) (0 : Int) = us
  have hul : (ts ++ us).length = s.length := by rw [← hu]; simp; omega
  obtain ⟨g1,g2,g3,g4,g5⟩ := grownBy_sortedI (w := w) (g := g) (n := n) (os := #[]) (ts ++ us).toArray
  have hh := heap_sortedI (w := w) (n := n) (os := #[]) (ts ++ us).toArray hg
  rw [hus us] at g1 g2 g3 g4 g5 hh
  refine ⟨_,c,rfl,hc.upd g1 g2 g3 g4 (fun b hb hne => g5 b hb (fun e => hne e.symm)) ⟨ints_rows ts,rows_flatten_length _ (ints_rows ts),.inr ⟨g,c,_,rfl,Nat.zero_le _,hh,?_,hm,?_,?_⟩⟩ fun b hbf => .inl hbf⟩
  ·rw [List.length_map]; omega
  ·simp [putCells,hcs]
  ·rw [List.length_map,ints_flat,Nat.mul_one]
   exact take_putI cur ts us (by rw [hcs,hul]; omega)
end Go.Nilo
