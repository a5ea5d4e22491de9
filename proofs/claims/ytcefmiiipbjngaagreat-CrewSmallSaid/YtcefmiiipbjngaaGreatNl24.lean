/-
  Rows of ints of the call's own, sorted and rid of doubles in place, as slices.Sort and slices.Compact do it. Conditions: what each theorem names.
-/
import Derived.Test.YtcefmiiipbjngaaGreatNl23
import Derived.Sort.OwnSortedInts
import Derived.Lib.SlicesCompact
import Derived.Lib.RowBridge
set_option linter.unusedSimpArgs false
set_option linter.unusedVariables false
namespace Go.Nilo
open Go.Sort
def aIq (xs:List Int):Option (List Int):=if xs.length < 4611686018427387904 then some (xs.mergeSort λx y=>decide (x≤y)) else none
def aR7 (xs:List Int):Option (List Int):=some (Go.Lib.compact xs)

theorem aAv:∀ s:List Int,((s.map aF).flatten)=s.map (Value.int .i64)
 | []=>rfl
 | x::s=>by simp [aAv s]
theorem aCz (s:List Int):∀ r ∈ s.map aF,r.length=1:=by
 intro r hr
 obtain ⟨x,-,rfl⟩:=List.mem_map.1 hr
 rfl
theorem Ctx.aheadN {G:cJ} {L:List Ent} {w:World} (h:Ctx G L w) (n:Nat):Ctx G L (Sort.ahead w n) :=
 ⟨h.os,h.tape,h.output,h.sz,h.pers,λe he=>Ent.stay (h.sat e he) λ_ _=>rfl,h.fresh,h.sep⟩
theorem aOi (cur:Array Value) (ts us:List Int) (h:(ts++us).length≤cur.size):(putCells (Value.int .i64) 0 (ts++us).toArray cur).toList.take ts.length=ts.map (Value.int .i64):=by
 have h0:=take_putCellsI cur (ts++us) h
 have h1:((putCells (Value.int .i64) 0 (ts++us).toArray cur).toList.take (ts++us).length).take ts.length=((ts++us).map (Value.int .i64)).take ts.length:=by rw [h0]
 rw [List.take_take,List.length_append,Nat.min_eq_left (Nat.le_add_right _ _)] at h1
 rw [h1,List.map_append]
 have:ts.length=(ts.map (Value.int .i64)).length:=by simp
 rw [this,List.take_left]

theorem aQe {P:Program} {fid:Nat} {E:TypeId}
  (hnil:∀ w:World,Calls P fid #[.slice none 0 0] w λe w'=>e=.returned (.tuple #[])∧∃ n,w'=Sort.ahead w n)
  (hs:∀ (blk off cap:Nat) (zs:List Int) (w:World),Holds (Value.int .i64) w blk off zs.toArray→blk < w.heap.size→zs.length < 4611686018427387904 →
   Calls P fid #[.slice (some ⟨blk,off,none⟩) zs.length cap] w λe w'=>e=.returned (.tuple #[])∧∃ n os,w'=grow (putRow (Value.int .i64) (Sort.ahead w n) blk off (zs.mergeSort λx y=>decide (x≤y)).toArray) os)
  {G:cJ} {L:List Ent} {w:World} {p:Option Addr} {c:Nat} {s res:List Int} (hc:Ctx G (.row p c (s.map aF) E 1::L) w) (hF:aIq s=some res) :
  Calls P fid #[.slice p s.length c] w (λe w=>e=.returned (.tuple #[])∧res.length=s.length∧Ctx G (.row p c (res.map aF) E 1::L) w):=by
 unfold aIq at hF
 split at hF
 case isFalse=>cases hF
 rename_i hsz
 obtain rfl:=Option.some.inj hF
 rcases aFm hc with ⟨rfl,h,rfl⟩ | ⟨g,cur,rfl,hg,hcs,h,hm,ht⟩
 ·have:s=[]:=by simpa using h
  subst this
  refine (hnil w).mono ?_
  rintro e w' ⟨rfl,n,rfl⟩
  have e0:([]:List Int).mergeSort (λx y=>decide (x≤y))=[]:=by simp [List.mergeSort]
  rw [e0]
  exact ⟨rfl,rfl,hc.aheadN n⟩
 ·rw [List.length_map] at h ht
  rw [aAv,Nat.mul_one] at ht
  have hgl:g < w.heap.size:=(Array.getElem?_eq_some_iff.1 hg).1
  refine (hs g 0 c s w (holds_of_blockI hg ht) hgl hsz).mono ?_
  rintro e w' ⟨rfl,n,os,rfl⟩
  have hlen:(s.mergeSort λx y=>decide (x≤y)).length=s.length:=List.length_mergeSort s
  generalize (s.mergeSort λx y=>decide (x≤y))=ts at *
  obtain ⟨g1,g2,g3,g4,g5⟩:=grownBy_sortedI (w:=w) (g:=g) (n:=n) (os:=os) ts.toArray
  refine ⟨rfl,hlen,hc.upd g1 g2 g3 g4 (λb hb hne=>g5 b hb (λe=>hne e.symm)) ⟨aCz ts,eI _ (aCz ts),.inr ⟨g,c,_,rfl,Nat.zero_le _,heap_sortedI _ hg,?_,hm,?_,?_⟩⟩ λb hbf=>.inl hbf⟩
  ·rw [List.length_map,hlen]; exact h
  ·simp [putCells,hcs]
  ·rw [List.length_map,aAv,Nat.mul_one]
   exact take_putCellsI cur ts (by rw [hcs]; omega)

theorem aKl {P:Program} {fid:Nat} {E:TypeId}
  (h0:∀ (a:Option Addr) (cap:Nat) (w:World),Calls P fid #[.slice a 0 cap] w λe w'=>e=.returned (.slice a 0 cap)∧w'=w)
  (hs:∀ (blk off cap:Nat) (zs:List Int) (w:World),Holds (Value.int .i64) w blk off zs.toArray→zs.length≤9223372036854775807→zs.length≤cap →
   Calls P fid #[.slice (some ⟨blk,off,none⟩) zs.length cap] w λe w'=>e=.returned (.slice (some ⟨blk,off,none⟩) (Go.Lib.compact zs).length cap) ∧
    ∃ q,w'=putRow (Value.int .i64) (Sort.ahead w q) blk off (Go.Lib.compact zs++List.replicate (zs.length - (Go.Lib.compact zs).length) 0).toArray)
  {G:cJ} {L:List Ent} {w:World} {p:Option Addr} {c:Nat} {s res:List Int} (hc:Ctx G (.row p c (s.map aF) E 1::L) w) (hF:aR7 s=some res) :
  Calls P fid #[.slice p s.length c] w (λe w=>∃ (p':Option Addr) (c':Nat),e=.returned (.slice p' res.length c')∧Ctx G (.row p' c' (res.map aF) E 1::L) w):=by
 obtain rfl:=Option.some.inj hF
 rcases aFm hc with ⟨rfl,h,rfl⟩ | ⟨g,cur,rfl,hg,hcs,h,hm,ht⟩
 ·have:s=[]:=by simpa using h
  subst this
  refine (h0 none 0 w).mono ?_
  rintro e w' ⟨rfl,rfl⟩
  exact ⟨none,0,rfl,hc⟩
 ·rw [List.length_map] at h ht
  rw [aAv,Nat.mul_one] at ht
  have hgl:g < w.heap.size:=(Array.getElem?_eq_some_iff.1 hg).1
  refine (hs g 0 c s w (holds_of_blockI hg ht) (Nat.le_trans h (aO1 hm)) h).mono ?_
  rintro e w' ⟨rfl,n,rfl⟩
  have hle:=Go.Lib.compact_length_le s
  generalize Go.Lib.compact s=ts at *
  have hus:∀ us:List Int,grow (putRow (Value.int .i64) (Sort.ahead w n) g 0 (ts++us).toArray) #[]=putRow (Value.int .i64) (Sort.ahead w n) g 0 (ts++us).toArray:=λus=>grow_empty _
  generalize hu:List.replicate (s.length - ts.length) (0:Int)=us
  have hul:(ts++us).length=s.length:=by rw [← hu]; simp; omega
  obtain ⟨g1,g2,g3,g4,g5⟩:=grownBy_sortedI (w:=w) (g:=g) (n:=n) (os:=#[]) (ts++us).toArray
  have hh:=heap_sortedI (w:=w) (n:=n) (os:=#[]) (ts++us).toArray hg
  rw [hus us] at g1 g2 g3 g4 g5 hh
  refine ⟨_,c,rfl,hc.upd g1 g2 g3 g4 (λb hb hne=>g5 b hb (λe=>hne e.symm)) ⟨aCz ts,eI _ (aCz ts),.inr ⟨g,c,_,rfl,Nat.zero_le _,hh,?_,hm,?_,?_⟩⟩ λb hbf=>.inl hbf⟩
  ·rw [List.length_map]; omega
  ·simp [putCells,hcs]
  ·rw [List.length_map,aAv,Nat.mul_one]
   exact aOi cur ts us (by rw [hcs,hul]; omega)
end Go.Nilo
