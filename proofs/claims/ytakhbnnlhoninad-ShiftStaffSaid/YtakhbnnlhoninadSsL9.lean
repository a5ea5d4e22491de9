/-
  What the plain functions compute, in plain arithmetic, part 9. Conditions: what each theorem names.
-/
import Derived.Test.YtakhbnnlhoninadSsL8
set_option linter.unusedSimpArgs false
set_option linter.unusedVariables false
namespace Go.Nilo
def s00 : api_Span := ⟨0,0⟩
def t00 : Nat → Int := fun _ => 0
structure VL (l : List api_Span) : Prop where
 l1 : 1 ≤ l.length
 l32 : l.length ≤ 32
 ok : ∀ s ∈ l,SOkS s
theorem VL.at_ {l : List api_Span} (h : VL l) {i : Nat} (hi : i < l.length) : SOkS (l.getD i s00) := by
 rw [← get_getD hi]
 exact h.ok _ (List.getElem_mem _)
theorem VL.rev {l : List api_Span} (h : VL l) : VL l.reverse := ⟨by rw [List.length_reverse]; exact h.l1,by rw [List.length_reverse]; exact h.l32,fun s hs => h.ok s (List.mem_reverse.1 hs)⟩
theorem take_rev {l : List api_Span} {i : Nat} (h : i < l.length) : (l.take (i + 1)).reverse = l.getD i s00::(l.take i).reverse := by
 rw [List.take_succ_eq_append_getElem h,List.reverse_append,get_getD (d := s00) h]
 rfl
def aheadG (l : List api_Span) (i : Nat) : Int → Int := restF ((l.take (i + 1)).reverse)
def restG (l : List api_Span) (i : Nat) : Int → Int := restF (l.drop i)
def aheads (l : List api_Span) : List (Nat → Int) := (List.range l.length).map fun i => tabF (l.getD i s00) (aheadG l i)
def rests (l : List api_Span) : List (Nat → Int) := (List.range l.length).map fun i => tabF (l.getD i s00) (restG l i)
theorem aheadG_bd {l : List api_Span} (h : VL l) {i : Nat} (hi : i < l.length) {y : Int} (h1 : (l.getD i s00).Lo ≤ y) (h2 : y ≤ (l.getD i s00).Hi) : 0 ≤ aheadG l i y ∧ aheadG l i y ≤ 20000 := by
 have hs := h.at_ hi
 have h32 := h.l32
 unfold aheadG
 rcases restF_bd ((l.take (i + 1)).reverse) y (fun s hs => h.ok s (List.mem_of_mem_take (List.mem_reverse.1 hs))) (by unfold SOkS at hs; omega) with ⟨k1,k2⟩ | k
 ·rw [List.length_reverse,List.length_take] at k2
  omega
 ·rw [take_rev hi] at k
  cases k
theorem restG_bd {l : List api_Span} (h : VL l) {i : Nat} (hi : i < l.length) {y : Int} (h1 : (l.getD i s00).Lo ≤ y) (h2 : y ≤ (l.getD i s00).Hi) : 0 ≤ restG l i y ∧ restG l i y ≤ 20000 := by
 have hs := h.at_ hi
 have h32 := h.l32
 unfold restG
 rcases restF_bd (l.drop i) y (fun s hs => h.ok s (List.mem_of_mem_drop hs)) (by unfold SOkS at hs; omega) with ⟨k1,k2⟩ | k
 ·rw [List.length_drop] at k2
  omega
 ·have := congrArg List.length k
  rw [List.length_drop] at this
  simp at this
  omega
theorem range_succ_map {α : Type} (f : Nat → α) (n : Nat) : (List.range (n + 1)).map f = (List.range n).map f ++ [f n] := by rw [List.range_succ,List.map_append]; rfl
theorem reckoned_spec {N : Nat} (hN : 700 ≤ N) {l : List api_Span} (h : VL l) : shift_reckoned N l = some (aheads l) := by
 have h1 := h.l1
 have h32 := h.l32
 unfold shift_reckoned
 rw [show (0 : Int) = ((0 : Nat) : Int) from rfl,getI_d s00 (by omega),Option.bind_some,start_spec hN,Option.bind_some]
 have hsub : subO l 1 ((l.length : Nat) : Int) = some ((l.drop 1).take (l.length - 1)) := by
  unfold subO
  rw [if_pos (by omega)]
  congr 1
 rw [hsub,Option.bind_some]
 have hlen : ((l.drop 1).take (l.length - 1)).length = l.length - 1 := by simp
 have hget : ∀ i,i < l.length - 1 → getI ((l.drop 1).take (l.length - 1)) (i : Int) = some (l.getD (i + 1) s00) := fun i hi => by
  rw [getI_nat (by rw [hlen]; exact hi),List.getElem_take,List.getElem_drop,get_getD (d := s00),Nat.add_comm 1 i]
 have h0 : tabF (l.getD 0 s00) (fun _ => 0) = tabF (l.getD 0 s00) (aheadG l 0) := by
  congr 1
  funext x
  unfold aheadG
  rw [take_rev (by omega)]
  rfl
 rw [h0]
 have := runS (ρ := List (Nat → Int)) (fun i : Nat => (((List.range (i + 1)).map fun i => tabF (l.getD i s00) (aheadG l i),(i : Int),tabF (l.getD i s00) (aheadG l i)) : List (Nat → Int) × Int × (Nat → Int))) (l.length - 1) (fun s6 => shift_reckoned_b6 N ((l.drop 1).take (l.length - 1)) s6.1 s6.2.1 s6.2.2) (fun i hi => by
  show shift_reckoned_b6 N ((l.drop 1).take (l.length - 1)) _ (i : Int) (tabF (l.getD i s00) (aheadG l i)) = _
  unfold shift_reckoned_b6
  rw [hlen,lt_dec hi,cond_true,hget i hi,Option.bind_some,on_spec hN (h.at_ (by omega)) (fun y h1 h2 => aheadG_bd h (by omega) h1 h2),Option.bind_some,room_ok (by simp; omega),Option.bind_some,W_succ (by omega)]
  have e : (fun x => minN (fun y => ap x y + aheadG l i y) (l.getD i s00).Lo ((l.getD i s00).Hi - (l.getD i s00).Lo).toNat) = aheadG l (i + 1) := by
   funext x
   unfold aheadG
   rw [take_rev (show i + 1 < l.length by omega),take_rev (show i < l.length by omega)]
   rfl
  rw [e,range_succ_map _ (i + 1)]) (by
  show shift_reckoned_b6 N ((l.drop 1).take (l.length - 1)) _ ((l.length - 1 : Nat) : Int) _ = _
  unfold shift_reckoned_b6
  rw [hlen,ge_dec,cond_false]) (N := N) (by omega)
 have e0 : ([tabF (l.getD 0 s00) (aheadG l 0)] : List (Nat → Int)) = (List.range (0 + 1)).map fun i => tabF (l.getD i s00) (aheadG l i) := rfl
 rw [e0,this,Option.bind_some]
 show some _ = some _
 unfold aheads
 rw [Nat.sub_add_cancel h1]
theorem rev_s {N : Nat} {xs : List api_Span} (hl : xs.length ≤ 600) (hN : 700 ≤ N) : slices_Reverse_Lapi_Span_api_Span N xs = some xs.reverse := by
 unfold slices_Reverse_Lapi_Span_api_Span
 obtain ⟨i,j,h⟩ := rev_loop (ρ := List api_Span) s00 (fun s3 => slices_Reverse_Lapi_Span_api_Span_b3 N s3.1 s3.2.1 s3.2.2) (fun s i j => rfl) (N := N) (xs := xs) (by omega) (by omega)
 rw [h,Option.bind_some]
 simp only [exK]
 unfold sameL
 rw [if_pos (by simp),Option.bind_some]
theorem rev_t {N : Nat} {xs : List (Nat → Int)} (hl : xs.length ≤ 600) (hN : 700 ≤ N) : slices_Reverse_Lshift_moved_shift_moved N xs = some xs.reverse := by
 unfold slices_Reverse_Lshift_moved_shift_moved
 obtain ⟨i,j,h⟩ := rev_loop (ρ := List (Nat → Int)) t00 (fun s3 => slices_Reverse_Lshift_moved_shift_moved_b3 N s3.1 s3.2.1 s3.2.2) (fun s i j => rfl) (N := N) (xs := xs) (by omega) (by omega)
 rw [h,Option.bind_some]
 simp only [exK]
 unfold sameL
 rw [if_pos (by simp),Option.bind_some]
theorem behind_spec {N : Nat} (hN : 700 ≤ N) {l : List api_Span} (h : VL l) : shift_behind N l = some (rests l) := by
 have h1 := h.l1
 have h32 := h.l32
 unfold shift_behind
 have hc : slices_Clone_Lapi_Span_api_Span N l = some l := by
  unfold slices_Clone_Lapi_Span_api_Span
  rw [room_ok (by omega)]
  rfl
 rw [hc,Option.bind_some,rev_s (by omega) hN,Option.bind_some,reckoned_spec hN h.rev,Option.bind_some,rev_t (by simp [aheads]; omega) hN,Option.bind_some]
 congr 1
 refine List.ext_getElem (by simp [aheads,rests]) fun i a b => ?_
 have hi : i < l.length := by simpa [rests] using b
 rw [List.getElem_reverse]
 simp only [aheads,rests,List.length_map,List.length_range,List.length_reverse,List.getElem_map,List.getElem_range]
 have e1 : l.reverse.getD (l.length - 1 - i) s00 = l.getD i s00 := by
  rw [← get_getD (by rw [List.length_reverse]; omega),List.getElem_reverse,get_getD (d := s00)]
  congr 1
  omega
 have e2 : aheadG l.reverse (l.length - 1 - i) = restG l i := by
  unfold aheadG restG
  rw [List.take_reverse,List.reverse_reverse]
  congr 2
  omega
 rw [e1,e2]
def canP (l : List api_Span) (most : Int) (i : Nat) (x : Int) : Bool := decide ((l.getD i s00).Lo ≤ x ∧ x ≤ (l.getD i s00).Hi) && decide (aheadG l i x + restG l i x ≤ most)
def cspan (l : List api_Span) (most : Int) (i : Nat) : api_Span := ⟨(spanN (canP l most i) 601).1,(spanN (canP l most i) 601).2⟩
def canF (l : List api_Span) (most : Int) : List api_Span := (List.range l.length).map (cspan l most)
theorem tabs_get {l : List api_Span} {G : List api_Span → Nat → Int → Int} {i : Nat} (hi : i < l.length) : getI ((List.range l.length).map fun i => tabF (l.getD i s00) (G l i)) (i : Int) = some (tabF (l.getD i s00) (G l i)) := by
 rw [getI_nat (by simpa using hi)]
 simp
theorem can_run {N : Nat} (hN : 700 ≤ N) {l : List api_Span} (h : VL l) {most : Int} {i : Nat} (hi : i < l.length) :
  shift_shifts_1 N (rY (fun (zz : Int × Int) (ix_ : (Int × Int)) => shift_can_r15 N most (aheads l) (rests l) (i : Int) zz.1 zz.2 ix_.1 ix_.2)) (.go (1,0)) = some (.go ((cspan l most i).Lo,(cspan l most i).Hi)) := by
 have := shifts_run hN (rY (fun (zz : Int × Int) (ix_ : (Int × Int)) => shift_can_r15 N most (aheads l) (rests l) (i : Int) zz.1 zz.2 ix_.1 ix_.2)) (fun k => .go (spanN (canP l most i) k)) (fun k hk => by
  show Option.map _ (shift_can_r15 N most (aheads l) (rests l) (i : Int) (spanN (canP l most i) k).1 (spanN (canP l most i) k).2 (k : Int) ((k : Int) - 300)) = _
  unfold shift_can_r15
  have hP : (Option.bind (getI (aheads l) (i : Int)) fun e_1 => Option.bind (inR (k : Int) 601) fun un => cond ((e_1 (k : Int).toNat) != 1073741824) (Option.bind (getI (rests l) (i : Int)) fun e_2 => some (decide ((W ((e_1 (k : Int).toNat) + (e_2 (k : Int).toNat))) ≤ most))) (some false)) = some (canP l most i ((k : Int) - 300)) := by
   unfold aheads rests
   rw [tabs_get hi,Option.bind_some,inR_ok hk,Option.bind_some,Int.toNat_natCast,tabs_get hi,Option.bind_some]
   unfold tabF canP
   rw [if_pos hk,if_pos hk]
   by_cases hin : (l.getD i s00).Lo ≤ (k : Int) - 300 ∧ (k : Int) - 300 ≤ (l.getD i s00).Hi
   ·have b1 := aheadG_bd h hi hin.1 hin.2
    have b2 := restG_bd h hi hin.1 hin.2
    rw [if_pos hin,if_pos hin,dT hin,Bool.true_and,W_sm (by omega) (by omega)]
    have : (aheadG l i ((k : Int) - 300) != 1073741824) = true := by simp; omega
    rw [this,cond_true]
   ·rw [if_neg hin,if_neg hin,dF hin,Bool.false_and]
    rfl
  rw [hP,Option.bind_some]
  rw [show spanN (canP l most i) (k + 1) = if canP l most i ((k : Int) - 300) = true then (if (spanN (canP l most i) k).2 < (spanN (canP l most i) k).1 then (k : Int) - 300 else (spanN (canP l most i) k).1,(k : Int) - 300) else spanN (canP l most i) k from rfl]
  cases canP l most i ((k : Int) - 300) with
  | false => rfl
  | true =>
   rw [if_pos rfl,cond_true]
   by_cases h : (spanN (canP l most i) k).2 < (spanN (canP l most i) k).1
   ·rw [dT h,if_pos h]
    rfl
   ·rw [dF h,if_neg h]
    rfl)
 exact this
theorem can_spec {N : Nat} (hN : 700 ≤ N) {l : List api_Span} (h : VL l) {most : Int} : shift_can N l most = some (if (canF l most).all spanOk = true then (canF l most,true) else ([],false)) := by
 have h1 := h.l1
 have h32 := h.l32
 unfold shift_can
 rw [reckoned_spec hN h,Option.bind_some,behind_spec hN h,Option.bind_some]
 have := scanS (ρ := List api_Span × Bool) (fun i : Nat => (((List.range i).map (cspan l most),(i : Int)) : List api_Span × Int)) (fun j => cond (spanOk (cspan l most j)) none (some ([],false))) l.length (fun s6 => shift_can_b6 N l most (aheads l) (rests l) s6.1 s6.2) (fun i hi => by
  show shift_can_b6 N l most (aheads l) (rests l) ((List.range i).map (cspan l most)) (i : Int) = _
  unfold shift_can_b6
  rw [lt_dec hi,cond_true,can_run hN h hi,Option.bind_some]
  show cond (decide ((cspan l most i).Hi < (cspan l most i).Lo)) _ _ = _
  unfold spanOk
  by_cases hs : (cspan l most i).Lo ≤ (cspan l most i).Hi
  ·rw [dF (by omega),dT hs,cond_false,cond_true,room_ok (by simp; omega),Option.bind_some,W_succ (by omega),range_succ_map]
  ·rw [dT (by omega),dF hs,cond_true,cond_false]) (by
  show shift_can_b6 N l most (aheads l) (rests l) _ (l.length : Int) = _
  unfold shift_can_b6
  rw [ge_dec,cond_false]) l.length 0 N (by omega) (by omega)
 rw [show (([] : List api_Span),(0 : Int)) = ((List.range 0).map (cspan l most),((0 : Nat) : Int)) from rfl,this,firstG_range,Option.bind_some]
 have e : (List.range' 0 l.length).all (fun j => spanOk (cspan l most j)) = (canF l most).all spanOk := by
  unfold canF
  rw [List.all_map,List.range_eq_range']
  rfl
 rw [e]
 cases (canF l most).all spanOk <;> rfl
end Go.Nilo
