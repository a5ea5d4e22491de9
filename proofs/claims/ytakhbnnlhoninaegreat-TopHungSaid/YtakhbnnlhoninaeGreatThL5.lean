/-
  What the plain functions compute, in plain arithmetic, part 5. Conditions: what each theorem names.
-/
import Derived.Test.YtakhbnnlhoninaeGreatThL4
set_option linter.unusedSimpArgs false
set_option linter.unusedVariables false
namespace Go.Nilo
def ci (q : List Nat) : List Int := q.map fun (i : Nat) => (i : Int)
theorem ci_len {q : List Nat} : (ci q).length = q.length := by simp [ci]
theorem ci_get {q : List Nat} {i : Nat} (h : i < q.length) : getI (ci q) (i : Int) = some ((q.getD i 0 : Nat) : Int) := by
 rw [getI_nat (by rw [ci_len]; exact h)]
 simp [ci,List.getD,h]
theorem ci_app {q r : List Nat} : ci (q ++ r) = ci q ++ ci r := by simp [ci]
def costH (s : gauge_Site) : Nat → Int → List Nat → Int × Int
 | _,sum,[] => (sum,0)
 | a,sum,x::q => if stepB s a x = true then costH s x (sum + cst s x) q else (0,7)
theorem loop15 {N : Nat} {s : gauge_Site} (h : SiOk s) {full : List Nat} {r3 : List Int} (hr : r3 ++ [W (((s.Points.length : Nat) : Int) + 1)] = ci full) (hfull : ∀ x ∈ full,x ≤ s.Points.length + 1) (hlen : full.length ≤ 50) :
  ∀ (rest pre : List Nat) (a : Nat) (sum : Int) (M : Nat),full = pre ++ rest → a ≤ s.Points.length + 1 → 0 ≤ sum ∧ sum ≤ 1000000 * (pre.length : Int) → rest.length < M →
   (Option.bind (loopO (fun s15 => gauge_Cost_b15 N s r3 s15.1 s15.2.1 s15.2.2) M (sum,(a : Int),(pre.length : Int))) fun x15 => exK x15 (fun s15 => some (s15.1,(0 : Int))) some) = some (costH s a sum rest)
 | [],pre,a,sum,0,_,_,_,hM => by simp at hM
 | [],pre,a,sum,M + 1,hf,ha,hs,hM => by
  have hp : pre.length = full.length := by rw [hf]; simp
  have hbody : (fun s15 : Int × Int × Int => gauge_Cost_b15 N s r3 s15.1 s15.2.1 s15.2.2) (sum,(a : Int),(pre.length : Int)) = some (.brk (sum,(a : Int),(pre.length : Int))) := by
   show gauge_Cost_b15 N s r3 sum (a : Int) (pre.length : Int) = _
   unfold gauge_Cost_b15
   rw [hr,ci_len,hp,ge_dec,cond_false]
  rw [loop_one hbody]
  rfl
 | x::rest,pre,a,sum,0,_,_,_,hM => by simp at hM
 | x::rest,pre,a,sum,M + 1,hf,ha,hs,hM => by
  have hp : pre.length < full.length := by rw [hf]; simp
  have hx : full.getD pre.length 0 = x := by rw [hf]; simp [List.getD]
  have hxm : x ≤ s.Points.length + 1 := hfull x (by rw [hf]; simp)
  have hn := h.n
  have hb := stn_bd h hxm
  have hbody : gauge_Cost_b15 N s r3 sum (a : Int) (pre.length : Int) = some (if stepB s a x = true then .cont (sum + cst s x,(x : Int),((pre.length + 1 : Nat) : Int)) else .ret (0,7)) := by
   unfold gauge_Cost_b15
   rw [hr,ci_len,lt_dec hp,cond_true,ci_get hp,Option.bind_some,hx,steps_spec2 h ha hxm,Option.bind_some]
   cases hst : stepB s a x with
   | false => rfl
   | true =>
    rw [Bool.not_true,cond_false,station_spec2 (by omega) hxm,Option.bind_some,W_succ (by omega),W_sm (by omega) (by omega)]
    rfl
  have hbody' : (fun s15 : Int × Int × Int => gauge_Cost_b15 N s r3 s15.1 s15.2.1 s15.2.2) (sum,(a : Int),(pre.length : Int)) = _ := hbody
  rw [loop_one hbody']
  show _ = some (if stepB s a x = true then costH s x (sum + cst s x) rest else (0,7))
  by_cases hst : stepB s a x = true
  ·rw [if_pos hst,if_pos hst]
   have := loop15 (N := N) h hr hfull hlen rest (pre ++ [x]) x (sum + cst s x) M (by rw [hf]; simp) hxm (by unfold cst; simp only [List.length_append,List.length_cons,List.length_nil]; push_cast; omega) (by simp at hM; omega)
   rw [List.length_append] at this
   exact this
  ·rw [if_neg hst,if_neg hst]
   rfl
def inP (s : gauge_Site) (x : Int) : Bool := decide (1 ≤ x ∧ x ≤ ((s.Points.length : Nat) : Int))
def riseI (l : List Int) : Bool := (List.range' 0 (l.length - 1)).all fun j => decide (l.getD j 0 < l.getD (j + 1) 0)
def costR (s : gauge_Site) (plan : List Int) : Int × Int :=
 if chkS s = 0 then (if plan.all (inP s) = true then (if riseI plan = true then costH s 0 0 (plan.map Int.toNat ++ [s.Points.length + 1]) else (0,9)) else (0,2)) else (0,chkS s)
theorem ci_toNat {s : gauge_Site} {plan : List Int} (h : plan.all (inP s) = true) : ci (plan.map Int.toNat) = plan := by
 unfold ci
 rw [List.map_map]
 refine List.ext_getElem (by simp) fun i h1 h2 => ?_
 simp only [List.getElem_map,Function.comp]
 have := List.all_eq_true.1 h _ (List.getElem_mem h2)
 unfold inP at this
 have := of_decide_eq_true this
 omega
theorem every_plan {N : Nat} {l : List Int} {s : gauge_Site} (hl : l.length < N) (hl' : l.length ≤ 1000000) : gauge_every_int N l s = some (l.all (inP s)) := by
 unfold gauge_every_int slices_ContainsFunc_Lint_int slices_IndexFunc_Lint_int
 refine every_gen (f := fun x => gauge_every_int_1 x s) (ok := inP s) (fun x => ?_) hl hl' _ (fun x => rfl)
 unfold gauge_every_int_1 gauge_Cost_1 inP
 rw [in_dec]
theorem rise_plan {N : Nat} (hN : 100 ≤ N) {l : List Int} (hl : l.length ≤ 50) : gauge_rising_s2 N ((l.length : Nat) : Int) l = some (riseI l) := by
 unfold gauge_rising_s2
 have := scanS (ρ := Bool) (fun i : Nat => ((i + 1 : Nat) : Int)) (fun j => cond (decide (l.getD j 0 < l.getD (j + 1) 0)) none (some false)) (l.length - 1) (fun s4 => gauge_rising_s2_b4 N ((l.length : Nat) : Int) l s4) (fun i hi => by
  show gauge_rising_s2_b4 N ((l.length : Nat) : Int) l ((i + 1 : Nat) : Int) = _
  unfold gauge_rising_s2_b4 gauge_Cost_2
  rw [lt_dec (by omega),cond_true,getI_d 0 (by omega),Option.bind_some,Option.bind_some,W_sm (by omega) (by omega),show ((i + 1 : Nat) : Int) - 1 = (i : Int) by omega,getI_d 0 (by omega),Option.bind_some,Option.bind_some,W_succ (by omega)]
  by_cases h : l.getD i 0 < l.getD (i + 1) 0
  ·rw [dT h,dF (by omega)]
   rfl
  ·rw [dF h,dT (by omega)]
   rfl) (by
  show gauge_rising_s2_b4 N ((l.length : Nat) : Int) l ((l.length - 1 + 1 : Nat) : Int) = _
  unfold gauge_rising_s2_b4
  rw [dF (by omega),cond_false]) (l.length - 1) 0 N (by omega) (by omega)
 show Option.bind (loopO (fun s4 => gauge_rising_s2_b4 N ((l.length : Nat) : Int) l s4) N ((0 + 1 : Nat) : Int)) _ = _
 rw [this,firstG_range]
 unfold riseI
 cases (List.range' 0 (l.length - 1)).all fun j => decide (l.getD j 0 < l.getD (j + 1) 0) <;> rfl
theorem cost_spec {N : Nat} (hN : 100 ≤ N) {s : gauge_Site} (hs : s.Points.length ≤ 40) {plan : List Int} (hp : plan.length ≤ 40) : gauge_Cost N s plan = some (costR s plan) := by
 unfold gauge_Cost costR
 rw [check_spec hN hs,Option.bind_some]
 by_cases hc : chkS s = 0
 ·have h := chk_ok hc
  rw [if_pos hc,hc]
  show Option.bind (gauge_every_int N plan s) _ = _
  rw [every_plan (by omega) (by omega),Option.bind_some]
  cases h1 : plan.all (inP s) with
  | false => rw [if_neg (by simp)]; rfl
  | true =>
   rw [if_pos rfl,Bool.not_true,cond_false,rise_plan hN (by omega),Option.bind_some]
   cases h2 : riseI plan with
   | false => rw [if_neg (by simp)]; rfl
   | true =>
    rw [if_pos rfl,Bool.not_true,cond_false]
    unfold slices_Clone_Lint_int
    rw [room_ok (by omega),Option.bind_some,Option.bind_some,room_ok (by simp; omega),Option.bind_some]
    have hn := h.n
    refine loop15 h (full := plan.map Int.toNat ++ [s.Points.length + 1]) (r3 := plan) (by rw [ci_app,ci_toNat h1,W_sm (by omega) (by omega)]; rfl) (fun x hx => ?_) (by simp; omega) _ [] 0 0 N rfl (by omega) (by simp) (by simp; omega)
    rcases List.mem_append.1 hx with hx | hx
    ·obtain ⟨y,hy,rfl⟩ := List.mem_map.1 hx
     have := of_decide_eq_true (List.all_eq_true.1 h1 y hy)
     omega
    ·rw [List.mem_singleton] at hx
     omega
 ·rw [if_neg hc,show (chkS s != 0) = true from bne_iff_ne.2 hc,cond_true]



end Go.Nilo
